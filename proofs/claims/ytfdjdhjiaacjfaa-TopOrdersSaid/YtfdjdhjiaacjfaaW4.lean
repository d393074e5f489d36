/- Walks: bits.Mul at 1, slices.Repeat of one int. -/
import Derived.Test.YtfdjdhjiaacjfaaW1
import Derived.Laws.CopyOwn
namespace Go.Proofs.Ytfdjdhjiaacjfaa.W
open Go Go.RowKit Go.Deep Go.Proofs.Ytfdjdhjiaacjfaa.Kx

theorem and_mask (N : Nat) (h : N < 4294967296) : bits .and .u64 (N : Int) 4294967295 = (N : Int) := by
  have := u64_and_nat N 4294967295 (by omega) (by omega)
  rw [show (4294967295 : Int) = ((4294967295 : Nat) : Int) from rfl, this]
  congr 1
  have := Nat.and_two_pow_sub_one_eq_mod N 32
  have e : (2 : Nat) ^ 32 - 1 = 4294967295 := by decide
  rw [e] at this
  rw [this]
  exact Nat.mod_eq_of_lt (by omega)
theorem mul64_any (N : Nat) (w : World) (h : N < 1000000) :
    Calls Try.prog 31 #[.int .u64 1, .int .u64 N] w fun e w' => e = .returned (.tuple #[.int .u64 0, .int .u64 N]) ∧ w = w' := by
  have e1 : bits .and .u64 1 4294967295 = 1 := and_mask 1 (by omega)
  have e2 := and_mask N (by omega)
  have e3 : (N : Int) / 4294967296 = 0 := by omega
  go_enter Try.func31, Try.ntmps31
  go_wp2
  go_ret2
  exact ⟨rfl, rfl⟩
theorem mul_any (N : Nat) (w : World) (h : N < 1000000) :
    Calls Try.prog 28 #[.int .u64 1, .int .u64 N] w fun e w' => e = .returned (.tuple #[.int .u64 0, .int .u64 N]) ∧ w = w' := by
  go_enter Try.func28, Try.ntmps28
  go_wp2_with (go_at_call 31; refine (mul64_any N _ h).mono ?_; rintro e w' ⟨rfl, rfl⟩)
  go_ret2
  exact ⟨rfl, rfl⟩

/-- k times v, the rest z -/
def repK (v z : Value) (N k : Nat) : List Value := List.replicate k v ++ List.replicate (N - k) z
theorem repK_len (v z : Value) (N k : Nat) (h : k ≤ N) : (repK v z N k).length = N := by simp [repK]; omega
theorem repK_splice (v z : Value) (N k j : Nat) (h : k + j ≤ N) : splice (repK v z N k) k (List.replicate j v) = repK v z N (k + j) := by
  unfold splice repK
  have e1 : (List.replicate k v ++ List.replicate (N - k) z).take k = List.replicate k v := by simp
  have e2 : (List.replicate k v ++ List.replicate (N - k) z).drop (k + (List.replicate j v).length) = List.replicate (N - (k + j)) z := by
    rw [List.drop_append, List.length_replicate, List.length_replicate]
    rw [List.drop_eq_nil_of_le (by simp), List.nil_append, List.drop_replicate]
    congr 1
    omega
  rw [e1, e2, ← List.append_assoc, List.replicate_append_replicate]
theorem repK_get (v z : Value) (N k i : Nat) (hi : i < k) (_h : k ≤ N) : (repK v z N k).toArray[i]? = some v := by
  simp [repK, List.getElem?_append, hi]
theorem size1_3 : (Try.prog.info? 3).map (·.size) = some 1 := by kernel_rfl

theorem repK_made (z v : Value) (N : Nat) (w : World) (T : TypeId) : (w.alloc (.cells (madeCells #[z] N) T)).heap[w.heap.size]? = some (.cells (repK v z N 0).toArray T (0, 0)) := by
  rw [blk_alloc_new]
  congr 2
  apply Array.ext'
  rw [toList_madeCells_one]
  simp [repK]
theorem repK_cell (v z : Value) (N k b : Nat) (w : World) (T : TypeId) (hk : k ≤ N) (h : w.heap[b]? = some (.cells (repK v z N k).toArray T (0, 0))) : ∀ i, i < k → w.cell? ⟨b, i, none⟩ = some v := by
  intro i hi
  simp only [World.cell?, h]
  exact repK_get v z N k i hi hk
theorem repK_row (v z : Value) (N b : Nat) (w : World) (T : TypeId) (h : w.heap[b]? = some (.cells (repK v z N N).toArray T (0, 0))) : Row w b T N (fun _ => v) :=
  ⟨_, h, by simp [repK], fun i hi => repK_get v z N N i hi (Nat.le_refl _)⟩
theorem replicate_one_cell (k : Nat) (v : Value) (hv : v.oneCell' = true) : ∀ u ∈ List.replicate k v, u.oneCell' = true := by
  intro u hu
  rw [List.eq_of_mem_replicate hu]
  exact hv
theorem add_plain (g j : Nat) : (⟨g, 0, none⟩ : Addr).add j = ⟨g, j, none⟩ := by unfold Addr.add; split <;> simp_all

set_option maxHeartbeats 1000000 in
theorem repeat_any (v : Int) (bx cx N : Nat) (w : World) (h1 : 1 ≤ N) (hN : N < 100000) (hv : w.cell? ⟨bx, 0, none⟩ = some (.int .i64 v)) :
    Calls Try.prog 23 #[.slice (some ⟨bx, 0, none⟩) 1 cx, .int .i64 N] w fun e w' => ∃ g, e = .returned (.slice (some ⟨g, 0, none⟩) N N) ∧ w.heap.size ≤ g ∧ Row w' g 3 N (fun _ => .int .i64 v) ∧ Below w.heap.size w w' := by
  have hmk := run_make_row' (P := Try.prog) 24 3 (.int .i64 0) 8 Try.underlying24 info3 rfl .i64 .i64 N (by omega) (by omega)
  have hu : IntKind.u64.wrap (N : Int) = (N : Int) := by rw [IntKind.wrap_u64]; omega
  have hA := Lib.hid (repK_made (.int .i64 0) (.int .i64 v) N w 3)
  have hsrc : Hid (∀ (j : Nat) (u : Value), [Value.int .i64 v][j]? = some u → (w.alloc (.cells (madeCells #[Value.int IntKind.i64 0] N) 3)).cell? ((⟨bx, 0, none⟩ : Addr).add j) = some u) := Lib.hid (by
    intro j u hu
    match j, hu with
    | 0, hu =>
      simp at hu
      subst hu
      rw [add_plain]
      exact ((Below.refl w.heap.size w).alloc (Nat.le_refl _) _).cell (World.block_lt_of_cell? w _ hv) |>.trans hv)
  have hz0 : (0 : Int) ≤ (N : Int) := by omega
  have q1 : Hid ([Value.int .i64 v].length = Nat.min 1 N) := Lib.hid (show 1 = Nat.min 1 N from (Nat.min_eq_left h1).symm)
  have q2 : Hid (0 + [Value.int .i64 v].length ≤ (repK (.int .i64 v) (.int .i64 0) N 0).length) := Lib.hid (by rw [repK_len _ _ _ _ (Nat.zero_le _)]; simpa using h1)
  have q3 : Hid (∀ u ∈ [Value.int .i64 v], u.oneCell' = true) := Lib.hid (replicate_one_cell 1 _ rfl)
  go_enter Try.func23, Try.ntmps23
  go_wp2_with (first
    | (go_at_call 28; refine (mul_any N _ (by omega)).mono ?_; rintro e w' ⟨rfl, rfl⟩)
    | (with_reducible refine wpList_copy_splice rfl (.tmp 31) (.tmp 32) 24 24 rfl 3 Try.underlying24 size1_3 (some ⟨w.heap.size, 0, none⟩) (some ⟨bx, 0, none⟩) N N 1 cx rfl rfl w.heap.size 0 (repK (.int .i64 v) (.int .i64 0) N 0) 3 hA.out [.int .i64 v] q1.out (fun _ => ⟨rfl, _, rfl, hsrc.out⟩) q2.out q3.out w.heap.size w ((Below.refl _ _).alloc (Nat.le_refl _) _) (Nat.le_refl _) ?_; intro w1 H1 hb1))
  have H2 := H1.out
  rw [show [Value.int IntKind.i64 v] = List.replicate 1 (Value.int .i64 v) from rfl, repK_splice _ _ _ _ _ (by omega)] at H2
  have H3 := Lib.hid H2
  clear H1 H2 hsrc hA hv
  go_loopw [8] (fun i wr => ∃ k : Nat, 1 ≤ k ∧ k ≤ N ∧ i = .int .i64 k ∧ Hid (wr.heap[w.heap.size]? = some (.cells (repK (.int .i64 v) (.int .i64 0) N k).toArray 3 (0, 0))) ∧ Below w.heap.size w wr)
    (fun i _ => N - (intOf i).toNat)
  case atStart => exact ⟨1, Nat.le_refl _, h1, by go_num, H3, hb1⟩
  case round =>
    obtain ⟨k, hk1, hk, rfl, H, hbel⟩ := hrel
    clear H3 hb1
    by_cases hlt : k < N
    · have hns : ¬ N = k := by omega
      obtain ⟨j, hj⟩ : ∃ j, j = Nat.min k (N - k) := ⟨_, rfl⟩
      have hj0 : 1 ≤ j := by rw [hj]; exact Nat.le_min.2 ⟨hk1, by omega⟩
      have hj1 : k + j ≤ N := by have := Nat.min_le_right k (N - k); have : j ≤ N - k := by rw [hj]; exact this
                                 omega
      have hjk : j ≤ k := by rw [hj]; exact Nat.min_le_left _ _
      have r1 : Hid ((List.replicate j (Value.int .i64 v)).length = Nat.min k (N - k)) := Lib.hid (by rw [List.length_replicate, hj])
      have r2 : Hid (∀ (i : Nat) (u : Value), (List.replicate j (Value.int .i64 v))[i]? = some u → wr.drew.cell? ((⟨w.heap.size, 0, none⟩ : Addr).add i) = some u) := Lib.hid (by
        intro i u hu
        have hi : i < j := by
          have := (List.getElem?_eq_some_iff.1 hu).1
          simpa using this
        rw [add_plain]
        have hc := repK_cell (.int .i64 v) (.int .i64 0) N k w.heap.size wr 3 hk H.out i (by omega)
        have he : u = .int .i64 v := by
          rw [List.getElem?_replicate, if_pos hi] at hu
          exact (Option.some.inj hu).symm
        rw [he]
        exact hc)
      have r3 : Hid (k + (List.replicate j (Value.int .i64 v)).length ≤ (repK (.int .i64 v) (.int .i64 0) N k).length) := Lib.hid (by rw [repK_len _ _ _ _ hk, List.length_replicate]; exact hj1)
      have r4 : Hid (∀ u ∈ List.replicate j (Value.int .i64 v), u.oneCell' = true) := Lib.hid (replicate_one_cell j _ rfl)
      have r5 : Hid (wr.drew.heap[w.heap.size]? = some (.cells (repK (.int .i64 v) (.int .i64 0) N k).toArray 3 (0, 0))) := Lib.hid H.out
      have r6 : Hid (Below w.heap.size w wr.drew) := Lib.hid hbel.drew
      clear hj
      go_wp2
      go_region_law (refine step_copy_splice rfl (.tmp 41) (.tmp 44) 24 24 rfl 3 Try.underlying24 size1_3 (some ⟨w.heap.size, k, none⟩) (some ⟨w.heap.size, 0, none⟩) (N - k) (N - k) k N (by simp [Act.eval, Act.put]) (by simp [Act.eval, Act.put]) w.heap.size k (repK (.int .i64 v) (.int .i64 0) N k) 3 r5.out (List.replicate j (.int .i64 v)) r1.out (fun _ => ⟨rfl, _, rfl, r2.out⟩) r3.out r4.out w.heap.size w r6.out (Nat.le_refl _) ?_; intro w2 H4 hb2)
      have H5 := H4.out
      rw [repK_splice _ _ _ _ _ hj1] at H5
      have H6 := Lib.hid H5
      have hw : IntKind.i64.wrap ((k : Int) + (j : Int)) = ((k + j : Nat) : Int) := by rw [IntKind.wrap_i64]; omega
      clear H4 H5 r1 r2 r3 r4 r5 r6 H
      go_simp
      go_wp2
      go_roundw
      case rel => exact ⟨k + j, by omega, hj1, by simp, H6, hb2⟩
      case measure => simp [intOf]; omega
    · obtain rfl : k = N := by omega
      go_wp2
      go_ret
      exact ⟨_, rfl, Nat.le_refl _, repK_row _ _ _ _ _ _ H.out, hbel⟩
end Go.Proofs.Ytfdjdhjiaacjfaa.W
