/- Walks: slices.Index, Contains, Clone, Equal at []int. -/
import Derived.Test.YtfdjdhjiaacjfaaW1
import Derived.Lib.SliceRun
namespace Go.Proofs.Ytfdjdhjiaacjfaa.W
open Go Go.RowKit Go.Deep Go.Proofs.Ytfdjdhjiaacjfaa.Kx

/-- where j first is, or -1 -/
def idxI (l : List Nat) (j : Nat) : Int := match l.idxOf? j with | some i => i | none => -1

theorem index_any (A : Option Addr) (g c : Nat) (l : List Nat) (j : Nat) (w : World) (hl : l.length ≤ 1000000) (hA : 0 < l.length → A = some ⟨g, 0, none⟩)
    (hc : ∀ i (hi : i < l.length), w.cell? ⟨g, i, none⟩ = some (.int .i64 (l[i]'hi : Nat))) :
    Calls Try.prog 12 #[.slice A l.length c, .int .i64 j] w fun e w' => (∃ i : Int, e = .returned (.int .i64 i) ∧ (0 ≤ i ↔ j ∈ l) ∧ -1 ≤ i ∧ i ≤ 1000000) ∧ w = w' := by
  rcases Nat.eq_zero_or_pos l.length with h0 | h0
  · have hl0 : l = [] := List.length_eq_zero_iff.1 h0
    subst hl0
    go_enter Try.func12, Try.ntmps12
    go_wp2
    refine wp_loop_rounds 1 ?_
    rw [rounds_succ]
    go_wp2
    go_ret
    exact ⟨⟨-1, rfl, by simp, by omega, by omega⟩, rfl⟩
  · obtain rfl := hA h0
    have Hc := Lib.hid hc
    clear hc hA
    go_enter Try.func12, Try.ntmps12
    go_wp2
    go_loop [8] (fun i => ∃ k : Nat, k ≤ l.length ∧ i = .int .i64 k ∧ Hid (∀ i (hi : i < l.length), i < k → l[i] ≠ j)) (fun i => l.length - (intOf i).toNat)
    case atStart => exact ⟨0, Nat.zero_le _, rfl, Lib.hid (fun i hi h => by omega)⟩
    case round =>
      obtain ⟨k, hk, rfl, hno⟩ := hrel
      by_cases hlt : k < l.length
      · have ck := Hc.out k hlt
        generalize hx : l[k] = x at ck
        have Hx := Lib.hid hx
        clear hx
        by_cases e : j = x
        · have he : ((j : Int) == (x : Int)) = true := by simp [e]
          have E := Lib.hid e
          clear e
          go_wp2
          go_ret
          exact ⟨⟨k, rfl, by constructor
                             · intro _; rw [E.out, ← Hx.out]; exact List.getElem_mem _
                             · intro _; omega, by omega, by omega⟩, rfl⟩
        · have he : ((j : Int) == (x : Int)) = false := by rw [nat_beq]; simpa using e
          have E := Lib.hid e
          clear e
          go_wp2
          go_round
          case rel =>
            refine ⟨k + 1, by omega, by go_num, Lib.hid (fun i hi h => ?_)⟩
            by_cases hik : i = k
            · subst hik
              rw [Hx.out]
              exact fun h => E.out h.symm
            · exact hno.out i hi (by omega)
          case measure => simp [intOf]; omega
      · obtain rfl : k = l.length := by omega
        go_wp2
        go_ret
        refine ⟨⟨-1, rfl, ?_, by omega, by omega⟩, rfl⟩
        constructor
        · intro h; omega
        · intro h
          obtain ⟨i, hi, he⟩ := List.mem_iff_getElem.1 h
          exact absurd he (hno.out i hi hi)

theorem contains_any (A : Option Addr) (g c : Nat) (l : List Nat) (j : Nat) (w : World) (hl : l.length ≤ 1000000) (hA : 0 < l.length → A = some ⟨g, 0, none⟩)
    (hc : ∀ i (hi : i < l.length), w.cell? ⟨g, i, none⟩ = some (.int .i64 (l[i]'hi : Nat))) :
    Calls Try.prog 6 #[.slice A l.length c, .int .i64 j] w fun e w' => e = .returned (.bool (decide (j ∈ l))) ∧ w = w' := by
  have H := Lib.hid (index_any A g c l j w hl hA hc)
  clear hA hc
  go_enter Try.func6, Try.ntmps6
  go_wp2_with (go_at_call 12; refine H.out.mono ?_; rintro e w' ⟨⟨i, rfl, hi, hi1, hi2⟩, rfl⟩; have Hi := Lib.hid hi; clear hi)
  go_ret
  refine ⟨ret_bool ?_, rfl⟩
  simp only [decide_eq_decide]
  exact Hi.out

theorem equal_any (g1 g2 c1 c2 n : Nat) (o : Nat → Nat) (w : World) (hn : n ≤ 1000000) (h1 : Row w g1 3 n (fun i => .int .i64 (o i))) (h2 : Row w g2 3 n (fun i => .int .i64 (o i))) :
    Calls Try.prog 11 #[.slice (some ⟨g1, 0, none⟩) n c1, .slice (some ⟨g2, 0, none⟩) n c2] w fun e w' => e = .returned (.bool true) ∧ Below w.heap.size w w' := by
  go_enter Try.func11, Try.ntmps11
  go_wp2
  go_loopw [13] (fun i wr => ∃ k : Nat, k ≤ n ∧ i = .int .i64 k ∧ Drw w wr) (fun i _ => n - (intOf i).toNat)
  case atStart => exact ⟨0, Nat.zero_le _, rfl, Drw.refl _⟩
  case round =>
    obtain ⟨k, hk, rfl, hq⟩ := hrel
    by_cases hlt : k < n
    · have k1 := hq.cell (h1.cell hlt)
      have k2 := hq.cell (h2.cell hlt)
      go_wp2
      go_region
      all_goals
        go_wp2
        go_roundw
        case rel => exact ⟨k + 1, by omega, by go_num, hq.drew⟩
        case measure => simp [intOf]; omega
    · obtain rfl : k = n := by omega
      go_wp2
      go_ret
      exact ⟨rfl, hq.below (Below.refl _ _)⟩

theorem clone_any (A : Option Addr) (base c : Nat) (l : List Nat) (w : World) (hl : l.length ≤ 1000000) (hA : l.length = 0 → A = none) (hown : OwnI w base (.slice A l.length c) l) :
    Calls Try.prog 5 #[.slice A l.length c] w fun e w' => (∃ A' c', e = .returned (.slice A' l.length c') ∧ OwnI w' w.heap.size (.slice A' l.length c') l) ∧ Below w.heap.size w w' := by
  have qT : ∀ (w : World) (a : Option Addr) (n c n' c' : Nat), (binOp .eql 24 (.slice a n c) (.slice none n' c')).run Try.prog w = .ok (.bool a.isNone) w := fun w a n c n' c' => Lib.run_eql_slice_nil w _ _ a n c n' c' Try.underlying24
  rcases Nat.eq_zero_or_pos l.length with h0 | h0
  · obtain rfl := hA h0
    have hl0 : l = [] := List.length_eq_zero_iff.1 h0
    subst hl0
    clear hA
    go_enter Try.func5, Try.ntmps5
    go_wp2
    go_ret
    exact ⟨⟨none, 0, rfl, World.ownsRow_nil _ _ _ _⟩, Below.refl _ _⟩
  · obtain ⟨g, rfl, hb, hlt, hc⟩ := hown.cells h0
    obtain ⟨i0, hi0, hz0, hz1, hz2⟩ := info_parts info3
    have hemp := Lib.hid (World.ownsRow_lit (base := w.heap.size) (e := 3) (size := 1) w #[] 0 (Nat.le_refl _) (Nat.zero_le _) rfl)
    have hlen : Hid ((l.map fun x => Value.int .i64 (x : Nat)).length = l.length * 1) := Lib.hid (by simp)
    have hnews : Hid (∀ (j : Nat) (u : Value), (l.map fun x => Value.int .i64 (x : Nat))[j]? = some u → (w.alloc (.cells #[] 3)).cell? ((⟨g, 0, none⟩ : Addr).add j) = some u) := Lib.hid (by
      intro j u hu
      have hj : j < l.length := by
        have := (List.getElem?_eq_some_iff.1 hu).1
        simpa using this
      have hu' : u = .int .i64 (l[j] : Nat) := by
        rw [List.getElem?_map, List.getElem?_eq_getElem hj] at hu
        exact (Option.some.inj hu).symm
      rw [show (⟨g, 0, none⟩ : Addr).add j = ⟨g, j, none⟩ from by unfold Addr.add; split <;> simp_all, hu']
      exact (((Below.refl w.heap.size w).alloc (Nat.le_refl _) _).cell hlt).trans (hc j hj))
    have hone : Hid (∀ u ∈ (l.map fun x => Value.int .i64 (x : Nat)), u.oneCell' = true) := Lib.hid (by
      intro u hu
      obtain ⟨_, _, rfl⟩ := List.mem_map.1 hu
      rfl)
    have hmx : Hid (0 + l.length ≤ maxLen) := Lib.hid (by unfold maxLen; omega)
    have hby : Hid ((0 + l.length) * 8 ≤ 140737488355328) := Lib.hid (by omega)
    have hbs : Hid (w.heap.size ≤ (w.alloc (.cells #[] 3)).heap.size) := Lib.hid (by simp)
    clear hc hA
    go_enter Try.func5, Try.ntmps5
    go_wp2_with (at_builtin; refine wpList_append_own_at _ rfl (.tmp 5) (.tmp 6) 24 rfl w.heap.size 3 i0 (.int .i64 0) 1 8 Try.underlying24 hi0 hz0 hz1 hz2 rfl (by decide) _ 0 [] rfl hemp.out ⟨g, 0, none⟩ l.length c _ rfl hlen.out hnews.out hone.out hmx.out hby.out hbs.out ?_; intro v1 w1 hown1 hg1 _ _)
    go_ret
    obtain ⟨g1, c1, rfl, _, _⟩ := hown1.form (by omega)
    rw [Nat.zero_add] at hown1
    refine ⟨⟨some ⟨g1, 0, none⟩, c1, by simp, ?_⟩, ?_⟩
    · simpa [OwnI] using hown1
    · exact ((Below.refl _ _).alloc (Nat.le_refl _) _).grown hg1 (by simp) (fun k hk => Nat.le_of_eq (Option.some.inj hk))
end Go.Proofs.Ytfdjdhjiaacjfaa.W
