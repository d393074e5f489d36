/- Walks: bath.follows, Plan.needs. -/
import Derived.Test.YtfdjdhjiaacjfaaProg
import Derived.Test.YtfdjdhjiaacjfaaKx
namespace Go.Proofs.Ytfdjdhjiaacjfaa.W
open Go Go.RowKit Go.Proofs.Ytfdjdhjiaacjfaa.Kx

/-- can bath j follow the set s, where nd are the sets of needs -/
def fol (nd : Nat → Nat) (s j : Nat) : Bool := !s.testBit j && (nd j &&& s == nd j)

theorem follows_any (b c n : Nat) (nd : Nat → Nat) (s j : Nat) (w : World) (hj : j < n) (hn : n ≤ 60) (hs : s < 9223372036854775808) (hnd : nd j < 9223372036854775808)
    (hc : w.cell? ⟨b, j, none⟩ = some (.int .i64 (nd j))) :
    Calls Try.prog 18 #[.slice (some ⟨b, 0, none⟩) n c, .int .i64 s, .int .i64 j] w fun e w' => e = .returned (.bool (fol nd s j)) ∧ w = w' := by
  have e1 := shr_and_one s j hs (by omega)
  rw [min64 (by omega)] at e1
  have e2 := andNot_zero (nd j) s hnd hs
  have H : Hid (fol nd s j = (!s.testBit j && (nd j &&& s == nd j))) := Lib.hid rfl
  cases h1 : s.testBit j
  · rw [h1] at e1
    simp only [Bool.false_eq_true, if_false] at e1
    by_cases h2 : nd j &&& s = nd j
    · have e3 : bits .andNot .i64 (nd j : Int) (s : Int) = 0 := e2.2 h2
      have hr : Hid (fol nd s j = true) := Lib.hid (by rw [H.out, h1, h2]; simp)
      clear e2 h2 H h1
      go_enter Try.func18, Try.ntmps18
      go_wp2
      go_ret
      exact ⟨ret_bool hr.out.symm, rfl⟩
    · have e3 : (bits .andNot .i64 (nd j : Int) (s : Int) == 0) = false := by simpa using fun h => h2 (e2.1 h)
      have hr : Hid (fol nd s j = false) := Lib.hid (by rw [H.out, h1]; simpa using h2)
      clear e2 h2 H h1
      go_enter Try.func18, Try.ntmps18
      go_wp2
      go_ret
      exact ⟨ret_bool hr.out.symm, rfl⟩
  · rw [h1] at e1
    simp only [if_true] at e1
    have hr : Hid (fol nd s j = false) := Lib.hid (by rw [H.out, h1]; simp)
    clear e2 H h1
    go_enter Try.func18, Try.ntmps18
    go_wp2
    go_ret
    exact ⟨ret_bool hr.out.symm, rfl⟩

/-- a plan: n baths, what they cost, m pairs of which the first must come ahead of the second -/
structure PlanD where
  n : Nat
  S : Nat → Nat
  C : Nat → Nat → Nat
  m : Nat
  B0 : Nat → Nat
  B1 : Nat → Nat
structure PlanD.Ok (D : PlanD) : Prop where
  n1 : 1 ≤ D.n
  n6 : D.n ≤ 6
  s : ∀ i, i < D.n → D.S i ≤ 255
  c : ∀ i j, i < D.n → j < D.n → D.C i j ≤ 255
  m8 : D.m ≤ 8
  b0 : ∀ k, k < D.m → D.B0 k < D.n
  b1 : ∀ k, k < D.m → D.B1 k < D.n
  ne : ∀ k, k < D.m → D.B0 k ≠ D.B1 k
/-- where a plan's slices lie -/
structure Loc where
  bs : Nat
  cs : Nat
  bc : Nat
  cc : Nat
  R : Nat → Nat
  Rc : Nat → Nat
  A : Option Addr
  bb : Nat
  cb : Nat
def Loc.args (L : Loc) (D : PlanD) : Array Value := #[.slice (some ⟨L.bs, 0, none⟩) D.n L.cs, .slice (some ⟨L.bc, 0, none⟩) D.n L.cc, .slice L.A D.m L.cb]
structure PlanAt (w : World) (D : PlanD) (L : Loc) : Prop where
  s : Row w L.bs 3 D.n (fun i => .int .i64 (D.S i))
  c : Row w L.bc 24 D.n (fun i => .slice (some ⟨L.R i, 0, none⟩) D.n (L.Rc i))
  r : ∀ i, i < D.n → Row w (L.R i) 3 D.n (fun j => .int .i64 (D.C i j))
  A : 0 < D.m → L.A = some ⟨L.bb, 0, none⟩
  b : 0 < D.m → Row w L.bb 33 (D.m * 2) (fun i => .int .i64 (if i % 2 = 0 then D.B0 (i / 2) else D.B1 (i / 2)))
theorem PlanAt.of_below {w w' : World} {D : PlanD} {L : Loc} (h : PlanAt w D L) (hb : Below w.heap.size w w') : PlanAt w' D L :=
  ⟨h.s.below hb h.s.lt, h.c.below hb h.c.lt, fun i hi => (h.r i hi).below hb (h.r i hi).lt, h.A, fun hm => (h.b hm).below hb (h.b hm).lt⟩

theorem PlanAt.drew {w : World} {D : PlanD} {L : Loc} (h : PlanAt w D L) : PlanAt w.drew D L := ⟨h.s, h.c, h.r, h.A, h.b⟩
/-- the set of what must come ahead of bath j, by the first k pairs -/
def ndK (D : PlanD) : Nat → Nat → Nat
  | 0, _ => 0
  | k + 1, j => if j = D.B1 k then ndK D k j ||| 2 ^ D.B0 k else ndK D k j
def nd (D : PlanD) (j : Nat) : Nat := ndK D D.m j
theorem ndK_lt (D : PlanD) (hD : D.Ok) (j : Nat) : ∀ k, k ≤ D.m → ndK D k j < 2 ^ 6 := by
  intro k
  induction k with
  | zero => intro _; simp [ndK]
  | succ k ih =>
    intro hk
    have := ih (by omega)
    have h0 := hD.b0 k (by omega)
    have h6 := hD.n6
    simp only [ndK]
    split
    · exact Nat.or_lt_two_pow this (Nat.pow_lt_pow_right (by omega) (by omega))
    · exact this
theorem info3 : (Try.prog.info? 3).map (fun i => (i.zero, i.size, i.bytes)) = some (some (.int .i64 0), 1, 8) := by kernel_rfl

theorem mod_two (k : Nat) : (k * 2 + 1) % 2 = 1 := by omega
theorem div_two (k : Nat) : (k * 2 + 1) / 2 = k := by omega
set_option maxHeartbeats 1000000 in
theorem needs_any (D : PlanD) (L : Loc) (w : World) (hD : D.Ok) (hp : PlanAt w D L) :
    Calls Try.prog 15 #[.agg (L.args D)] w fun e w' => ∃ g, e = .returned (.slice (some ⟨g, 0, none⟩) D.n D.n) ∧ w.heap.size ≤ g ∧ Row w' g 3 D.n (fun i => .int .i64 (nd D i)) ∧ Below w.heap.size w w' := by
  obtain ⟨bs, cs, bc, cc, R, Rc, A, bb, cb⟩ := L
  obtain ⟨_, _, _, hA, hb⟩ := hp
  simp only at hA hb
  unfold Loc.args
  have hn1 := hD.n1
  have hn6 := hD.n6
  have hm8 := hD.m8
  have hmk := run_make_row' (P := Try.prog) 24 3 (.int .i64 0) 8 Try.underlying24 info3 rfl .i64 .i64 D.n (by omega) (by omega)
  have hA' : 0 < D.m → A = some ⟨bb, 0, none⟩ := hA
  clear hA
  rcases Nat.eq_zero_or_pos D.m with hm | hm
  · go_enter Try.func15, Try.ntmps15
    go_wp2
    refine wp_loop_rounds 1 ?_
    rw [rounds_succ]
    go_wp2
    go_ret
    refine ⟨w.heap.size + 1, rfl, by omega, (Row.made_at _ (by simp) _ _ _).congr (fun j _ => ?_), ((Below.refl _ _).alloc (Nat.le_refl _) _).alloc (by simp) _⟩
    unfold nd
    rw [hm]
    rfl
  · obtain rfl := hA' hm
    clear hA'
    have hbb := (hb hm).lt
    have hb' : Row w bb 33 (D.m * 2) (fun i => .int .i64 (if i % 2 = 0 then D.B0 (i / 2) else D.B1 (i / 2))) := hb hm
    have Hb : Hid (Row w bb 33 (D.m * 2) (fun i => .int .i64 (if i % 2 = 0 then D.B0 (i / 2) else D.B1 (i / 2)))) := Lib.hid hb'
    clear hb hb'
    go_enter Try.func15, Try.ntmps15
    go_wp2
    go_loopw [13] (fun i wr => ∃ k : Nat, k ≤ D.m ∧ i = .int .i64 k ∧ Row wr (w.heap.size + 1) 3 D.n (fun j => .int .i64 (ndK D k j)) ∧ Below w.heap.size w wr ∧ w.heap.size + 2 ≤ wr.heap.size)
      (fun i _ => D.m - (intOf i).toNat)
    case atStart =>
      refine ⟨0, Nat.zero_le _, rfl, (Row.made_at _ (by simp) _ _ _).congr (fun _ _ => rfl), ((Below.refl _ _).alloc (Nat.le_refl _) _).alloc (by simp) _, by simp⟩
    case round =>
      obtain ⟨k, hk, rfl, hrow, hbel, hsz⟩ := hrel
      by_cases hlt : k < D.m
      · have c0 : wr.cell? ⟨bb, k * 2, none⟩ = some (.int .i64 (D.B0 k)) := by
          rw [hbel.cell hbb, Hb.out.cell (by omega)]; simp
        have c1 : wr.cell? ⟨bb, k * 2 + 1, none⟩ = some (.int .i64 (D.B1 k)) := by
          rw [hbel.cell hbb, Hb.out.cell (by omega), mod_two, div_two]; simp
        have hB1 := hD.b1 k hlt
        have hB0 := hD.b0 k hlt
        have c2 := fun o => (hrow.alloc o).cell hB1
        have c3 := fun o => (hrow.alloc o).frozen (D.B1 k)
        have hk1 := ndK_lt D hD (D.B1 k) k hk
        go_wp2
        go_region
        clear c0 c1 c2 c3
        go_wp2
        go_roundw
        case rel =>
          refine ⟨k + 1, by omega, by go_num, ?_, ?_, ?_⟩
          · refine (((hrow.alloc _).set _ _).drew).congr fun j hj => ?_
            simp only [ndK]
            split
            · rename_i hjj
              rw [hjj, or_pow _ _ (by omega) (by omega)]
            · rfl
          · exact ((hbel.alloc (by omega) _).setCell (by simp) _).drew
          · simp; omega
        case measure => simp [intOf]; omega
      · go_wp2
        go_ret
        obtain rfl : k = D.m := by omega
        exact ⟨w.heap.size + 1, rfl, by omega, hrow, hbel⟩
end Go.Proofs.Ytfdjdhjiaacjfaa.W
