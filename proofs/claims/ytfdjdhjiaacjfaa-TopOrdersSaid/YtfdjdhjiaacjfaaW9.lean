/- Walks: bath.Cost, at orders that can be. -/
import Derived.Test.YtfdjdhjiaacjfaaW8
namespace Go.Proofs.Ytfdjdhjiaacjfaa.W
open Go Go.RowKit Go.Deep Go.Proofs.Ytfdjdhjiaacjfaa.Kx

def setK (o : Nat → Nat) : Nat → Nat
  | 0 => 0
  | k + 1 => setK o k ||| 2 ^ o k
def sumK (D : PlanD) (o : Nat → Nat) : Nat → Nat
  | 0 => 0
  | k + 1 => if k = 0 then D.S (o k) else sumK D o k + D.C (o (k - 1)) (o k)
theorem setK_lt (o : Nat → Nat) (n : Nat) (h : ∀ k, k < n → o k < n) : ∀ k, k ≤ n → setK o k < 2 ^ n := by
  intro k
  induction k with
  | zero => intro _; exact Nat.two_pow_pos n
  | succ k ih => intro hk; exact or_lt (ih (by omega)) (h k (by omega))
theorem sumK_le (D : PlanD) (hD : D.Ok) (o : Nat → Nat) (h : ∀ k, k < D.n → o k < D.n) : ∀ k, k ≤ D.n → sumK D o k ≤ 255 * k := by
  intro k
  induction k with
  | zero => intro _; simp [sumK]
  | succ k ih =>
    intro hk
    have := ih (by omega)
    simp only [sumK]
    split
    · have := hD.s (o k) (h k (by omega)); omega
    · have := hD.c (o (k - 1)) (o k) (h _ (by omega)) (h k (by omega)); omega

set_option maxHeartbeats 2000000 in
theorem cost_any (D : PlanD) (L : Loc) (w : World) (hD : D.Ok) (hp : PlanAt w D L) (g c : Nat) (o : Nat → Nat) (ho : ∀ k, k < D.n → o k < D.n)
    (hf : ∀ k, k < D.n → fol (nd D) (setK o k) (o k) = true) (hr : Row w g 3 D.n (fun i => .int .i64 (o i))) :
    Calls Try.prog 9 #[.agg (L.args D), .slice (some ⟨g, 0, none⟩) D.n c] w fun e w' => e = .returned (.tuple #[.int .i64 (sumK D o D.n), .int .i64 0]) ∧ Below w.heap.size w w' := by
  have hn1 := hD.n1
  have hn6 := hD.n6
  have hp2 := two_pow_le6 hn6
  have hpa : ∀ W, Below w.heap.size w W → PlanAt W D L := fun W h => hp.of_below h
  have valid := fun W (h : Below w.heap.size w W) => valid_any D L W hD (hpa W h)
  have needs := fun W (h : Below w.heap.size w W) => needs_any D L W hD (hpa W h)
  unfold Loc.args at valid needs ⊢
  have Hvalid := Lib.hid valid
  have Hneeds := Lib.hid needs
  have Hpa := Lib.hid hpa
  have Hf := Lib.hid hf
  have Ho := Lib.hid ho
  have Hr := Lib.hid hr
  have h0 : Below w.heap.size w (w.alloc (.cells #[.slice (some ⟨L.bs, 0, none⟩) D.n L.cs, .slice (some ⟨L.bc, 0, none⟩) D.n L.cc, .slice L.A D.m L.cb] 28)) := (Below.refl _ _).alloc (Nat.le_refl _) _
  have hndj : ∀ j, nd D j < 64 := fun j => ndK_lt D hD j D.m (Nat.le_refl _)
  have Hnd := Lib.hid hndj
  clear valid needs hpa hf ho hr hndj
  go_enter Try.func9, Try.ntmps9
  go_wp2_with (first
    | (go_at_call 13; refine (Hvalid.out _ h0).mono ?_; rintro e w1 ⟨rfl, hb1⟩; have hx1 := box3_below hb1; have h1 := below_next h0 hb1)
    | (go_at_call 15; refine (Hneeds.out _ h1).mono ?_; rintro e w2 ⟨gn, rfl, hg, hrow, hb2⟩; have hx2 := box3_next hx1 hb2; have h2 := below_next h1 hb2))
  have Hrow := Lib.hid hrow
  have hp2' := Hpa.out _ h2
  have hr2 := Hr.out.below h2 Hr.out.lt
  have Hr2 := Lib.hid hr2
  clear hx1 hb1 hb2 hrow hg h0 h1 hr2
  go_loopw [7, 8, 24] (fun sv mv kv wr => ∃ k : Nat, k ≤ D.n ∧ kv = .int .i64 k ∧ sv = .int .i64 (setK o k) ∧ mv = .int .i64 (sumK D o k) ∧ ∃ q, wr = w2.drewN q) (fun _ _ kv _ => D.n - (intOf kv).toNat)
  case atStart => exact ⟨0, Nat.zero_le _, rfl, rfl, rfl, 0, rfl⟩
  case round =>
    obtain ⟨k, hk, rfl, rfl, rfl, q, rfl⟩ := hrel
    have hsl := setK_lt o D.n Ho.out k hk
    have hml := sumK_le D hD o Ho.out k hk
    by_cases hlt : k < D.n
    · have hok := Ho.out k hlt
      have hfk := Hf.out k hlt
      have e1 : setK o (k + 1) = setK o k ||| 2 ^ o k := rfl
      have e2 : sumK D o (k + 1) = if k = 0 then D.S (o k) else sumK D o k + D.C (o (k - 1)) (o k) := rfl
      generalize setK o k = s at hsl hfk e1
      generalize sumK D o k = m at hml e2
      have cok := Hr2.out.cell hlt
      generalize hoj : o k = j at hok hfk e1 e2 cok
      have E1 := Lib.hid e1
      have E2 := Lib.hid e2
      have Hfk := Lib.hid hfk
      have eor := or_pow s j (by omega) (by omega)
      have cj := Hrow.out.cell hok
      have hnj := Hnd.out j
      have b0 := hx2.1
      clear e1 e2 hfk
      by_cases hk0 : k = 0
      · have cs := hp2'.s.cell hok
        have hq0 : ((k : Int) == 0) = true := by simp [hk0]
        have Hk0 := Lib.hid hk0
        clear hk0 hoj
        go_wp2_with (go_at_call 18; refine (follows_any _ _ _ (nd D) s j _ hok (by omega) (by omega) (by omega) (by exact cj)).mono ?_; rintro e w6 ⟨rfl, rfl⟩; rw [Hfk.out])
        go_roundw
        case rel => exact ⟨k + 1, by omega, by go_num, by rw [E1.out], by rw [E2.out, if_pos Hk0.out], q, rfl⟩
        case measure => simp [intOf]; omega
      · have hkp : o (k - 1) < D.n := Ho.out _ (by omega)
        have cl := Hr2.out.cell (i := k - 1) (by omega)
        generalize o (k - 1) = l at hkp cl E2
        have cC := hp2'.c.cell hkp
        have cR := (hp2'.r l hkp).cell hok
        have hcb := hD.c l j hkp hok
        have b1 := hx2.2.1
        have hq0 : ((k : Int) == 0) = false := by simp; omega
        have ek : (k : Int) - 1 = ((k - 1 : Nat) : Int) := by omega
        have Hk0 := Lib.hid hk0
        clear hk0 hoj
        go_wp2_with (go_at_call 18; refine (follows_any _ _ _ (nd D) s j _ hok (by omega) (by omega) (by omega) (by exact cj)).mono ?_; rintro e w6 ⟨rfl, rfl⟩; rw [Hfk.out])
        go_region
        all_goals
          go_wp2
          go_roundw
          case rel => exact ⟨k + 1, by omega, by go_num, by rw [E1.out], by rw [E2.out, if_neg Hk0.out]; go_num, q + 1, rfl⟩
          case measure => simp [intOf]; omega
    · obtain rfl : k = D.n := by omega
      go_wp2
      go_ret2
      exact ⟨rfl, below_drewN h2 q⟩
end Go.Proofs.Ytfdjdhjiaacjfaa.W
