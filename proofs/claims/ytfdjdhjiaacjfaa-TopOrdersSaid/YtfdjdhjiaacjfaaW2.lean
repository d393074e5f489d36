/- Walks: Plan.possible. -/
import Derived.Test.YtfdjdhjiaacjfaaW1
namespace Go.Proofs.Ytfdjdhjiaacjfaa.W
open Go Go.RowKit Go.Proofs.Ytfdjdhjiaacjfaa.Kx

def posIn (nd : Nat → Nat) : Nat → Nat → Nat
  | 0, s => s
  | j + 1, s => if fol nd (posIn nd j s) j then posIn nd j s ||| 2 ^ j else posIn nd j s
def posOut (nd : Nat → Nat) (n : Nat) : Nat → Nat
  | 0 => 0
  | k + 1 => posIn nd n (posOut nd n k)
def possB (D : PlanD) : Bool := posOut (nd D) D.n D.n == 2 ^ D.n - 1
theorem posIn_lt (nd : Nat → Nat) (n s : Nat) (hs : s < 2 ^ n) : ∀ j, j ≤ n → posIn nd j s < 2 ^ n := by
  intro j
  induction j with
  | zero => intro _; exact hs
  | succ j ih =>
    intro hj
    have := ih (by omega)
    simp only [posIn]
    split
    · exact Nat.or_lt_two_pow this (Nat.pow_lt_pow_right (by omega) (by omega))
    · exact this
theorem posOut_lt (nd : Nat → Nat) (n : Nat) : ∀ k, posOut nd n k < 2 ^ n := by
  intro k
  induction k with
  | zero => simp only [posOut]; exact Nat.two_pow_pos n
  | succ k ih => exact posIn_lt nd n _ ih n (Nat.le_refl _)
theorem two_pow_le6 {n : Nat} (h : n ≤ 6) : 2 ^ n ≤ 64 := Nat.pow_le_pow_right (n := 2) (by omega) h

set_option maxHeartbeats 1000000 in
theorem possible_any (D : PlanD) (L : Loc) (w : World) (hD : D.Ok) (hp : PlanAt w D L) :
    Calls Try.prog 14 #[.agg (L.args D)] w fun e w' => e = .returned (.bool (possB D)) ∧ Below w.heap.size w w' := by
  have hn1 := hD.n1
  have hn6 := hD.n6
  have hp2 := two_pow_le6 hn6
  have hpa : ∀ o, PlanAt (w.alloc o) D L := fun o => hp.of_below ((Below.refl _ _).alloc (Nat.le_refl _) _)
  have Hpa := Lib.hid hpa
  clear hpa
  have hndj : ∀ j, nd D j < 64 := fun j => ndK_lt D hD j D.m (Nat.le_refl _)
  have Hnd := Lib.hid hndj
  clear hndj
  have needs := needs_any D L
  unfold Loc.args at needs ⊢
  have Hneeds := Lib.hid needs
  clear needs
  go_enter Try.func14, Try.ntmps14
  go_wp2_with (go_at_call 15; refine (Hneeds.out _ hD (Hpa.out _)).mono ?_; rintro e w1 ⟨g, rfl, hg, hrow, hb1⟩; obtain ⟨b0, b1, b2⟩ := box3_below hb1)
  have hbel : Below w.heap.size w w1 := below_of ((Below.refl _ _).alloc (Nat.le_refl _) _) hb1
  clear hb1 hg b1 b2
  go_loop [4, 11] (fun s i => ∃ k : Nat, k ≤ D.n ∧ i = .int .i64 k ∧ s = .int .i64 (posOut (nd D) D.n k)) (fun _ i => D.n - (intOf i).toNat)
  case atStart => exact ⟨0, Nat.zero_le _, rfl, rfl⟩
  case round =>
    obtain ⟨k, hk, rfl, rfl⟩ := hrel
    have hpo := posOut_lt (nd D) D.n k
    by_cases hlt : k < D.n
    · go_wp2
      go_loop [4, 16] (fun s i => ∃ j : Nat, j ≤ D.n ∧ i = .int .i64 j ∧ s = .int .i64 (posIn (nd D) j (posOut (nd D) D.n k))) (fun _ i => D.n - (intOf i).toNat)
      case atStart => exact ⟨0, Nat.zero_le _, rfl, rfl⟩
      case round =>
        obtain ⟨j, hj, rfl, rfl⟩ := hrel
        have hpi := posIn_lt (nd D) D.n _ hpo j hj
        generalize hp : posIn (nd D) j (posOut (nd D) D.n k) = p at hpi
        have Hp := Lib.hid hp
        clear hp
        by_cases hjt : j < D.n
        · have hnj := Hnd.out j
          have cj := hrow.cell hjt
          have hor := or_pow p j (by omega) (by omega)
          cases hf : fol (nd D) p j
          · have hf' := Lib.hid hf; clear hf
            go_wp2_with (go_at_call 18; refine (follows_any _ _ _ (nd D) p j _ hjt (by omega) (by omega) (by omega) cj).mono ?_; rintro e w2 ⟨rfl, rfl⟩; rw [hf'.out])
            go_round
            case rel => exact ⟨j + 1, by omega, by go_num, by rw [posIn, Hp.out, hf'.out]; rfl⟩
            case measure => simp [intOf]; omega
          · have hf' := Lib.hid hf; clear hf
            go_wp2_with (go_at_call 18; refine (follows_any _ _ _ (nd D) p j _ hjt (by omega) (by omega) (by omega) cj).mono ?_; rintro e w2 ⟨rfl, rfl⟩; rw [hf'.out])
            go_round
            case rel => exact ⟨j + 1, by omega, by go_num, by rw [posIn, Hp.out, hf'.out]; rfl⟩
            case measure => simp [intOf]; omega
        · obtain rfl : j = D.n := by omega
          go_wp2
          go_round
          case rel => exact ⟨k + 1, by omega, by go_num, by rw [posOut, Hp.out]⟩
          case measure => simp [intOf]; omega
    · obtain rfl : k = D.n := by omega
      go_wp2
      go_ret
      exact ⟨ret_bool (by rw [wrap_wrap_pow_sub _ (by omega), nat_beq]; rfl), hbel⟩
end Go.Proofs.Ytfdjdhjiaacjfaa.W
