/- Walks: bath.Check, at tables that are sound. -/
import Derived.Test.YtfdjdhjiaacjfaaW8
namespace Go.Proofs.Ytfdjdhjiaacjfaa.W
open Go Go.RowKit Go.Deep Go.Proofs.Ytfdjdhjiaacjfaa.Kx

structure Sound (D : PlanD) (T : Nat → Int) : Prop where
  full : ∀ s i, 1 ≤ s → s < 2 ^ D.n → i < D.n → s.testBit i = true → s = 2 ^ D.n - 1 → T (D.n * s + i) ≤ 0
  step : ∀ s i j, 1 ≤ s → s < 2 ^ D.n → i < D.n → s.testBit i = true → j < D.n → fol (nd D) s j = true → T (D.n * s + i) ≤ D.C i j + T (D.n * (s ||| 2 ^ j) + j)

set_option maxRecDepth 100000 in
set_option maxHeartbeats 4000000 in
theorem check_any (D : PlanD) (L : Loc) (w : World) (bt ct N : Nat) (T : Nat → Int) (hD : D.Ok) (hp : PlanAt w D L) (hN : N = D.n * 2 ^ D.n) (ht : Row w bt 3 N (fun i => .int .i64 (T i)))
    (hT : ∀ i, i < N → -1 ≤ T i ∧ T i ≤ 1099511627776) (hpos : possB D = true) (hsd : Sound D T) :
    Calls Try.prog 10 #[.agg (L.args D), .slice (some ⟨bt, 0, none⟩) N ct] w fun e w' => e = .returned (.tuple #[.int .i64 (leastK D T D.n), .bool true, .int .i64 0]) ∧ Below w.heap.size w w' := by
  have hn1 := hD.n1
  have hn6 := hD.n6
  have hp2 := two_pow_le6 hn6
  have hN3 : N ≤ 384 := by rw [hN]; exact Nat.mul_le_mul hn6 hp2
  have eN := wrap_mul_pow hN (by omega)
  have hpa : ∀ W, Below w.heap.size w W → PlanAt W D L := fun W h => hp.of_below h
  have valid := fun W (h : Below w.heap.size w W) => valid_any D L W hD (hpa W h)
  have possible := fun W (h : Below w.heap.size w W) => possible_any D L W hD (hpa W h)
  have needs := fun W (h : Below w.heap.size w W) => needs_any D L W hD (hpa W h)
  have within := fun W (h : Below w.heap.size w W) => within_any bt ct N T W (by omega) (fun i hi => ⟨by have := (hT i hi).1; omega, (hT i hi).2⟩) (ht.below h ht.lt)
  have least := fun W (h : Below w.heap.size w W) => least_any D L W bt ct N T hD (hpa W h) hN (ht.below h ht.lt) hT
  unfold Loc.args at valid possible needs least ⊢
  rw [hpos] at possible
  have Hvalid := Lib.hid valid
  have Hpossible := Lib.hid possible
  have Hneeds := Lib.hid needs
  have Hleast := Lib.hid least
  have Hwithin := Lib.hid within
  have Hpa := Lib.hid hpa
  have HT := Lib.hid hT
  have Ht := Lib.hid ht
  have HN := Lib.hid hN
  have h0 : Below w.heap.size w (w.alloc (.cells #[.slice (some ⟨L.bs, 0, none⟩) D.n L.cs, .slice (some ⟨L.bc, 0, none⟩) D.n L.cc, .slice L.A D.m L.cb] 28)) := (Below.refl _ _).alloc (Nat.le_refl _) _
  have hndj : ∀ j, nd D j < 64 := fun j => ndK_lt D hD j D.m (Nat.le_refl _)
  have Hnd := Lib.hid hndj
  have Hsd := Lib.hid hsd
  clear valid possible needs within least hpa hT ht hN hndj hsd hpos
  go_enter Try.func10, Try.ntmps10
  go_wp2_with (first
    | (go_at_call 13; refine (Hvalid.out _ h0).mono ?_; rintro e w1 ⟨rfl, hb1⟩; have hx1 := box3_below hb1; have h1 := below_next h0 hb1)
    | (go_at_call 19; refine (Hwithin.out _ h1).mono ?_; rintro e w' ⟨rfl, rfl⟩)
    | (go_at_call 14; refine (Hpossible.out _ h1).mono ?_; rintro e w2 ⟨rfl, hb2⟩; have hx2 := box3_next hx1 hb2; have h2 := below_next h1 hb2)
    | (go_at_call 15; refine (Hneeds.out _ h2).mono ?_; rintro e w3 ⟨gn, rfl, hg, hrow, hb3⟩; have hx3 := box3_next hx2 hb3; have h3 := below_next h2 hb3))
  have Hrow := Lib.hid hrow
  have hp3 := Hpa.out _ h3
  have Ht3 := Lib.hid (Ht.out.below h3 Ht.out.lt)
  clear hx1 hx2 hb1 hb2 hb3 hrow hg h0 h1 h2
  obtain ⟨P, hP⟩ : ∃ P, P = 2 ^ D.n := ⟨_, rfl⟩
  have HwP := Lib.hid (show wrap64 (2 ^ D.n) = (P : Int) by rw [hP]; exact wrap_pow _ (by omega))
  have HwF := Lib.hid (show wrap64 (wrap64 (2 ^ D.n) - 1) = ((P - 1 : Nat) : Int) by rw [hP]; exact wrap_wrap_pow_sub _ (by omega))
  have hP1 : 1 ≤ P := by rw [hP]; exact Nat.two_pow_pos _
  have hP64 : P ≤ 64 := by omega
  have HP := Lib.hid hP
  clear hP hp2
  go_loopw [8, 10] (fun bv sv wr => ∃ s : Nat, 1 ≤ s ∧ s ≤ P ∧ bv = .bool true ∧ sv = .int .i64 s ∧ Drw w3 wr) (fun _ sv _ => P - (intOf sv).toNat)
  case atStart => exact ⟨1, Nat.le_refl _, hP1, rfl, by go_num, Drw.refl _⟩
  case round =>
    obtain ⟨s, hs1, hs, rfl, rfl, hq⟩ := hrel
    by_cases hsP : s < P
    · have hd : decide ((s : Int) < wrap64 (2 ^ D.n)) = true := by rw [HwP.out]; simp; omega
      go_wp2
      go_loopw [8, 45] (fun bv iv wr => ∃ i : Nat, i ≤ D.n ∧ bv = .bool true ∧ iv = .int .i64 i ∧ Drw w3 wr) (fun _ iv _ => D.n - (intOf iv).toNat)
      case atStart => exact ⟨0, Nat.zero_le _, rfl, rfl, hq⟩
      case round =>
        obtain ⟨i, hi, rfl, rfl, hq⟩ := hrel
        by_cases hit : i < D.n
        · have e2 := shr_and_one s i (by omega) (by omega)
          rw [min64 (by omega)] at e2
          cases hbit : s.testBit i
          · rw [hbit] at e2
            simp only [Bool.false_eq_true, if_false] at e2
            clear hbit
            go_wp2
            go_roundw
            case rel => exact ⟨i + 1, by omega, rfl, by go_num, hq⟩
            case measure => simp [intOf]; omega
          · rw [hbit] at e2
            simp only [if_true] at e2
            have Hbit := Lib.hid hbit
            clear hbit
            obtain ⟨M, hM⟩ : ∃ M, M = D.n * s := ⟨_, rfl⟩
            have hMN : M + i < N := by rw [hM, HN.out]; exact idx_lt _ _ _ _ hit (by have := HP.out; omega)
            have eM : (D.n : Int) * (s : Int) = (M : Int) := by rw [hM]; simp
            have cT := hq.cell (Ht3.out.cell hMN)
            have hTb := HT.out (M + i) hMN
            have hfull : Hid (s = 2 ^ D.n - 1 → T (M + i) ≤ 0) := Lib.hid (by rw [hM]; exact Hsd.out.full s i hs1 (by have := HP.out; omega) hit Hbit.out)
            have hstep : Hid (∀ j, j < D.n → fol (nd D) s j = true → T (M + i) ≤ D.C i j + T (D.n * (s ||| 2 ^ j) + j)) := Lib.hid (by rw [hM]; exact fun j => Hsd.out.step s i j hs1 (by have := HP.out; omega) hit Hbit.out)
            have HM := Lib.hid hM
            clear hM
            generalize T (M + i) = x at cT hTb hfull hstep
            obtain ⟨bF, hbF, hx0⟩ : ∃ b : Bool, ((s : Int) == wrap64 (wrap64 (2 ^ D.n) - 1)) = b ∧ (b = true → x ≤ 0) := by
              refine ⟨_, rfl, fun h => hfull.out ?_⟩
              rw [HwF.out, nat_beq] at h
              have := HP.out
              have := beq_iff_eq.1 h
              omega
            cases bF
            all_goals
              first
                | (have hx1 : x ≤ 0 := hx0 rfl)
                | skip
              clear hx0
              go_wp2
              go_loopw [8, 71] (fun bv jv wr => ∃ j : Nat, j ≤ D.n ∧ bv = .bool true ∧ jv = .int .i64 j ∧ Drw w3 wr) (fun _ jv _ => D.n - (intOf jv).toNat)
              case atStart => exact ⟨0, Nat.zero_le _, rfl, rfl, hq⟩
              case round =>
                obtain ⟨j, hj, rfl, rfl, hq⟩ := hrel
                by_cases hjt : j < D.n
                · have cj := hq.cell (Hrow.out.cell hjt)
                  have hnj := Hnd.out j
                  cases hf : fol (nd D) s j
                  · have hf' := Lib.hid hf; clear hf
                    have hfc : ∀ nq, Calls Try.prog 18 #[.slice (some ⟨gn, 0, none⟩) D.n D.n, .int .i64 s, .int .i64 j] (wr.drewN nq) fun e w' => e = .returned (.bool false) ∧ w' = wr.drewN nq := fun nq => by
                      have h := follows_any gn D.n D.n (nd D) s j (wr.drewN nq) hjt (by omega) (by omega) (by omega) (by exact cj)
                      rw [hf'.out] at h
                      exact h.mono fun e w' ⟨h1, h2⟩ => ⟨h1, h2.symm⟩
                    have Hfc := Lib.hid hfc
                    clear hfc
                    go_wp2
                    go_quiet ((go_at_call 18; exact Calls.quiet_of_same (Hfc.out _)))
                    go_wp2
                    go_roundw
                    case rel => exact ⟨j + 1, by omega, rfl, by go_num, hq.drewN _⟩
                    case measure => simp [intOf]; omega
                  · have hf' := Lib.hid hf; clear hf
                    have hfc : ∀ nq, Calls Try.prog 18 #[.slice (some ⟨gn, 0, none⟩) D.n D.n, .int .i64 s, .int .i64 j] (wr.drewN nq) fun e w' => e = .returned (.bool true) ∧ w' = wr.drewN nq := fun nq => by
                      have h := follows_any gn D.n D.n (nd D) s j (wr.drewN nq) hjt (by omega) (by omega) (by omega) (by exact cj)
                      rw [hf'.out] at h
                      exact h.mono fun e w' ⟨h1, h2⟩ => ⟨h1, h2.symm⟩
                    have Hfc := Lib.hid hfc
                    clear hfc
                    have hs2 := or_lt (n := D.n) (s := s) (j := j) (by have := HP.out; omega) hjt
                    obtain ⟨s2, hs2e⟩ : ∃ s2, s2 = s ||| 2 ^ j := ⟨_, rfl⟩
                    have eor : bits .or .i64 (s : Int) (wrap64 (2 ^ j)) = (s2 : Int) := by rw [hs2e]; exact or_pow s j (by omega) (by omega)
                    rw [← hs2e] at hs2
                    obtain ⟨M2, hM2⟩ : ∃ M2, M2 = D.n * s2 := ⟨_, rfl⟩
                    have hMN2 : M2 + j < N := by rw [hM2, HN.out]; exact idx_lt _ _ _ _ hjt hs2
                    have eM2 : (D.n : Int) * (s2 : Int) = (M2 : Int) := by rw [hM2]; simp
                    have cT2 := hq.cell (Ht3.out.cell hMN2)
                    have hTb2 := HT.out (M2 + j) hMN2
                    have hle := hstep.out j hjt hf'.out
                    rw [← hs2e, ← hM2] at hle
                    generalize T (M2 + j) = y at cT2 hTb2 hle
                    have b1 := hq.cell hx3.2.1
                    have cC := hq.cell (hp3.c.cell hit)
                    have cR := hq.cell ((hp3.r i hit).cell hjt)
                    have hcb := hD.c i j hit hjt
                    have hdd : decide ((D.C i j : Int) + y < x) = false := by simp; omega
                    have l1 : -9223372036854775808 ≤ (D.C i j : Int) + y := by omega
                    have l2 : (D.C i j : Int) + y ≤ 9223372036854775807 := by omega
                    have l3 : (M2 : Int) + (j : Int) ≤ 9223372036854775807 := by omega
                    have l4 : -9223372036854775808 ≤ (M2 : Int) + (j : Int) := by omega
                    have l5 : (M2 : Int) ≤ 9223372036854775807 := by omega
                    have l6 : -9223372036854775808 ≤ (M2 : Int) := by omega
                    have ew1 := iwrap64 (2 ^ j)
                    have ew2 := iwrap _ l6 l5
                    have ew3 := iwrap _ l4 l3
                    have ew4 := iwrap _ l1 l2
                    clear hs2e hM2
                    go_wp2
                    go_quiet ((go_at_call 18; exact Calls.quiet_of_same (Hfc.out _)))
                    go_wp2
                    go_roundw
                    case rel => exact ⟨j + 1, by omega, rfl, by go_num, hq.drewN _⟩
                    case measure => simp [intOf]; omega
                · obtain rfl : j = D.n := by omega
                  go_wp2
                  go_roundw
                  case rel => exact ⟨i + 1, by omega, rfl, by go_num, hq⟩
                  case measure => simp [intOf]; omega
        · obtain rfl : i = D.n := by omega
          go_wp2
          go_roundw
          case rel => exact ⟨s + 1, by omega, by omega, rfl, by go_num, hq⟩
          case measure => simp [intOf]; omega
    · obtain rfl : s = P := by omega
      have hd : decide ((s : Int) < wrap64 (2 ^ D.n)) = false := by rw [HwP.out]; simp
      have b0 := hq.cell hx3.1
      have b1 := hq.cell hx3.2.1
      have b2 := hq.cell hx3.2.2
      go_wp2_with (go_at_call 17; refine (Hleast.out _ (hq.below h3)).mono ?_; rintro e w5 ⟨rfl, hb5⟩)
      go_ret3
      exact ⟨rfl, below_next (hq.below h3) hb5⟩
end Go.Proofs.Ytfdjdhjiaacjfaa.W
