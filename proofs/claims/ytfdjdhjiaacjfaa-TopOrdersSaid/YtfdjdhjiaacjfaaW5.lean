/- Walks: Plan.prices. -/
import Derived.Test.YtfdjdhjiaacjfaaW4
import Derived.Test.YtfdjdhjiaacjfaaM1
import Derived.Test.YtfdjdhjiaacjfaaW3
namespace Go.Proofs.Ytfdjdhjiaacjfaa.W
open Go Go.RowKit Go.Deep Go.Proofs.Ytfdjdhjiaacjfaa.Kx

set_option maxHeartbeats 4000000 in
theorem prices_any (D : PlanD) (L : Loc) (w : World) (N : Nat) (hN : N = D.n * 2 ^ D.n) (hD : D.Ok) (hp : PlanAt w D L) :
    Calls Try.prog 16 #[.agg (L.args D)] w fun e w' => ∃ g, e = .returned (.slice (some ⟨g, 0, none⟩) N N) ∧ w.heap.size ≤ g ∧ Row w' g 3 N (fun i => .int .i64 (priceT D i)) ∧ Below w.heap.size w w' := by
  have hn1 := hD.n1
  have hn6 := hD.n6
  have hp2 := two_pow_le6 hn6
  have hp1 : 2 ≤ 2 ^ D.n := by have := Nat.pow_le_pow_right (n := 2) (by omega) hn1; omega
  have hN1 : 1 ≤ N := by rw [hN]; exact Nat.le_trans (by omega) (Nat.mul_le_mul hn1 hp1)
  have hN3 : N ≤ 384 := by rw [hN]; exact Nat.mul_le_mul hn6 hp2
  have eN := wrap_mul_pow hN (by omega)
  have HN := Lib.hid hN
  clear hN
  have hpa : ∀ o, PlanAt (w.alloc o) D L := fun o => hp.of_below ((Below.refl _ _).alloc (Nat.le_refl _) _)
  have Hpa := Lib.hid hpa
  clear hpa
  have hndj : ∀ j, nd D j < 64 := fun j => ndK_lt D hD j D.m (Nat.le_refl _)
  have Hnd := Lib.hid hndj
  clear hndj
  have needs := needs_any D L
  unfold Loc.args at needs ⊢
  have Hneeds := Lib.hid needs
  clear needs
  go_enter Try.func16, Try.ntmps16
  go_wp2_with fail
  go_region_held3 (fun w' => w'.cell? ⟨w.heap.size, 0, none⟩ = some (.slice (some ⟨L.bs, 0, none⟩) D.n L.cs) ∧ w'.cell? ⟨w.heap.size, 1, none⟩ = some (.slice (some ⟨L.bc, 0, none⟩) D.n L.cc) ∧ w'.cell? ⟨w.heap.size, 2, none⟩ = some (.slice L.A D.m L.cb))
    (first | go_keep | exact box3_drew hb1)
    (first | (go_at_call 15; refine (Hneeds.out _ hD (Hpa.out _).drew).mono ?_; rintro e w1 ⟨g, rfl, hg, hrow, hb1⟩))
  obtain ⟨b0, b1, b2⟩ := box3_drew hb1
  have hbel : Below w.heap.size w w1 := below_drew_of ((Below.refl _ _).alloc (Nat.le_refl _) _) hb1
  clear hb1 b0 b2
  have hgs : w.heap.size + 1 ≤ g := by simpa using hg
  clear hg
  rename_i hHeld
  go_wp2_with (go_at_call 23; refine (repeat_any (-1) _ _ N _ hN1 (by omega) (cell_alloc_one _ _ _)).mono ?_; rintro e w2 ⟨G, rfl, hG, htab, hb2⟩)
  have hb3 : Below w1.heap.size w1 w2 := below_of ((Below.refl _ _).alloc (Nat.le_refl _) _) hb2
  have hgG : g ≠ G := by have := hrow.lt; simp at hG; omega
  have hwG : w.heap.size + 1 ≤ G := by have := hbel.size; simp at hG; omega
  have hrow2 := hrow.below hb3 hrow.lt
  have hbel2 : Below w.heap.size w w2 := hbel.trans (hb3.mono hbel.size)
  have hp2' := hp.of_below hbel2
  have b1' : w2.cell? ⟨w.heap.size, 1, none⟩ = some (.slice (some ⟨L.bc, 0, none⟩) D.n L.cc) := (hb3.cell (by have := hrow.lt; simp; omega)).trans b1
  have Hrow2 := Lib.hid hrow2
  have Hb1 := Lib.hid b1'
  have hcG : L.bc ≠ G := by have := hp.c.lt; omega
  have hRG : ∀ i, i < D.n → L.R i ≠ G := fun i hi => by have := (hp.r i hi).lt; omega
  have HRG := Lib.hid hRG
  clear hb2 hG hb3 hrow hrow2 b1 b1' hHeld hRG
  obtain ⟨F, hF⟩ : ∃ F, F = 2 ^ D.n - 1 := ⟨_, rfl⟩
  have e3 : wrap64 (wrap64 (2 ^ D.n) - 1) = (F : Int) := by rw [hF]; exact wrap_wrap_pow_sub _ (by omega)
  have hF1 : F + 1 = 2 ^ D.n := by omega
  have HF := Lib.hid hF
  have He3 := Lib.hid e3
  clear e3
  have HF1 := Lib.hid hF1
  have hF64 : F < 64 := by omega
  have htab' : Row w2 G 3 N (fun idx => .int .i64 (tabF D F 0 idx)) := htab.congr (fun idx hi => by rw [hF, tabF_start D idx (by rw [← HN.out]; exact hi)])
  clear hF hF1 htab hp2 hp1
  go_loopw [6] (fun sv wr => ∃ s : Nat, s ≤ F ∧ sv = .int .i64 s ∧ Row wr G 3 N (fun idx => .int .i64 (tabF D s 0 idx)) ∧ w2.grownBy wr (some G)) (fun sv _ => (intOf sv).toNat)
  case atStart => exact ⟨F, Nat.le_refl _, by rw [He3.out], htab', World.grownBy.refl _ _⟩
  case round =>
    obtain ⟨s, hs, rfl, ht, hgr⟩ := hrel
    clear htab'
    by_cases hs0 : 0 < s
    · go_wp2
      obtain ⟨wo, rfl⟩ : ∃ wo : World, wo = wr := ⟨_, rfl⟩
      go_loopw [28] (fun iv wr => ∃ i : Nat, i ≤ D.n ∧ iv = .int .i64 i ∧ Row wr G 3 N (fun idx => .int .i64 (tabF D s i idx)) ∧ w2.grownBy wr (some G)) (fun iv _ => D.n - (intOf iv).toNat)
      case atStart => exact ⟨0, Nat.zero_le _, rfl, ht, hgr⟩
      case round =>
        clear ht hgr
        obtain ⟨i, hi, rfl, ht, hgr⟩ := hrel
        by_cases hit : i < D.n
        · have e2 := shr_and_one s i (by omega) (by omega)
          rw [min64 (by omega)] at e2
          cases hbit : s.testBit i
          · rw [hbit] at e2
            simp only [Bool.false_eq_true, if_false] at e2
            have Hbit := Lib.hid hbit
            clear hbit
            go_wp2
            go_roundw
            case rel => exact ⟨i + 1, by omega, by go_num, ht.congr (fun idx _ => by rw [tabF_skip D s i idx Hbit.out]), hgr⟩
            case measure => simp [intOf]; omega
          · rw [hbit] at e2
            simp only [if_true] at e2
            have Hbit := Lib.hid hbit
            clear hbit
            obtain ⟨bF, hbF, hini⟩ : ∃ b : Bool, ((s : Int) == wrap64 (wrap64 (2 ^ D.n) - 1)) = b ∧ Hid (vStep D (Vf D) s i 0 = if b then 0 else 1099511627776) := by
              refine ⟨_, rfl, Lib.hid ?_⟩
              rw [He3.out, nat_beq s F]
              simp only [vStep, farN, beq_iff_eq, HF.out]
            cases bF
            all_goals
              go_wp2
              obtain ⟨wo, rfl⟩ : ∃ wo : World, wo = wr := ⟨_, rfl⟩
              go_loopw [8, 42] (fun lv jv wr => ∃ j : Nat, j ≤ D.n ∧ jv = .int .i64 j ∧ lv = .int .i64 (vStep D (Vf D) s i j) ∧ Row wr G 3 N (fun idx => .int .i64 (tabF D s i idx)) ∧ w2.grownBy wr (some G)) (fun _ jv _ => D.n - (intOf jv).toNat)
              case atStart =>
                exact ⟨0, Nat.zero_le _, rfl, by rw [hini.out]; rfl, ht, hgr⟩
              case round =>
                clear ht hgr
                obtain ⟨j, hj, rfl, rfl, ht, hgr⟩ := hrel
                have hbd := vStep_bd' D hD s i j (by have := HF1.out; omega) hit hj
                generalize hq : vStep D (Vf D) s i j = q at hbd
                have Hq := Lib.hid hq
                clear hq
                by_cases hjt : j < D.n
                · have cj := (Hrow2.out.grown hgr hgG).cell hjt
                  have hnj := Hnd.out j
                  cases hf : fol (nd D) s j
                  · have hf' := Lib.hid hf; clear hf
                    go_wp2_with (go_at_call 18; refine (follows_any _ _ _ (nd D) s j _ hjt (by omega) (by omega) (by omega) cj).mono ?_; rintro e w3 ⟨rfl, rfl⟩; rw [hf'.out])
                    go_roundw
                    case rel => exact ⟨j + 1, by omega, by go_num, by rw [vStep, hf'.out, Hq.out]; rfl, ht, hgr⟩
                    case measure => simp [intOf]; omega
                  · have hf' := Lib.hid hf; clear hf
                    go_wp2_with (go_at_call 18; refine (follows_any _ _ _ (nd D) s j _ hjt (by omega) (by omega) (by omega) cj).mono ?_; rintro e w3 ⟨rfl, rfl⟩; rw [hf'.out])
                    have hs2 := or_lt (n := D.n) (s := s) (j := j) (by have := HF1.out; omega) hjt
                    have hs3 := fol_lt hf'.out
                    obtain ⟨s2, hs2e⟩ : ∃ s2, s2 = s ||| 2 ^ j := ⟨_, rfl⟩
                    have eor : bits .or .i64 (s : Int) (wrap64 (2 ^ j)) = (s2 : Int) := by rw [hs2e]; exact or_pow s j (by omega) (by omega)
                    rw [← hs2e] at hs2 hs3
                    obtain ⟨M, hM⟩ : ∃ M, M = D.n * s2 := ⟨_, rfl⟩
                    have hMN : M + j < N := by rw [hM, HN.out]; exact idx_lt _ _ _ _ hjt hs2
                    have eM : (D.n : Int) * (s2 : Int) = (M : Int) := by rw [hM]; simp
                    have c1 := grown_cell hgr Hb1.out (by omega)
                    have c2 := (hp2'.c.grown hgr hcG).cell hit
                    have c3 := ((hp2'.r i hit).grown hgr (HRG.out i hit)).cell hjt
                    have hC := hD.c i j hit hjt
                    have hV := Vf_bd D hD s2 j hs2 hjt
                    have c4 : wr.cell? ⟨G, M + j, none⟩ = some (.int .i64 (Vf D s2 j)) := by
                      rw [ht.cell hMN, hM, tabF_read D s i s2 j hjt hs3 (by rw [hs2e]; exact or_bit s j)]
                    generalize hv : Vf D s2 j = v at hV c4
                    unfold farN at hV hbd
                    have Hv := Lib.hid hv
                    have HM := Lib.hid hM
                    have Hs2 := Lib.hid hs2e
                    clear hv hM hs2e hs2 hs3
                    go_region
                    all_goals
                      go_wp2
                      go_roundw
                      case rel =>
                        refine ⟨j + 1, by omega, by go_num, ?_, ht, grown_drew hgr⟩
                        rw [vStep, hf'.out, if_pos rfl, Hq.out, ← Hs2.out, Hv.out, min_ite]
                      case measure => simp [intOf]; omega
                · obtain rfl : j = D.n := by omega
                  have hMN : D.n * s + i < N := by rw [HN.out]; exact idx_lt _ _ _ _ hit (by have := HF1.out; omega)
                  obtain ⟨M, hM⟩ : ∃ M, M = D.n * s := ⟨_, rfl⟩
                  have eM : (D.n : Int) * (s : Int) = (M : Int) := by rw [hM]; simp
                  rw [← hM] at hMN
                  have HM := Lib.hid hM
                  clear hM
                  have c4 := ht.cell hMN
                  have c5 := ht.frozen (M + i)
                  go_wp2
                  go_roundw
                  case rel =>
                    refine ⟨i + 1, by omega, by go_num, (ht.set _ _).congr (fun idx _ => ?_), grown_set hgr _ _⟩
                    rw [← tabF_set D s i idx hit hs0 Hbit.out, ← HM.out, Vf_eq D s i (by have := HF1.out; omega), Hq.out]
                    split <;> rfl
                  case measure => simp [intOf]; omega
        · obtain rfl : i = D.n := by omega
          go_wp2
          go_roundw
          case rel => exact ⟨s - 1, by omega, by go_num, ht.congr (fun idx _ => by rw [tabF_next D s idx hn1 hs0]), hgr⟩
          case measure => simp [intOf]; omega
    · obtain rfl : s = 0 := by omega
      go_wp2
      go_ret
      exact ⟨G, rfl, by omega, ht, hbel2.grown hgr (by have := hbel2.size; omega) (fun k hk => by have := Option.some.inj hk; omega)⟩
end Go.Proofs.Ytfdjdhjiaacjfaa.W
