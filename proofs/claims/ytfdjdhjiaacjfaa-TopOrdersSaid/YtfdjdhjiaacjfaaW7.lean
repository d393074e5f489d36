/- Walks: Plan.valid, at plans that are. -/
import Derived.Test.YtfdjdhjiaacjfaaW6
namespace Go.Proofs.Ytfdjdhjiaacjfaa.W
open Go Go.RowKit Go.Deep Go.Proofs.Ytfdjdhjiaacjfaa.Kx
set_option maxHeartbeats 2000000 in
theorem valid_any (D : PlanD) (L : Loc) (w : World) (hD : D.Ok) (hp : PlanAt w D L) :
    Calls Try.prog 13 #[.agg (L.args D)] w fun e w' => e = .returned (.bool true) ∧ Below w.heap.size w w' := by
  have hn1 := hD.n1
  have hn6 := hD.n6
  have hm8 := hD.m8
  have h2 : ∀ o o', PlanAt ((w.alloc o).alloc o') D L := fun o o' => hp.of_below (((Below.refl _ _).alloc (Nat.le_refl _) _).alloc (by simp) _)
  have hS : ∀ o o', Row ((w.alloc o).alloc o') L.bs 3 D.n (fun i => .int .i64 (D.S i)) := fun o o' => (h2 o o').s
  have HS := Lib.hid hS
  have H2 := Lib.hid h2
  have Hlt : ∀ i, i < D.n → L.R i < w.heap.size := fun i hi => (hp.r i hi).lt
  clear hS h2
  have q1 : decide ((D.n : Int) < 1) = false := by simp; omega
  have q2 : decide (10 < (D.n : Int)) = false := by simp; omega
  have q3 : decide (40 < (D.m : Int)) = false := by simp; omega
  unfold Loc.args
  go_enter Try.func13, Try.ntmps13
  go_wp2_with (go_at_call 20; go_loud (refine (costsN_any L.bs L.cs D.n D.S _ (by omega) hD.s (HS.out _ _)).mono ?_; rintro e w' ⟨rfl, rfl⟩))
  obtain ⟨W, hW⟩ : ∃ W, W = (w.alloc (.cells #[.slice (some ⟨L.bs, 0, none⟩) D.n L.cs, .slice (some ⟨L.bc, 0, none⟩) D.n L.cc, .slice L.A D.m L.cb] 28)).alloc (.cells #[.int .i64 D.n] 3) := ⟨_, rfl⟩
  have hpW : PlanAt W D L := by rw [hW]; exact H2.out _ _
  have hbel : Below w.heap.size w W := by rw [hW]; exact ((Below.refl _ _).alloc (Nat.le_refl _) _).alloc (by simp) _
  have cn : W.cell? ⟨w.heap.size + 1, 0, none⟩ = some (.int .i64 D.n) := by rw [hW]; exact cell_two_new _ _ _ _ _ _ _
  have cb : W.cell? ⟨w.heap.size, 2, none⟩ = some (.slice L.A D.m L.cb) := by rw [hW]; exact (((Below.refl _ _).alloc (Nat.le_refl _) _).cell (p := ⟨w.heap.size, 2, none⟩) (by simp)).trans (box3_below (Below.refl _ _)).2.2
  rw [← hW]
  clear hW HS H2
  go_loop [38] (fun i => ∃ k : Nat, k ≤ D.n ∧ i = .int .i64 k) (fun i => D.n - (intOf i).toNat)
  case atStart => exact ⟨0, Nat.zero_le _, rfl⟩
  case round =>
    obtain ⟨k, hk, rfl⟩ := hrel
    by_cases hlt : k < D.n
    · have ck := hpW.c.cell hlt
      go_wp2_with (go_at_call 20; refine (costsN_any (L.R k) (L.Rc k) D.n (D.C k) _ (by omega) (fun j hj => hD.c k j hlt hj) (hpW.r k hlt)).mono ?_; rintro e w' ⟨rfl, rfl⟩)
      go_round
      case rel => exact ⟨k + 1, by omega, by go_num⟩
      case measure => simp [intOf]; omega
    · obtain rfl : k = D.n := by omega
      have hpair : ∀ k, k < D.m → 0 ≤ (D.B0 k : Int) ∧ (D.B0 k : Int) < D.n ∧ 0 ≤ (D.B1 k : Int) ∧ (D.B1 k : Int) < D.n ∧ (D.B0 k : Int) ≠ D.B1 k := fun k hk => by
        have := hD.b0 k hk; have := hD.b1 k hk; have := hD.ne k hk
        refine ⟨by omega, by omega, by omega, by omega, by omega⟩
      have hcells : ∀ k, k < D.m → W.cell? ⟨L.bb, k * 2, none⟩ = some (.int .i64 (D.B0 k)) ∧ W.cell? ⟨L.bb, k * 2 + 1, none⟩ = some (.int .i64 (D.B1 k)) := fun k hk => by
        have hb := hpW.b (by omega)
        refine ⟨?_, ?_⟩
        · rw [hb.cell (by omega)]; simp
        · rw [hb.cell (by omega), mod_two, div_two]; simp
      have HP := Lib.hid (containsPair_any L.bb L.cb D.m (w.heap.size + 1) D.n (fun k => D.B0 k) (fun k => D.B1 k) W L.A hpW.A (by omega) hpair hcells cn)
      clear hpair hcells
      go_wp2_with (go_at_call 21; go_loud (refine HP.out.mono ?_; rintro e w' ⟨rfl, hb1⟩))
      go_ret
      exact ⟨rfl, below_of hbel hb1⟩
end Go.Proofs.Ytfdjdhjiaacjfaa.W
