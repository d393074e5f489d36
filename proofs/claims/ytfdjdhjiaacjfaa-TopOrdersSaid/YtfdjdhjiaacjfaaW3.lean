/- Walks: Plan.least. -/
import Derived.Test.YtfdjdhjiaacjfaaW2
namespace Go.Proofs.Ytfdjdhjiaacjfaa.W
open Go Go.RowKit Go.Proofs.Ytfdjdhjiaacjfaa.Kx

/-- the least of a table over the baths that can be the first one, among the first k -/
def leastK (D : PlanD) (T : Nat → Int) : Nat → Int
  | 0 => 2199023255552
  | k + 1 => if nd D k = 0 then min (leastK D T k) (D.S k + T (D.n * 2 ^ k + k)) else leastK D T k
theorem leastK_bd (D : PlanD) (hD : D.Ok) (T : Nat → Int) (hT : ∀ i, i < D.n * 2 ^ D.n → -1 ≤ T i ∧ T i ≤ 1099511627776) : ∀ k, k ≤ D.n → -1 ≤ leastK D T k ∧ leastK D T k ≤ 2199023255552 := by
  intro k
  induction k with
  | zero => intro _; simp [leastK]
  | succ k ih =>
    intro hk
    have := ih (by omega)
    have hs := hD.s k (by omega)
    have hi : D.n * 2 ^ k + k < D.n * 2 ^ D.n := mul_pow_lt (by omega) (by omega)
    have ht := hT _ hi
    simp only [leastK]
    split
    · omega
    · exact this

set_option maxHeartbeats 1000000 in
theorem least_any (D : PlanD) (L : Loc) (w : World) (bt ct N : Nat) (T : Nat → Int) (hD : D.Ok) (hp : PlanAt w D L) (hN : N = D.n * 2 ^ D.n) (ht : Row w bt 3 N (fun i => .int .i64 (T i)))
    (hT : ∀ i, i < N → -1 ≤ T i ∧ T i ≤ 1099511627776) :
    Calls Try.prog 17 #[.agg (L.args D), .slice (some ⟨bt, 0, none⟩) N ct] w fun e w' => e = .returned (.int .i64 (leastK D T D.n)) ∧ Below w.heap.size w w' := by
  have hn1 := hD.n1
  have hn6 := hD.n6
  have hp2 := two_pow_le6 hn6
  have hN3 : N ≤ 384 := by rw [hN]; exact Nat.mul_le_mul hn6 hp2
  have HN := Lib.hid hN
  clear hN
  have hpa : ∀ o, PlanAt (w.alloc o) D L := fun o => hp.of_below ((Below.refl _ _).alloc (Nat.le_refl _) _)
  have Hpa := Lib.hid hpa
  clear hpa
  have hndj : ∀ j, nd D j < 64 := fun j => ndK_lt D hD j D.m (Nat.le_refl _)
  have Hnd := Lib.hid hndj
  clear hndj
  have needs := needs_any D L
  unfold Loc.args at needs ⊢
  have Hneeds := Lib.hid needs
  clear needs
  go_enter Try.func17, Try.ntmps17
  go_wp2_with fail
  go_region_held3 (fun w' => w'.cell? ⟨w.heap.size, 0, none⟩ = some (.slice (some ⟨L.bs, 0, none⟩) D.n L.cs) ∧ w'.cell? ⟨w.heap.size, 1, none⟩ = some (.slice (some ⟨L.bc, 0, none⟩) D.n L.cc) ∧ w'.cell? ⟨w.heap.size, 2, none⟩ = some (.slice L.A D.m L.cb))
    (first | go_keep | exact box3_drew hb1)
    (first | (go_at_call 15; refine (Hneeds.out _ hD (Hpa.out _).drew).mono ?_; rintro e w1 ⟨g, rfl, hg, hrow, hb1⟩))
  go_wp2
  obtain ⟨b0, b1, b2⟩ := box3_drew hb1
  have hbel : Below w.heap.size w w1 := below_drew_of ((Below.refl _ _).alloc (Nat.le_refl _) _) hb1
  have ht1 := ht.below hbel ht.lt
  have hs1 := hp.s.below hbel hp.s.lt
  have Hbd := Lib.hid (leastK_bd D hD T (by rw [← HN.out]; exact hT))
  have HT := Lib.hid hT
  clear hb1 hg b1 b2 hT
  go_loop [7, 18] (fun s i => ∃ k : Nat, k ≤ D.n ∧ i = .int .i64 k ∧ s = .int .i64 (leastK D T k)) (fun _ i => D.n - (intOf i).toNat)
  case atStart => exact ⟨0, Nat.zero_le _, rfl, rfl⟩
  case round =>
    obtain ⟨k, hk, rfl, rfl⟩ := hrel
    by_cases hlt : k < D.n
    · have hbd := Hbd.out k hk
      generalize hq : leastK D T k = q at hbd
      have Hq := Lib.hid hq
      clear hq
      have hnj := Hnd.out k
      have cs := hs1.cell hlt
      have cn := hrow.cell hlt
      have hsk := hD.s k hlt
      obtain ⟨M, hM⟩ : ∃ M, M = D.n * 2 ^ k := ⟨_, rfl⟩
      have hi : M + k < N := by rw [hM, HN.out]; exact mul_pow_lt (n := D.n) hlt hlt
      have ct := ht1.cell hi
      have hTk := HT.out _ hi
      have e1 := wrap_mul_pow hM (by omega)
      have HM := Lib.hid hM
      clear hM
      by_cases h0 : nd D k = 0
      · have H0 := Lib.hid h0
        have h0' : ((nd D k : Int) == 0) = true := by simp [h0]
        clear h0
        go_wp2
        go_round
        case rel => exact ⟨k + 1, by omega, by go_num, by rw [leastK, if_pos H0.out, ← HM.out, Hq.out, min_ite]⟩
        case measure => simp [intOf]; omega
      · have H0 := Lib.hid h0
        have h0' : ((nd D k : Int) == 0) = false := by simpa using h0
        clear h0
        go_wp2
        go_round
        case rel => exact ⟨k + 1, by omega, by go_num, by rw [leastK, if_neg H0.out, Hq.out]⟩
        case measure => simp [intOf]; omega
    · obtain rfl : k = D.n := by omega
      go_wp2
      go_ret
      exact ⟨rfl, hbel⟩
end Go.Proofs.Ytfdjdhjiaacjfaa.W
