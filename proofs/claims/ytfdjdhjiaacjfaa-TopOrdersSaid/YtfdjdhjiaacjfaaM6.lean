/- The plain law, third part: when there is an order at all; that the table is sound. -/
import Derived.Test.YtfdjdhjiaacjfaaM5
namespace Go.Proofs.Ytfdjdhjiaacjfaa.W
open Go Go.RowKit Go.Proofs.Ytfdjdhjiaacjfaa.Kx

/-! ### there is an order just if the greedy closure is full -/
/-- a list each of whose baths may follow those ahead -/
def Chain (D : PlanD) (l : List Nat) : Prop := ∀ i, i < l.length → mayB D (l.take i) (l.getD i 0) = true ∧ l.getD i 0 < D.n
theorem Chain.snoc {D : PlanD} {l : List Nat} (h : Chain D l) {j : Nat} (hj : j < D.n) (hm : mayB D l j = true) : Chain D (l ++ [j]) := by
  intro i hi
  simp at hi
  by_cases e : i = l.length
  · subst e
    simp [hm, hj]
  · have := h i (by omega)
    rw [List.take_append_of_le_length (by omega)]
    simpa [List.getD_eq_getElem?_getD, List.getElem?_append, show i < l.length by omega] using this
theorem Chain.ord {D : PlanD} : ∀ (k : Nat) {l : List Nat}, Chain D l → k ≤ l.length → Ord D.n (l.take k) := by
  intro k
  induction k with
  | zero => intro l _ _; exact ⟨by simp, by simp⟩
  | succ k ih =>
    intro l h hk
    have h1 := ih h (by omega)
    obtain ⟨h2, h3⟩ := h k (by omega)
    have hd : l.drop k = l.getD k 0 :: l.drop (k + 1) := by
      rw [List.drop_eq_getElem_cons (by omega)]
      simp [List.getD_eq_getElem?_getD, List.getElem?_eq_getElem (show k < l.length by omega)]
    rw [(take_snoc' l k _ _ hd).1]
    exact h1.snoc h3 (mayB_notin (k := D.m) h2)
theorem pos_chain_in (D : PlanD) (s0 : Nat) (l0 : List Nat) (h0 : Chain D l0) (hs : setOf l0 = s0) : ∀ j, j ≤ D.n → ∃ l, Chain D l ∧ setOf l = posIn (nd D) j s0 := by
  intro j
  induction j with
  | zero => intro _; exact ⟨l0, h0, hs⟩
  | succ j ih =>
    intro hj
    obtain ⟨l, h1, h2⟩ := ih (by omega)
    simp only [posIn]
    by_cases hf : fol (nd D) (posIn (nd D) j s0) j = true
    · rw [if_pos hf]
      exact ⟨l ++ [j], h1.snoc (by omega) (by rw [mayB_fol, h2]; exact hf), by rw [setOf_snoc, h2]⟩
    · rw [if_neg hf]
      exact ⟨l, h1, h2⟩
theorem pos_chain (D : PlanD) : ∀ k, ∃ l, Chain D l ∧ setOf l = posOut (nd D) D.n k := by
  intro k
  induction k with
  | zero => exact ⟨[], fun i hi => by simp at hi, rfl⟩
  | succ k ih =>
    obtain ⟨l, h1, h2⟩ := ih
    exact pos_chain_in D _ l h1 h2 D.n (Nat.le_refl _)
theorem comp_of_chain (D : PlanD) : ∀ (r k : Nat) (l : List Nat), Chain D l → l.length = D.n → k + r = D.n → comp D r (l.take k) ≠ none := by
  intro r
  induction r with
  | zero => intro k l _ _ _; simp [comp]
  | succ r ih =>
    intro k l h hl hk hnone
    simp only [comp] at hnone
    obtain ⟨h2, h3⟩ := h k (by omega)
    have := compLoop_none hnone _ h3 h2
    have hd : l.drop k = l.getD k 0 :: l.drop (k + 1) := by
      rw [List.drop_eq_getElem_cons (by omega)]
      simp [List.getD_eq_getElem?_getD, List.getElem?_eq_getElem (show k < l.length by omega)]
    rw [← (take_snoc' l k _ _ hd).1] at this
    exact ih (k + 1) l h hl (by omega) this
theorem posIn_mono (nd : Nat → Nat) (s i : Nat) (h : s.testBit i = true) : ∀ j, (posIn nd j s).testBit i = true := by
  intro j
  induction j with
  | zero => exact h
  | succ j ih =>
    simp only [posIn]
    split
    · rw [Nat.testBit_or, ih]; rfl
    · exact ih
theorem posIn_adds (nd : Nat → Nat) (s j : Nat) (hsub : ∀ i, (nd j).testBit i = true → s.testBit i = true) : ∀ n, j < n → (posIn nd n s).testBit j = true := by
  intro n
  induction n with
  | zero => intro h; omega
  | succ n ih =>
    intro h
    by_cases e : j = n
    · subst e
      simp only [posIn]
      cases hb : (posIn nd j s).testBit j with
      | true =>
        split
        · rw [Nat.testBit_or, hb]; rfl
        · exact hb
      | false =>
        have hf : fol nd (posIn nd j s) j = true := by
          unfold fol
          simp only [hb, Bool.not_false, Bool.true_and, beq_iff_eq, and_eq_iff]
          intro i hi
          exact posIn_mono nd s i (hsub i hi) j
        rw [if_pos hf]
        exact or_bit _ _
    · simp only [posIn]
      split
      · rw [Nat.testBit_or, ih (by omega)]; rfl
      · exact ih (by omega)
theorem poss_iff (D : PlanD) (hD : D.Ok) : possB D = true ↔ comp D D.n [] ≠ none := by
  constructor
  · intro h
    obtain ⟨l, h1, h2⟩ := pos_chain D D.n
    unfold possB at h
    rw [beq_iff_eq] at h
    rw [h] at h2
    have ho := Chain.ord l.length h1 (Nat.le_refl _)
    rw [List.take_length] at ho
    have hl := (setOf_full ho).1 h2
    have := comp_of_chain D D.n 0 l h1 hl (by omega)
    simpa using this
  · intro h
    cases hc : comp D D.n [] with
    | none => exact absurd hc h
    | some x =>
      obtain ⟨left, hg⟩ := greedy_all D hD x.1 x.2 hc
      have key : ∀ k, k ≤ D.n → ∀ i, i ∈ x.1.take k → (posOut (nd D) D.n k).testBit i = true := by
        intro k
        induction k with
        | zero => intro _ i hi; simp at hi
        | succ k ih =>
          intro hk i hi
          have hlen : k < x.1.length := by
            have := hg.hlen
            simp at this
            omega
          have hd : x.1.drop k = x.1.getD k 0 :: x.1.drop (k + 1) := by
            rw [List.drop_eq_getElem_cons hlen]
            simp [List.getD_eq_getElem?_getD, List.getElem?_eq_getElem hlen]
          rw [(take_snoc' x.1 k _ _ hd).1] at hi
          rw [posOut]
          rcases List.mem_append.1 hi with hi | hi
          · exact posIn_mono _ _ _ (ih (by omega) i hi) D.n
          · have hij : i = x.1.getD k 0 := by simpa using hi
            have hfk := hg.hfol k (by omega)
            unfold fol at hfk
            simp only [Bool.and_eq_true, beq_iff_eq, and_eq_iff, setOf_bit, decide_eq_true_eq] at hfk
            have hin : i < D.n := by
              have hm : x.1.getD k 0 ∈ x.1.take D.n := by
                rw [List.getD_eq_getElem?_getD, List.getElem?_eq_getElem hlen]
                simp only [Option.getD_some]
                rw [List.mem_take_iff_getElem]
                exact ⟨k, by omega, rfl⟩
              rw [hij]
              exact hg.hord.lt _ hm
            refine posIn_adds _ _ _ (fun q hq => ih (by omega) q ?_) D.n hin
            rw [hij] at hq
            exact hfk.2 q hq
      unfold possB
      rw [beq_iff_eq]
      apply Nat.eq_of_testBit_eq
      intro i
      rw [Nat.testBit_two_pow_sub_one]
      by_cases hi : i < D.n
      · simp only [hi, decide_true]
        exact key D.n (Nat.le_refl _) i (mem_of_full D.n _ hg.hord.nodup hg.hord.lt hg.hlen i hi)
      · simp only [hi, decide_false]
        exact Nat.testBit_lt_two_pow (Nat.lt_of_lt_of_le (posOut_lt (nd D) D.n D.n) (Nat.pow_le_pow_right (by omega) (by omega)))

/-! ### the table is sound -/
theorem vStep_le_base (D : PlanD) (f : Nat → Nat → Int) (s i : Nat) : ∀ k, vStep D f s i k ≤ if s = 2 ^ D.n - 1 then 0 else farN := by
  intro k
  induction k with
  | zero => exact Int.le_refl _
  | succ k ih =>
    simp only [vStep]
    split
    · exact Int.le_trans (Int.min_le_left _ _) ih
    · exact ih
theorem vStep_le_step (D : PlanD) (f : Nat → Nat → Int) (s i j : Nat) (hf : fol (nd D) s j = true) : ∀ k, j < k → vStep D f s i k ≤ D.C i j + f (s ||| 2 ^ j) j := by
  intro k
  induction k with
  | zero => intro h; omega
  | succ k ih =>
    intro h
    simp only [vStep]
    by_cases e : j = k
    · subst e
      rw [if_pos hf]
      exact Int.min_le_right _ _
    · split
      · exact Int.le_trans (Int.min_le_left _ _) (ih (by omega))
      · exact ih (by omega)
theorem priceT_sound (D : PlanD) : Sound D (priceT D) := by
  constructor
  · intro s i h1 h2 h3 h4 h5
    rw [priceT_at D s i h3 h1 h4, Vf_eq D s i h2]
    have := vStep_le_base D (Vf D) s i D.n
    rw [if_pos h5] at this
    exact this
  · intro s i j h1 h2 h3 h4 h5 h6
    rw [priceT_at D s i h3 h1 h4, priceT_at D (s ||| 2 ^ j) j h5 (by have := fol_lt h6; omega) (or_bit s j), Vf_eq D s i h2]
    exact vStep_le_step D (Vf D) s i j h6 D.n h5

/-! ### what TopOrders compares -/
theorem setOf_setK (l : List Nat) : ∀ k, k ≤ l.length → setK (fun i => l.getD i 0) k = setOf (l.take k) := by
  intro k
  induction k with
  | zero => intro _; simp [setK, setOf]
  | succ k ih =>
    intro hk
    have hd : l.drop k = l.getD k 0 :: l.drop (k + 1) := by
      rw [List.drop_eq_getElem_cons (by omega)]
      simp [List.getD_eq_getElem?_getD, List.getElem?_eq_getElem (show k < l.length by omega)]
    rw [setK, ih (by omega), (take_snoc' l k _ _ hd).1, setOf_snoc]
/-- all that is compared, in one -/
structure Agree (D : PlanD) (best : List Nat) (least : Nat) : Prop where
  len : best.length = D.n
  lt : ∀ k, k < D.n → best.getD k 0 < D.n
  out : (bestK D (priceT D) (leastK D (priceT D) D.n) D.n).2.2 = best
  fol : ∀ k, k < D.n → fol (nd D) (setK (fun i => best.getD i 0) k) (best.getD k 0) = true
  sum : sumK D (fun i => best.getD i 0) D.n = least
  table : leastK D (priceT D) D.n = least
theorem orders_law (D : PlanD) (hD : D.Ok) : (possB D = false ∧ allF D D.n [] 0 (1073741824, []) = (1073741824, [])) ∨
    (possB D = true ∧ ∃ best least, allF D D.n [] 0 (1073741824, []) = (least, best) ∧ Agree D best least) := by
  have hn1 := hD.n1
  have hn6 := hD.n6
  have hA := allF_comp D D.n [] 0 (1073741824, []) (by simp)
  cases hc : comp D D.n [] with
  | none =>
    left
    refine ⟨?_, by rw [hA, hc]; rfl⟩
    cases hp : possB D with
    | false => rfl
    | true => exact absurd hc ((poss_iff D hD).1 hp)
  | some x =>
    right
    have hle := comp_le D hD D.n [] x.1 x.2 ⟨by simp, by simp⟩ hc
    obtain ⟨left, hg⟩ := greedy_all D hD x.1 x.2 hc
    have hlen0 := hg.hlen
    have hlast := hg.hcomp
    rw [Nat.sub_self] at hlast
    simp only [comp, Option.some.injEq, Prod.mk.injEq] at hlast
    have hlen : x.1.length = D.n := by
      have h1 := congrArg List.length hlast.1
      simp at h1 hlen0
      omega
    have htk : x.1.take D.n = x.1 := List.take_of_length_le (by omega)
    refine ⟨(poss_iff D hD).2 (by rw [hc]; simp), x.1, x.2, ?_, ?_⟩
    · rw [hA, hc]
      simp only [taken, upd, Nat.zero_add, List.nil_append]
      rw [if_pos (show x.2 < 1073741824 by omega)]
    · refine ⟨hlen, ?_, by rw [hg.hout, htk], ?_, ?_, ?_⟩
      · intro k hk
        have h1 := hg.hord.lt
        rw [htk] at h1
        rw [List.getD_eq_getElem?_getD, List.getElem?_eq_getElem (by omega)]
        exact h1 _ (List.getElem_mem _)
      · intro k hk
        rw [setOf_setK x.1 k (by omega)]
        exact hg.hfol k hk
      · have := hg.hsum
        rw [← hlast.2] at this
        omega
      · have h := leastK_comp D hD D.n (Nat.le_refl _)
        obtain ⟨r, hr⟩ : ∃ r, D.n = r + 1 := ⟨D.n - 1, by omega⟩
        have hc' : compLoop D (comp D (D.n - 1)) [] D.n = some x := by
          have h2 : comp D (r + 1) [] = some x := by rw [← hr]; exact hc
          rw [show D.n - 1 = r by omega]
          exact h2
        rw [hc'] at h
        exact h
end Go.Proofs.Ytfdjdhjiaacjfaa.W
