/- The plain law, second part. -/
import Derived.Test.YtfdjdhjiaacjfaaM4
namespace Go.Proofs.Ytfdjdhjiaacjfaa.W
open Go Go.RowKit Go.Proofs.Ytfdjdhjiaacjfaa.Kx

theorem vStep_nofol (D : PlanD) (f : Nat → Nat → Int) (s i : Nat) : ∀ k, (∀ j, j < k → fol (nd D) s j = false) → vStep D f s i k = if s = 2 ^ D.n - 1 then 0 else farN := by
  intro k
  induction k with
  | zero => intro _; rfl
  | succ k ih =>
    intro h
    rw [vStep, h k (by omega), ih (fun j hj => h j (by omega))]
    rfl
def costOf : Cmp → Int
  | none => farN
  | some x => x.2
theorem setOf_pos {l : List Nat} (h : l ≠ []) : 1 ≤ setOf l := by
  cases l with
  | nil => exact absurd rfl h
  | cons a l =>
    have hb := setOf_bit (a :: l) a
    have : setOf (a :: l) ≠ 0 := fun e => by rw [e] at hb; simp at hb
    omega
theorem comp_V (D : PlanD) (hD : D.Ok) : ∀ r order i, Ord D.n order → order.getLast? = some i → order.length + r = D.n → Vf D (setOf order) i = costOf (comp D r order) := by
  intro r
  induction r with
  | zero =>
    intro order i ho _ hl
    have hs : setOf order = 2 ^ D.n - 1 := (setOf_full ho).2 (by omega)
    rw [Vf_eq D _ i (setOf_lt ho.lt), vStep_nofol, if_pos hs]
    · rfl
    · intro j hj
      unfold fol
      rw [hs, Nat.testBit_two_pow_sub_one]
      simp [hj]
  | succ r ih =>
    intro order i ho hi hl
    have hs : setOf order ≠ 2 ^ D.n - 1 := fun e => by have := (setOf_full ho).1 e; omega
    rw [Vf_eq D _ i (setOf_lt ho.lt)]
    have key : ∀ k, k ≤ D.n → vStep D (Vf D) (setOf order) i k = costOf (compLoop D (comp D r) order k) := by
      intro k
      induction k with
      | zero => intro _; simp only [vStep, compLoop, costOf]; rw [if_neg hs]
      | succ k ihk =>
        intro hk
        have ihk := ihk (by omega)
        simp only [vStep, compLoop]
        rw [← mayB_fol]
        by_cases hm : mayB D order k = true
        · rw [if_pos hm, if_pos hm, ihk]
          have hn : k ∉ order := mayB_notin (k := D.m) hm
          have ho' := ho.snoc (show k < D.n by omega) hn
          have h1 := ih (order ++ [k]) k ho' (by simp) (by simp; omega)
          rw [setOf_snoc] at h1
          rw [h1]
          have hc : cst D order k = D.C i k := by unfold cst; rw [hi]
          cases hcm : comp D r (order ++ [k]) with
          | none =>
            simp only [costOf]
            have hbd : costOf (compLoop D (comp D r) order k) ≤ farN := by
              rw [← ihk]
              exact (vStep_bd' D hD _ i k (setOf_lt ho.lt) (ho.lt i (List.mem_of_getLast? hi)) (by omega)).2
            have e : ∀ x : Int, (D.C i k : Int) + farN ≥ farN → x ≤ farN → min x ((D.C i k : Int) + farN) = x := fun x h1 h2 => by omega
            exact e _ (by omega) hbd
          | some x =>
            have hxc := comp_le D hD r _ x.1 x.2 ho' hcm
            cases hb : compLoop D (comp D r) order k with
            | none =>
              simp only [costOf, better, farN, hc]
              have := hD.c i k (ho.lt i (List.mem_of_getLast? hi)) (by omega)
              have := hD.n6
              omega
            | some y =>
              simp only [costOf, better, hc]
              by_cases hlt : D.C i k + x.2 < y.2
              · rw [if_pos hlt]
                simp only
                omega
              · rw [if_neg hlt]
                simp only
                omega
        · rw [if_neg hm, if_neg hm, ihk]
    exact key D.n (Nat.le_refl _)
theorem mayB_nil (D : PlanD) (k : Nat) : mayB D [] k = true ↔ nd D k = 0 := by
  rw [mayB_fol]
  unfold fol setOf
  simp only [List.foldl_nil, Nat.zero_testBit, Bool.not_false, Bool.true_and, Nat.and_zero, beq_iff_eq]
  exact ⟨fun h => h.symm, fun h => h.symm⟩
/-- the least over the first baths -/
theorem leastK_comp (D : PlanD) (hD : D.Ok) : ∀ k, k ≤ D.n → match compLoop D (comp D (D.n - 1)) [] k with
    | none => farN ≤ leastK D (priceT D) k
    | some x => leastK D (priceT D) k = x.2 := by
  intro k
  have hn1 := hD.n1
  have hn6 := hD.n6
  induction k with
  | zero => intro _; simp [compLoop, leastK, farN]
  | succ k ih =>
    intro hk
    have ih := ih (by omega)
    simp only [compLoop, leastK]
    have ho : Ord D.n [k] := ⟨by simp, fun x hx => by simp at hx; omega⟩
    have h1 := comp_V D hD (D.n - 1) [k] k ho rfl (by simp; omega)
    have hset : setOf [k] = 2 ^ k := by simp [setOf]
    rw [hset] at h1
    have hp := priceT_at D (2 ^ k) k (by omega) (Nat.two_pow_pos k) (by simp)
    have hc : cst D [] k = D.S k := rfl
    have hs := hD.s k (by omega)
    by_cases hm : mayB D [] k = true
    · rw [if_pos hm, if_pos ((mayB_nil D k).1 hm), hp, h1]
      simp only [List.nil_append]
      cases hcm : comp D (D.n - 1) [k] with
      | none =>
        simp only [costOf]
        cases hb : compLoop D (comp D (D.n - 1)) [] k with
        | none => rw [hb] at ih; simp only at ih ⊢; unfold farN at ih ⊢; omega
        | some y =>
          rw [hb] at ih
          simp only at ih ⊢
          obtain ⟨j, s', c', h2, h3, h4, h5, h6, _, _⟩ := compLoop_some hb
          have hj : Ord D.n [j] := ⟨by simp, fun x hx => by simp at hx; omega⟩
          have hcl := comp_le D hD _ _ _ _ hj h4
          have hcj := hD.s j (by omega)
          have hcs : cst D [] j = D.S j := rfl
          have : y.2 ≤ 2000 := by rw [h6, hcs]; omega
          unfold farN
          omega
      | some x =>
        have hxc := comp_le D hD _ _ x.1 x.2 ho hcm
        simp only [costOf]
        cases hb : compLoop D (comp D (D.n - 1)) [] k with
        | none =>
          rw [hb] at ih
          simp only [better] at ih ⊢
          unfold farN at ih
          rw [hc]
          omega
        | some y =>
          rw [hb] at ih
          simp only [better] at ih ⊢
          rw [hc]
          by_cases hlt : D.S k + x.2 < y.2
          · rw [if_pos hlt]; simp only; omega
          · rw [if_neg hlt]; simp only; omega
    · rw [if_neg hm, if_neg (fun h => hm ((mayB_nil D k).2 h))]
      exact ih

/-- what the greedy search finds is the first of the cheapest -/
structure Greedy (D : PlanD) (suf : List Nat) (c : Nat) (k : Nat) (st : Int × Nat × List Nat) (left : Nat) : Prop where
  hleft : st.1 = left
  hset : st.2.1 = setOf (suf.take k)
  hout : st.2.2 = suf.take k
  hord : Ord D.n (suf.take k)
  hlen : (suf.take k).length = k
  hcomp : comp D (D.n - k) (suf.take k) = some (suf.drop k, left)
  hfol : ∀ i, i < k → fol (nd D) (setOf (suf.take i)) (suf.getD i 0) = true
  hsum : sumK D (fun i => suf.getD i 0) k + left = c
theorem take_snoc' (l : List Nat) (k j : Nat) (s : List Nat) (h : l.drop k = j :: s) : l.take (k + 1) = l.take k ++ [j] ∧ l.drop (k + 1) = s ∧ l.getD k 0 = j := by
  have hk : k < l.length := by
    have := congrArg List.length h
    simp at this
    omega
  rw [List.drop_eq_getElem_cons hk] at h
  obtain ⟨h1, h2⟩ := List.cons.inj h
  exact ⟨by rw [List.take_succ_eq_append_getElem hk, h1], h2, by simp [List.getD_eq_getElem?_getD, List.getElem?_eq_getElem hk, h1]⟩
theorem last_take (l : List Nat) (k : Nat) (hl : (l.take k).length = k) : (l.take k).getLast? = if k = 0 then none else some (l.getD (k - 1) 0) := by
  by_cases h : k = 0
  · subst h; simp
  · rw [if_neg h, List.getLast?_eq_getElem?, hl, List.getElem?_take, if_pos (by omega)]
    simp at hl
    rw [List.getD_eq_getElem?_getD, List.getElem?_eq_getElem (by omega)]
    rfl
theorem greedy_step (D : PlanD) (hD : D.Ok) (suf : List Nat) (c k : Nat) (hk : k < D.n) (st : Int × Nat × List Nat) (left : Nat) (h : Greedy D suf c k st left) : ∃ left', Greedy D suf c (k + 1) (bstep D (priceT D) st) left' := by
  have hn6 := hD.n6
  have hr : D.n - k = (D.n - (k + 1)) + 1 := by omega
  have hc := h.hcomp
  rw [hr] at hc
  obtain ⟨j, s', c', h1, h2, h3, h4, h5, h6, h7⟩ := compLoop_some hc
  obtain ⟨t1, t2, t3⟩ := take_snoc' suf k j s' h4
  have hn : j ∉ suf.take k := mayB_notin (k := D.m) h2
  have ho' := h.hord.snoc h1 hn
  have hcl := comp_le D hD _ _ _ _ ho' h3
  have hcst := cst_le D hD _ h.hord.lt j h1
  -- what 'hit' says of a bath
  have hT : ∀ i, i < D.n → mayB D (suf.take k) i = true → priceT D (D.n * (setOf (suf.take k) ||| 2 ^ i) + i) = costOf (comp D (D.n - (k + 1)) (suf.take k ++ [i])) := by
    intro i hi hm
    have hni : i ∉ suf.take k := mayB_notin (k := D.m) hm
    have hoi := h.hord.snoc hi hni
    rw [priceT_at D _ i hi (by have := setOf_pos (l := suf.take k ++ [i]) (by simp); rw [setOf_snoc] at this; exact this) (by simp), ← setOf_snoc]
    exact comp_V D hD _ _ i hoi (by simp) (by simp [h.hlen]; have := h.hlen; simp at this; omega)
  have hfind : findJ (hit D (priceT D) st.1 st.2.1 st.2.2) D.n = some j := by
    have hhit : hit D (priceT D) st.1 st.2.1 st.2.2 j = true := by
      unfold hit
      rw [h.hset, h.hout, h.hleft, ← mayB_fol, h2, hT j h1 h2, h3]
      simp only [costOf, Bool.true_and, beq_iff_eq]
      omega
    have hno : ∀ i, i < j → hit D (priceT D) st.1 st.2.1 st.2.2 i = false := by
      intro i hi
      unfold hit
      rw [h.hset, h.hout, h.hleft, ← mayB_fol]
      by_cases hm : mayB D (suf.take k) i = true
      · rw [hm, hT i (by omega) hm]
        simp only [Bool.true_and, beq_eq_false_iff_ne]
        cases hx : comp D (D.n - (k + 1)) (suf.take k ++ [i]) with
        | none => simp only [costOf, farN]; omega
        | some x => have := h6 i x hi hm hx; simp only [costOf]; omega
      · simp only [Bool.not_eq_true] at hm
        rw [hm]
        rfl
    have hnone : ∀ m, m ≤ j → findJ (hit D (priceT D) st.1 st.2.1 st.2.2) m = none := by
      intro m
      induction m with
      | zero => intro _; rfl
      | succ m ih => intro hm; exact findJ_miss (ih (by omega)) (hno m (by omega))
    exact findJ_hit (hnone j (Nat.le_refl _)) hhit D.n h1
  refine ⟨c', ?_⟩
  have hb : bstep D (priceT D) st = (st.1 - cst D st.2.2 j, st.2.1 ||| 2 ^ j, st.2.2 ++ [j]) := by
    unfold bstep; rw [hfind]
  rw [hb]
  refine ⟨?_, ?_, ?_, by rw [t1]; exact ho', by rw [t1, List.length_append, h.hlen]; rfl, by rw [t1, t2]; exact h3, ?_, ?_⟩
  · simp only [h.hleft, h.hout]; omega
  · simp only [h.hset, t1, setOf_snoc]
  · simp only [h.hout, t1]
  · intro i hi
    by_cases e : i = k
    · subst e
      rw [t3, ← mayB_fol]
      exact h2
    · exact h.hfol i (by omega)
  · have hs := h.hsum
    simp only [sumK]
    have hlt := last_take suf k h.hlen
    have hce : cst D (suf.take k) j = if k = 0 then D.S j else D.C (suf.getD (k - 1) 0) j := by
      unfold cst
      rw [hlt]
      by_cases e : k = 0
      · simp [e]
      · simp [e]
    rw [hce] at h5
    rw [t3]
    by_cases e : k = 0
    · subst e
      simp only [sumK] at hs
      simp only [if_true] at h5 ⊢
      omega
    · rw [if_neg e] at h5 ⊢
      omega
theorem greedy_all (D : PlanD) (hD : D.Ok) (suf : List Nat) (c : Nat) (hc : comp D D.n [] = some (suf, c)) :
    ∃ left, Greedy D suf c D.n (bestK D (priceT D) (leastK D (priceT D) D.n) D.n) left := by
  have hn1 := hD.n1
  have h0 : leastK D (priceT D) D.n = c := by
    have h := leastK_comp D hD D.n (Nat.le_refl _)
    obtain ⟨r, hr⟩ : ∃ r, D.n = r + 1 := ⟨D.n - 1, by omega⟩
    have hc' : compLoop D (comp D (D.n - 1)) [] D.n = some (suf, c) := by
      have h2 : comp D (r + 1) [] = some (suf, c) := by rw [← hr]; exact hc
      rw [show D.n - 1 = r by omega]
      exact h2
    rw [hc'] at h
    exact h
  have key : ∀ k, k ≤ D.n → ∃ left, Greedy D suf c k (bestK D (priceT D) (leastK D (priceT D) D.n) k) left := by
    intro k
    induction k with
    | zero =>
      intro _
      exact ⟨c, ⟨by rw [bestK]; exact h0, by simp [bestK, setOf], by simp [bestK], ⟨by simp, by simp⟩, by simp, by simpa using hc, fun i hi => by omega, by simp [sumK]⟩⟩
    | succ k ih =>
      intro hk
      obtain ⟨left, h⟩ := ih (by omega)
      rw [bestK]
      exact greedy_step D hD suf c k (by omega) _ left h
  exact key D.n (Nat.le_refl _)
end Go.Proofs.Ytfdjdhjiaacjfaa.W
