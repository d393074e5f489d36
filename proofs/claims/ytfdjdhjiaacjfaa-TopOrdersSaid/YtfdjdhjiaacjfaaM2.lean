/- The search for the best order, as plain functions. -/
import Derived.Test.YtfdjdhjiaacjfaaM1
namespace Go.Proofs.Ytfdjdhjiaacjfaa.W
open Go Go.RowKit Go.Proofs.Ytfdjdhjiaacjfaa.Kx

/-- what bath j costs behind an order -/
def cst (D : PlanD) (out : List Nat) (j : Nat) : Nat := match out.getLast? with
  | none => D.S j
  | some l => D.C l j
def hit (D : PlanD) (T : Nat → Int) (left : Int) (set : Nat) (out : List Nat) (j : Nat) : Bool :=
  fol (nd D) set j && ((cst D out j : Int) + T (D.n * (set ||| 2 ^ j) + j) == left)
/-- the first number below k for which p holds -/
def findJ (p : Nat → Bool) : Nat → Option Nat
  | 0 => none
  | k + 1 => match findJ p k with
    | some j => some j
    | none => if p k then some k else none
theorem findJ_hit {p : Nat → Bool} {j : Nat} (h : findJ p j = none) (hp : p j = true) : ∀ n, j < n → findJ p n = some j := by
  intro n
  induction n with
  | zero => intro h; omega
  | succ n ih =>
    intro hn
    by_cases e : j = n
    · subst e
      simp only [findJ, h, hp, if_true]
    · simp only [findJ, ih (by omega)]
theorem findJ_miss {p : Nat → Bool} {j : Nat} (h : findJ p j = none) (hp : p j = false) : findJ p (j + 1) = none := by
  simp [findJ, h, hp]
theorem findJ_some {p : Nat → Bool} {j : Nat} : ∀ {n : Nat}, findJ p n = some j → j < n ∧ p j = true ∧ ∀ i, i < j → p i = false := by
  intro n
  induction n with
  | zero => intro h; simp [findJ] at h
  | succ n ih =>
    intro h
    simp only [findJ] at h
    cases h1 : findJ p n with
    | some j' =>
      rw [h1] at h
      obtain rfl : j' = j := by simpa using h
      have := ih h1
      exact ⟨by omega, this.2⟩
    | none =>
      rw [h1] at h
      by_cases hp : p n = true
      · rw [if_pos hp] at h
        obtain rfl : n = j := by simpa using h
        refine ⟨by omega, hp, ?_⟩
        clear ih h hp
        intro i hi
        have key : ∀ m, findJ p m = none → ∀ i, i < m → p i = false := by
          intro m
          induction m with
          | zero => intro _ i hi; omega
          | succ m ihm =>
            intro hm i hi
            simp only [findJ] at hm
            cases h2 : findJ p m with
            | some _ => rw [h2] at hm; simp at hm
            | none =>
              rw [h2] at hm
              by_cases e : i = m
              · subst e
                cases hq : p i with
                | false => rfl
                | true => rw [hq] at hm; simp at hm
              · exact ihm h2 i (by omega)
        exact key n h1 i hi
      · rw [if_neg hp] at h
        simp at h
def bstep (D : PlanD) (T : Nat → Int) (st : Int × Nat × List Nat) : Int × Nat × List Nat :=
  match findJ (hit D T st.1 st.2.1 st.2.2) D.n with
  | none => st
  | some j => (st.1 - cst D st.2.2 j, st.2.1 ||| 2 ^ j, st.2.2 ++ [j])
def bestK (D : PlanD) (T : Nat → Int) (left0 : Int) : Nat → Int × Nat × List Nat
  | 0 => (left0, 0, [])
  | k + 1 => bstep D T (bestK D T left0 k)
theorem cst_le (D : PlanD) (hD : D.Ok) (out : List Nat) (ho : ∀ x ∈ out, x < D.n) (j : Nat) (hj : j < D.n) : cst D out j ≤ 255 := by
  unfold cst
  cases h : out.getLast? with
  | none => exact hD.s j hj
  | some l => exact hD.c l j (ho l (List.mem_of_getLast? h)) hj
structure BInv (D : PlanD) (left0 : Int) (k : Nat) (left : Int) (set : Nat) (out : List Nat) : Prop where
  iset : set < 2 ^ D.n
  iout : ∀ x ∈ out, x < D.n
  ilen : out.length ≤ k
  ilo : left0 - 255 * k ≤ left
  ihi : left ≤ left0
theorem bestK_inv (D : PlanD) (hD : D.Ok) (T : Nat → Int) (left0 : Int) : ∀ k, BInv D left0 k (bestK D T left0 k).1 (bestK D T left0 k).2.1 (bestK D T left0 k).2.2 := by
  intro k
  induction k with
  | zero => exact ⟨Nat.two_pow_pos _, by simp [bestK], by simp [bestK], by simp [bestK], by simp [bestK]⟩
  | succ k ih =>
    simp only [bestK]
    generalize bestK D T left0 k = st at ih
    unfold bstep
    cases h : findJ (hit D T st.1 st.2.1 st.2.2) D.n with
    | none => exact ⟨ih.iset, ih.iout, Nat.le_succ_of_le ih.ilen, by have := ih.ilo; simp only; omega, ih.ihi⟩
    | some j =>
      obtain ⟨hj, _, _⟩ := findJ_some h
      have hc := cst_le D hD st.2.2 ih.iout j hj
      have h1 := ih.ilo
      have h2 := ih.ihi
      refine ⟨or_lt ih.iset hj, ?_, by have := ih.ilen; simp; omega, by simp only; omega, by simp only; omega⟩
      intro x hx
      simp only [List.mem_append, List.mem_singleton] at hx
      rcases hx with hx | rfl
      · exact ih.iout x hx
      · exact hj
end Go.Proofs.Ytfdjdhjiaacjfaa.W
