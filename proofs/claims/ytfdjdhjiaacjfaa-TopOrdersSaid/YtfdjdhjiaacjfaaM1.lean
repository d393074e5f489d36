/- The table of prices as a plain function: no program is in sight (but for the plan's type and 'fol'). -/
import Derived.Test.YtfdjdhjiaacjfaaW1
namespace Go.Proofs.Ytfdjdhjiaacjfaa.W
open Go Go.RowKit Go.Proofs.Ytfdjdhjiaacjfaa.Kx

def farN : Int := 1099511627776
def vStep (D : PlanD) (next : Nat → Nat → Int) (s i : Nat) : Nat → Int
  | 0 => if s = 2 ^ D.n - 1 then 0 else farN
  | j + 1 => if fol (nd D) s j then min (vStep D next s i j) (D.C i j + next (s ||| 2 ^ j) j) else vStep D next s i j
def Vr (D : PlanD) : Nat → Nat → Nat → Int
  | 0, _, _ => 0
  | r + 1, s, i => vStep D (Vr D r) s i D.n
def Vf (D : PlanD) (s i : Nat) : Int := Vr D (2 ^ D.n - s) s i

theorem fol_lt {nd : Nat → Nat} {s j : Nat} (h : fol nd s j = true) : s < s ||| 2 ^ j := by
  have hb : s.testBit j = false := by
    unfold fol at h
    simp only [Bool.and_eq_true, Bool.not_eq_true'] at h
    exact h.1
  have hle : s ≤ s ||| 2 ^ j := Nat.left_le_or
  have hne : s ≠ s ||| 2 ^ j := by
    intro e
    have := congrArg (fun x => x.testBit j) e
    simp [hb] at this
  omega
theorem or_lt {n s j : Nat} (hs : s < 2 ^ n) (hj : j < n) : s ||| 2 ^ j < 2 ^ n := Nat.or_lt_two_pow hs (Nat.pow_lt_pow_right (by omega) hj)
theorem vStep_congr (D : PlanD) (f g : Nat → Nat → Int) (s i : Nat) (hs : s < 2 ^ D.n) (h : ∀ s' j, s < s' → s' < 2 ^ D.n → f s' j = g s' j) : ∀ j, j ≤ D.n → vStep D f s i j = vStep D g s i j := by
  intro j
  induction j with
  | zero => intro _; rfl
  | succ j ih =>
    intro hj
    simp only [vStep, ih (by omega)]
    split
    · rename_i hf
      rw [h _ _ (fol_lt hf) (or_lt hs (by omega))]
    · rfl
theorem Vr_fuel (D : PlanD) : ∀ r r' s i, s < 2 ^ D.n → 2 ^ D.n - s ≤ r → 2 ^ D.n - s ≤ r' → Vr D r s i = Vr D r' s i := by
  intro r
  induction r with
  | zero => intro r' s i hs h; omega
  | succ r ih =>
    intro r' s i hs h h'
    cases r' with
    | zero => omega
    | succ r' =>
      simp only [Vr]
      exact vStep_congr D _ _ s i hs (fun s' j h1 h2 => ih r' s' j h2 (by omega) (by omega)) D.n (Nat.le_refl _)
theorem Vf_eq (D : PlanD) (s i : Nat) (hs : s < 2 ^ D.n) : Vf D s i = vStep D (Vf D) s i D.n := by
  unfold Vf
  obtain ⟨r, hr⟩ : ∃ r, 2 ^ D.n - s = r + 1 := ⟨2 ^ D.n - s - 1, by omega⟩
  rw [hr]
  simp only [Vr]
  exact vStep_congr D _ _ s i hs (fun s' j h1 h2 => Vr_fuel D _ _ s' j h2 (by omega) (Nat.le_refl _)) D.n (Nat.le_refl _)
theorem vStep_bd (D : PlanD) (hD : D.Ok) (f : Nat → Nat → Int) (s i : Nat) (hs : s < 2 ^ D.n) (hi : i < D.n) (hf : ∀ s' j, s < s' → s' < 2 ^ D.n → j < D.n → 0 ≤ f s' j ∧ f s' j ≤ farN) : ∀ j, j ≤ D.n → 0 ≤ vStep D f s i j ∧ vStep D f s i j ≤ farN := by
  intro j
  induction j with
  | zero => intro _; simp only [vStep, farN]; split <;> omega
  | succ j ih =>
    intro hj
    have := ih (by omega)
    simp only [vStep]
    split
    · rename_i hfo
      have := hf _ j (fol_lt hfo) (or_lt hs (by omega)) (by omega)
      have := hD.c i j hi (by omega)
      omega
    · exact this
theorem Vr_bd (D : PlanD) (hD : D.Ok) : ∀ r s i, s < 2 ^ D.n → i < D.n → 0 ≤ Vr D r s i ∧ Vr D r s i ≤ farN := by
  intro r
  induction r with
  | zero => intro s i _ _; simp [Vr, farN]
  | succ r ih =>
    intro s i hs hi
    simp only [Vr]
    exact vStep_bd D hD _ s i hs hi (fun s' j _ h2 hj => ih s' j h2 hj) D.n (Nat.le_refl _)
theorem Vf_bd (D : PlanD) (hD : D.Ok) (s i : Nat) (hs : s < 2 ^ D.n) (hi : i < D.n) : 0 ≤ Vf D s i ∧ Vf D s i ≤ farN := Vr_bd D hD _ s i hs hi
theorem vStep_bd' (D : PlanD) (hD : D.Ok) (s i j : Nat) (hs : s < 2 ^ D.n) (hi : i < D.n) (hj : j ≤ D.n) : 0 ≤ vStep D (Vf D) s i j ∧ vStep D (Vf D) s i j ≤ farN :=
  vStep_bd D hD _ s i hs hi (fun s' j _ h2 h3 => Vf_bd D hD s' j h2 h3) j hj

/-- the table when all sets above s, and s at the baths below i, are done -/
def tabF (D : PlanD) (s i idx : Nat) : Int :=
  if 1 ≤ idx / D.n ∧ (s < idx / D.n ∨ (s = idx / D.n ∧ idx % D.n < i)) ∧ (idx / D.n).testBit (idx % D.n) = true then Vf D (idx / D.n) (idx % D.n) else -1
theorem dm (n s i : Nat) (hi : i < n) : (n * s + i) / n = s ∧ (n * s + i) % n = i := by
  have h : 0 < n := by omega
  constructor
  · rw [Nat.mul_add_div h, Nat.div_eq_of_lt hi]; omega
  · rw [Nat.mul_add_mod, Nat.mod_eq_of_lt hi]
theorem dm' (n idx s i : Nat) (h1 : idx / n = s) (h2 : idx % n = i) : idx = n * s + i := by
  subst h1; subst h2; exact (Nat.div_add_mod idx n).symm
theorem tabF_start (D : PlanD) (idx : Nat) (h : idx < D.n * 2 ^ D.n) : tabF D (2 ^ D.n - 1) 0 idx = -1 := by
  unfold tabF
  have := Nat.div_lt_of_lt_mul h
  rw [if_neg]
  rintro ⟨_, h2, _⟩
  omega
theorem tabF_skip (D : PlanD) (s i idx : Nat) (hb : s.testBit i = false) : tabF D s (i + 1) idx = tabF D s i idx := by
  unfold tabF
  by_cases h : s = idx / D.n ∧ idx % D.n = i
  · rw [if_neg, if_neg]
    · rintro ⟨_, h2, _⟩; omega
    · rintro ⟨_, _, h3⟩; rw [← h.1, h.2, hb] at h3; cases h3
  · congr 1
    simp only [eq_iff_iff]
    constructor
    · rintro ⟨h1, h2, h3⟩; exact ⟨h1, by omega, h3⟩
    · rintro ⟨h1, h2, h3⟩; exact ⟨h1, by omega, h3⟩
theorem tabF_set (D : PlanD) (s i idx : Nat) (hi : i < D.n) (hs : 1 ≤ s) (hb : s.testBit i = true) : (if idx = D.n * s + i then Vf D s i else tabF D s i idx) = tabF D s (i + 1) idx := by
  obtain ⟨e1, e2⟩ := dm D.n s i hi
  by_cases h : idx = D.n * s + i
  · rw [if_pos h, h]
    unfold tabF
    rw [e1, e2, if_pos ⟨hs, Or.inr ⟨rfl, by omega⟩, hb⟩]
  · rw [if_neg h]
    unfold tabF
    congr 1
    simp only [eq_iff_iff]
    constructor
    · rintro ⟨h1, h2, h3⟩; exact ⟨h1, by omega, h3⟩
    · rintro ⟨h1, h2, h3⟩
      refine ⟨h1, ?_, h3⟩
      rcases h2 with h2 | ⟨h2, h4⟩
      · exact Or.inl h2
      · right
        refine ⟨h2, ?_⟩
        have : ¬ idx % D.n = i := fun e => h (dm' D.n idx s i h2.symm e)
        omega
theorem tabF_next (D : PlanD) (s idx : Nat) (hn : 0 < D.n) (hs : 1 ≤ s) : tabF D s D.n idx = tabF D (s - 1) 0 idx := by
  unfold tabF
  have := Nat.mod_lt idx hn
  congr 1
  simp only [eq_iff_iff]
  constructor
  · rintro ⟨h1, h2, h3⟩; exact ⟨h1, by omega, h3⟩
  · rintro ⟨h1, h2, h3⟩; exact ⟨h1, by omega, h3⟩
/-- what the j loop reads -/
theorem tabF_read (D : PlanD) (s i s' j : Nat) (hj : j < D.n) (hs : s < s') (hb : s'.testBit j = true) : tabF D s i (D.n * s' + j) = Vf D s' j := by
  obtain ⟨e1, e2⟩ := dm D.n s' j hj
  unfold tabF
  rw [e1, e2, if_pos ⟨by omega, Or.inl hs, hb⟩]
theorem or_bit (s j : Nat) : (s ||| 2 ^ j).testBit j = true := by simp
/-- the whole table -/
def priceT (D : PlanD) (idx : Nat) : Int := tabF D 0 0 idx
theorem priceT_at (D : PlanD) (s j : Nat) (hj : j < D.n) (hs : 1 ≤ s) (hb : s.testBit j = true) : priceT D (D.n * s + j) = Vf D s j := tabF_read D 0 0 s j hj (by omega) hb
theorem priceT_bd (D : PlanD) (hD : D.Ok) (idx : Nat) (h : idx < D.n * 2 ^ D.n) : -1 ≤ priceT D idx ∧ priceT D idx ≤ 1099511627776 := by
  unfold priceT tabF
  split
  · have := Vf_bd D hD (idx / D.n) (idx % D.n) (Nat.div_lt_of_lt_mul h) (Nat.mod_lt _ hD.n1)
    unfold farN at this
    omega
  · omega
theorem idx_lt (n s i N : Nat) (hi : i < n) (hs : s < N) : n * s + i < n * N := by
  have : n * (s + 1) ≤ n * N := Nat.mul_le_mul_left _ hs
  rw [Nat.mul_succ] at this
  omega
end Go.Proofs.Ytfdjdhjiaacjfaa.W
