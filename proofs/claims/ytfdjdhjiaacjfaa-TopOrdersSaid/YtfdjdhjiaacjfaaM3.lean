/- The orders, tried one by one: as plain functions, and how they lie in memory. -/
import Derived.Test.YtfdjdhjiaacjfaaM2
namespace Go.Proofs.Ytfdjdhjiaacjfaa.W
open Go Go.RowKit Go.Deep Go.Proofs.Ytfdjdhjiaacjfaa.Kx

def mayK (D : PlanD) (order : List Nat) (j : Nat) : Nat → Bool
  | 0 => !decide (j ∈ order)
  | k + 1 => mayK D order j k && (D.B1 k != j || decide (D.B0 k ∈ order))
def mayB (D : PlanD) (order : List Nat) (j : Nat) : Bool := mayK D order j D.m
abbrev St := Nat × List Nat
def updB (D : PlanD) (order : List Nat) (cost : Nat) (st : St) : St := if order.length = D.n ∧ cost < st.1 then (cost, order) else st
def allLoop (D : PlanD) (f : List Nat → Nat → St → St) (order : List Nat) (cost : Nat) : Nat → St → St
  | 0, st => st
  | k + 1, st => if mayB D order k then f (order ++ [k]) (cost + cst D order k) (allLoop D f order cost k st) else allLoop D f order cost k st
def allF (D : PlanD) : Nat → List Nat → Nat → St → St
  | 0, order, cost, st => updB D order cost st
  | r + 1, order, cost, st => allLoop D (allF D r) order cost D.n (updB D order cost st)

theorem mayK_in (D : PlanD) (order : List Nat) (j : Nat) (h : j ∈ order) : ∀ k, mayK D order j k = false := by
  intro k
  induction k with
  | zero => simp [mayK, h]
  | succ k ih => simp [mayK, ih]
theorem length_le_of_nodup : ∀ (n : Nat) (l : List Nat), l.Nodup → (∀ x ∈ l, x < n) → l.length ≤ n := by
  intro n
  induction n with
  | zero =>
    intro l _ h
    cases l with
    | nil => simp
    | cons a l => exact absurd (h a (by simp)) (by omega)
  | succ n ih =>
    intro l hn h
    by_cases hm : n ∈ l
    · have h1 := ih (l.erase n) (hn.erase n) (fun x hx => by
        have h2 := h x (List.mem_of_mem_erase hx)
        have h3 : x ≠ n := fun e => by subst e; exact (List.Nodup.not_mem_erase hn) hx
        omega)
      rw [List.length_erase_of_mem hm] at h1
      omega
    · have := ih l hn (fun x hx => by
        have h2 := h x hx
        have h3 : x ≠ n := fun e => hm (e ▸ hx)
        omega)
      omega
theorem mem_of_full (n : Nat) (l : List Nat) (hn : l.Nodup) (h : ∀ x ∈ l, x < n) (hl : l.length = n) (j : Nat) (hj : j < n) : j ∈ l := by
  by_cases hm : j ∈ l
  · exact hm
  · exfalso
    have := length_le_of_nodup n (j :: l) (List.nodup_cons.2 ⟨hm, hn⟩) (fun x hx => by
      rcases List.mem_cons.1 hx with rfl | hx
      · exact hj
      · exact h x hx)
    simp at this
    omega

/-- blocks from b on are as they were -/
structure Keep (b : Nat) (w w' : World) : Prop where
  size : w.heap.size ≤ w'.heap.size
  block : ∀ k, b ≤ k → k < w.heap.size → w'.heap[k]? = w.heap[k]?
theorem Keep.refl (b : Nat) (w : World) : Keep b w w := ⟨Nat.le_refl _, fun _ _ _ => rfl⟩
theorem Keep.trans {b : Nat} {w w1 w2 : World} (h : Keep b w w1) (k : Keep b w1 w2) : Keep b w w2 :=
  ⟨Nat.le_trans h.size k.size, fun i h1 h2 => (k.block i h1 (Nat.lt_of_lt_of_le h2 h.size)).trans (h.block i h1 h2)⟩
theorem Keep.of_below {b : Nat} {w w1 : World} (h : Below w.heap.size w w1) : Keep b w w1 := ⟨h.size, fun k _ hk => h.block k hk⟩
theorem own_keep {w w1 : World} {base : Nat} {v : Value} {l : List Nat} (h : OwnI w base v l) (hk : Keep base w w1) : OwnI w1 base v l := by
  refine ⟨h.1, ?_⟩
  rcases h.2 with h2 | ⟨g, cap, cur, h1, h2, h3, h4⟩
  · exact Or.inl h2
  · exact Or.inr ⟨g, cap, cur, h1, h2, (hk.block g h2 (Array.getElem?_eq_some_iff.1 h3).1).trans h3, h4⟩

/-- what lies below wB's size, where 'all' reads -/
structure AllB (D : PlanD) (L : Loc) (bn bp : Nat) (wB : World) : Prop where
  n : wB.cell? ⟨bn, 0, none⟩ = some (.int .i64 D.n)
  p0 : wB.cell? ⟨bp, 0, none⟩ = some (.slice (some ⟨L.bs, 0, none⟩) D.n L.cs)
  p1 : wB.cell? ⟨bp, 1, none⟩ = some (.slice (some ⟨L.bc, 0, none⟩) D.n L.cc)
  p2 : wB.cell? ⟨bp, 2, none⟩ = some (.slice L.A D.m L.cb)
  plan : PlanAt wB D L
def fvAll (B bn bp : Nat) : Value := .func (.func 4) #[] #[.pointer (some ⟨bn, 0, none⟩), .pointer (some ⟨B + 1, 0, none⟩), .pointer (some ⟨B, 0, none⟩), .pointer (some ⟨bp, 0, none⟩), .pointer (some ⟨B + 2, 0, none⟩)]
/-- the state of the search: the blocks B (best), B + 1 (least), B + 2 (the function itself) -/
structure AllW (bn bp : Nat) (wB w : World) (st : St) : Prop where
  bel : Below wB.heap.size wB w
  size : wB.heap.size + 3 ≤ w.heap.size
  cb : ∃ A c, w.heap[wB.heap.size]? = some (.cells #[.slice A st.2.length c] 24 (0, 0)) ∧ OwnI w (wB.heap.size + 3) (.slice A st.2.length c) st.2 ∧ (st.2.length = 0 → A = none)
  cl : w.heap[wB.heap.size + 1]? = some (.cells #[.int .i64 (st.1 : Nat)] 3 (0, 0))
  ca : w.heap[wB.heap.size + 2]? = some (.cells #[fvAll wB.heap.size bn bp] 34 (0, 0))
theorem AllW.ext {bn bp : Nat} {wB w w' : World} {st : St} (h : AllW bn bp wB w st) (hb : Below w.heap.size w w') : AllW bn bp wB w' st := by
  obtain ⟨A, c, h1, h2, h3⟩ := h.cb
  have hs := h.size
  exact ⟨h.bel.trans (hb.mono (by omega)), Nat.le_trans hs hb.size, ⟨A, c, (hb.block _ (by omega)).trans h1, h2.below hb, h3⟩, (hb.block _ (by omega)).trans h.cl, (hb.block _ (by omega)).trans h.ca⟩
theorem cell_of_blk {w : World} {b T : Nat} {v : Value} (h : w.heap[b]? = some (.cells #[v] T (0, 0))) : w.cell? ⟨b, 0, none⟩ = some v := by
  simp only [World.cell?, h]; rfl
theorem frozen_of_blk {w : World} {b T : Nat} {v : Value} (h : w.heap[b]? = some (.cells #[v] T (0, 0))) (o : Nat) : w.frozen? ⟨b, o, none⟩ = false := by
  simp [World.frozen?, h]
theorem blk_set {w : World} {b T : Nat} {v u : Value} (h : w.heap[b]? = some (.cells #[v] T (0, 0))) : (w.setCell ⟨b, 0, none⟩ u).heap[b]? = some (.cells #[u] T (0, 0)) := by
  simp [World.setCell, Array.getElem?_modify, h]
/-- best and least are stored -/
theorem AllW.store {bn bp : Nat} {wB w : World} {st : St} (h : AllW bn bp wB w st) {A : Option Addr} {c : Nat} {order : List Nat} {cost : Nat} (ho : OwnI w (wB.heap.size + 3) (.slice A order.length c) order) (h0 : 0 < order.length) :
    AllW bn bp wB ((w.setCell ⟨wB.heap.size, 0, none⟩ (.slice A order.length c)).setCell ⟨wB.heap.size + 1, 0, none⟩ (.int .i64 (cost : Nat))) (cost, order) ∧
      Keep (wB.heap.size + 3) w ((w.setCell ⟨wB.heap.size, 0, none⟩ (.slice A order.length c)).setCell ⟨wB.heap.size + 1, 0, none⟩ (.int .i64 (cost : Nat))) := by
  obtain ⟨A0, c0, h1, h2, h3⟩ := h.cb
  have hk : Keep (wB.heap.size + 3) w ((w.setCell ⟨wB.heap.size, 0, none⟩ (.slice A order.length c)).setCell ⟨wB.heap.size + 1, 0, none⟩ (.int .i64 (cost : Nat))) :=
    ⟨by simp [World.setCell], fun k hk _ => by
      rw [Below.heap_setCell _ _ _ _ (by simp; omega), Below.heap_setCell _ _ _ _ (by simp; omega)]⟩
  refine ⟨⟨(h.bel.setCell (by simp) _).setCell (by simp) _, by simpa [World.setCell] using h.size, ⟨A, c, ?_, own_keep ho hk, fun (e : order.length = 0) => absurd e (by omega)⟩, ?_, ?_⟩, hk⟩
  · rw [Below.heap_setCell _ _ _ _ (by simp)]
    exact blk_set h1
  · exact blk_set (by rw [Below.heap_setCell _ _ _ _ (by simp)]; exact h.cl)
  · rw [Below.heap_setCell _ _ _ _ (by simp), Below.heap_setCell _ _ _ _ (by simp)]
    exact h.ca
theorem AllW.drew {bn bp : Nat} {wB w : World} {st : St} (h : AllW bn bp wB w st) : AllW bn bp wB w.drew st :=
  ⟨h.bel.drew, h.size, h.cb, h.cl, h.ca⟩
theorem Keep.drew {b : Nat} {w w1 : World} (h : Keep b w w1) : Keep b w w1.drew := ⟨h.size, h.block⟩
theorem mayB_notin {D : PlanD} {order : List Nat} {j k : Nat} (h : mayK D order j k = true) : j ∉ order := fun hm => by
  rw [mayK_in D order j hm k] at h; cases h
end Go.Proofs.Ytfdjdhjiaacjfaa.W
