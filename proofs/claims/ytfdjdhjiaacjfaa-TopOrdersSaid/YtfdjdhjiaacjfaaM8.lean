/- The plan that TopOrders builds, half built. -/
import Derived.Test.YtfdjdhjiaacjfaaM7
namespace Go.Proofs.Ytfdjdhjiaacjfaa.W
open Go Go.RowKit Go.Deep Go.Proofs.Ytfdjdhjiaacjfaa.Kx

/-- the plan half built: Start has its first i cells, Change its first k rows -/
structure PB (n : Nat) (Sf : Nat → Nat) (Cf : Nat → Nat → Nat) (w wr : World) (i k : Nat) (vs vc : Value) (R Rc : Nat → Nat) : Prop where
  bel : Below w.heap.size w wr
  size : w.heap.size + 2 ≤ wr.heap.size
  cn : wr.heap[w.heap.size]? = some (.cells #[.int .i64 (n : Nat)] 3 (0, 0))
  cp : wr.heap[w.heap.size + 1]? = some (.cells #[vs, vc, .slice none 0 0] 28 (0, 0))
  os : wr.ownsRow (w.heap.size + 2) 3 1 vs i ((List.range i).map fun x => .int .i64 (Sf x : Nat))
  oc : wr.ownsRow (w.heap.size + 2) 24 1 vc k ((List.range k).map fun x => .slice (some ⟨R x, 0, none⟩) n (Rc x))
  rw : ∀ x, x < k → w.heap.size + 2 ≤ R x ∧ Row wr (R x) 3 n (fun j => .int .i64 (Cf x j : Nat)) ∧ vs.ownBlock ≠ some (R x) ∧ vc.ownBlock ≠ some (R x)
  ne : ∀ g, vs.ownBlock = some g → vc.ownBlock ≠ some g
theorem PB.ext {n : Nat} {Sf : Nat → Nat} {Cf : Nat → Nat → Nat} {w wr w1 : World} {i k : Nat} {vs vc : Value} {R Rc : Nat → Nat} (h : PB n Sf Cf w wr i k vs vc R Rc) (hb : Below wr.heap.size wr w1) : PB n Sf Cf w w1 i k vs vc R Rc := by
  have hs := h.size
  have hg : wr.grownBy w1 none := ⟨hb.os, hb.tape, hb.output, hb.size, fun k hk _ => hb.block k hk⟩
  have h1 := h.oc
  have h2 := h.rw
  refine ⟨h.bel.trans (hb.mono (by omega)), Nat.le_trans hs hb.size, (hb.block _ (by omega)).trans h.cn, (hb.block _ (by omega)).trans h.cp, h.os.kept hg (by cases vs.ownBlock <;> simp),
    h1.kept hg (by cases vc.ownBlock <;> simp), fun x hx => ?_, h.ne⟩
  obtain ⟨a, b, c, d⟩ := h2 x hx
  exact ⟨a, b.below hb b.lt, c, d⟩
theorem kept_set {wr : World} {base : Nat} {e size : Nat} {v : Value} {n : Nat} {xs : List Value} (h : wr.ownsRow base e size v n xs) (b o : Nat) (hb : b < base) (u : Value) : (wr.setCell ⟨b, o, none⟩ u).ownsRow base e size v n xs := by
  refine ⟨h.1, ?_⟩
  rcases h.2 with h2 | ⟨g, cap, cur, h1, h2, h3, h4⟩
  · exact Or.inl h2
  · exact Or.inr ⟨g, cap, cur, h1, h2, by rw [Below.heap_setCell _ _ _ _ (by simp; omega)]; exact h3, h4⟩
theorem set3_0 {w : World} {b : Nat} {v0 v1 v2 u : Value} {T : TypeId} (h : w.heap[b]? = some (.cells #[v0, v1, v2] T (0, 0))) : (w.setCell ⟨b, 0, none⟩ u).heap[b]? = some (.cells #[u, v1, v2] T (0, 0)) := by
  simp [World.setCell, Array.getElem?_modify, h]
theorem set3_1 {w : World} {b : Nat} {v0 v1 v2 u : Value} {T : TypeId} (h : w.heap[b]? = some (.cells #[v0, v1, v2] T (0, 0))) : (w.setCell ⟨b, 1, none⟩ u).heap[b]? = some (.cells #[v0, u, v2] T (0, 0)) := by
  simp [World.setCell, Array.getElem?_modify, h]
theorem set3_2 {w : World} {b : Nat} {v0 v1 v2 u : Value} {T : TypeId} (h : w.heap[b]? = some (.cells #[v0, v1, v2] T (0, 0))) : (w.setCell ⟨b, 2, none⟩ u).heap[b]? = some (.cells #[v0, v1, u] T (0, 0)) := by
  simp [World.setCell, Array.getElem?_modify, h]
theorem cell3_0 {w : World} {b : Nat} {v0 v1 v2 : Value} {T : TypeId} (h : w.heap[b]? = some (.cells #[v0, v1, v2] T (0, 0))) : w.cell? ⟨b, 0, none⟩ = some v0 := by simp [World.cell?, h]
theorem cell3_1 {w : World} {b : Nat} {v0 v1 v2 : Value} {T : TypeId} (h : w.heap[b]? = some (.cells #[v0, v1, v2] T (0, 0))) : w.cell? ⟨b, 1, none⟩ = some v1 := by simp [World.cell?, h]
theorem cell3_2 {w : World} {b : Nat} {v0 v1 v2 : Value} {T : TypeId} (h : w.heap[b]? = some (.cells #[v0, v1, v2] T (0, 0))) : w.cell? ⟨b, 2, none⟩ = some v2 := by simp [World.cell?, h]
theorem frozen_of_blk3 {w : World} {b : Nat} {v0 v1 v2 : Value} {T : TypeId} (h : w.heap[b]? = some (.cells #[v0, v1, v2] T (0, 0))) (o : Nat) : w.frozen? ⟨b, o, none⟩ = false := by simp [World.frozen?, h]
theorem cell_al {w : World} {a : Addr} {v : Value} (h : w.cell? a = some v) (o : Obj) : (w.alloc o).cell? a = some v := by
  have hlt := World.block_lt_of_cell? w _ h
  rw [World.cell?_of_block (w := w) (blk_alloc_lt _ _ _ hlt)]
  exact h
theorem info24 : (Try.prog.info? 24).map (fun i => (i.zero, i.size, i.bytes)) = some (some (.slice none 0 0), 1, 24) := by kernel_rfl
theorem info33 : (Try.prog.info? 33).map (fun i => (i.zero, i.size, i.bytes)) = some (some (.agg #[.int .i64 0, .int .i64 0]), 2, 16) := by kernel_rfl
/-- the box of one struct of l: its six last cells -/
theorem box7 (w : World) (v0 : Value) (f : Nat → Nat) (T : TypeId) : Row (w.alloc (.cells #[v0, .int .u8 (f 0), .int .u8 (f 1), .int .u8 (f 2), .int .u8 (f 3), .int .u8 (f 4), .int .u8 (f 5)] T)) w.heap.size T 7 (fun q => if q = 0 then v0 else .int .u8 (f (q - 1))) := by
  refine ⟨_, blk_alloc_new _ _, by simp, fun i hi => ?_⟩
  have : i = 0 ∨ i = 1 ∨ i = 2 ∨ i = 3 ∨ i = 4 ∨ i = 5 ∨ i = 6 := by omega
  rcases this with rfl | rfl | rfl | rfl | rfl | rfl | rfl <;> rfl
theorem box7z (w : World) (f : Nat → Nat) (hf : ∀ j, f j = 0) (v0 : Value) (h0 : v0 = .int .u8 0) (T : TypeId) : Row (w.alloc (.cells #[.int .u8 0, .int .u8 0, .int .u8 0, .int .u8 0, .int .u8 0, .int .u8 0, .int .u8 0] T)) w.heap.size T 7 (fun q => if q = 0 then v0 else .int .u8 (f (q - 1))) := by
  have h := box7 w v0 f T
  simp only [hf, h0] at h ⊢
  exact h
theorem range_snoc (f : Nat → Value) (i : Nat) : (List.range i).map f ++ [f i] = (List.range (i + 1)).map f := by rw [List.range_succ]; simp
theorem PB.begin (n : Nat) (Sf : Nat → Nat) (Cf : Nat → Nat → Nat) (w : World) :
    PB n Sf Cf w ((w.alloc (.cells #[.int .i64 (n : Nat)] 3)).alloc (.cells #[.slice none 0 0, .slice none 0 0, .slice none 0 0] 28)) 0 0 (.slice none 0 0) (.slice none 0 0) (fun _ => 0) (fun _ => 0) := by
  refine ⟨((Below.refl _ _).alloc (Nat.le_refl _) _).alloc (by simp) _, by simp, ?_, ?_, World.ownsRow_nil _ _ _ _, World.ownsRow_nil _ _ _ _, fun x hx => by omega, fun g hg => by cases hg⟩
  · rw [blk_alloc_lt _ _ _ (by simp)]
    exact blk_alloc_new _ _
  · have := blk_alloc_new (w.alloc (.cells #[.int .i64 (n : Nat)] 3)) (.cells #[.slice none 0 0, .slice none 0 0, .slice none 0 0] 28)
    simpa using this
/-- Start has one cell more -/
theorem PB.start {n : Nat} {Sf : Nat → Nat} {Cf : Nat → Nat → Nat} {w W w1 : World} {i k : Nat} {vs vc v' : Value} {g cap : Nat} {R Rc : Nat → Nat} (h : PB n Sf Cf w W i k vs vc R Rc) (hv : v' = .slice (some ⟨g, 0, none⟩) (i + 1) cap)
    (hown : w1.ownsRow (w.heap.size + 2) 3 1 v' (i + 1) ((List.range (i + 1)).map fun x => .int .i64 (Sf x : Nat))) (hg : W.grownBy w1 vs.ownBlock) (hat : vs.ownBlock = some g ∨ W.heap.size ≤ g) :
    PB n Sf Cf w (w1.setCell ⟨w.heap.size + 1, 0, none⟩ v') (i + 1) k v' vc R Rc := by
  have hs := h.size
  have hlow : ∀ b, b < w.heap.size + 2 → w1.heap[b]? = W.heap[b]? := fun b hb => hg.block b (by omega) (fun e => by have := (h.os.lt b e.symm).1; omega)
  have hvg : v'.ownBlock = some g := by rw [hv]; rfl
  have h1 := h.oc
  have h2 := h.rw
  have hne := h.ne
  have hcl := h1.lt
  refine ⟨(h.bel.grown hg (by omega) (fun k hk => by have := (h.os.lt k hk).1; omega)).setCell (by simp) _, by have := hg.size; simp [World.setCell]; omega, ?_, set3_0 ((hlow _ (by omega)).trans h.cp), kept_set hown _ _ (by omega) _, kept_set (h1.kept hg ?_) _ _ (by omega) _, fun x hx => ?_, ?_⟩
  · rw [Below.heap_setCell _ _ _ _ (by simp)]
    exact (hlow _ (by omega)).trans h.cn
  · cases hc : vc.ownBlock with
    | none => exact Or.inl rfl
    | some y => exact Or.inr (fun e => hne y e.symm hc)
  · obtain ⟨a, b, c, d⟩ := h2 x hx
    refine ⟨a, (b.of_block (hg.block _ b.lt (fun e => c e.symm))).setOther (by simp; omega) _, ?_, d⟩
    rw [hvg]
    intro e
    have e' := Option.some.inj e
    subst e'
    rcases hat with hat | hat
    · exact c hat
    · have := b.lt
      omega
  · intro y hy hc
    rw [hvg] at hy
    have e' := Option.some.inj hy
    subst e'
    rcases hat with hat | hat
    · exact hne _ hat hc
    · have := (hcl _ hc).2
      omega
theorem PB.lowS {n : Nat} {Sf : Nat → Nat} {Cf : Nat → Nat → Nat} {w W w1 : World} {i k : Nat} {vs vc : Value} {R Rc : Nat → Nat} (h : PB n Sf Cf w W i k vs vc R Rc) (hg : W.grownBy w1 vs.ownBlock) :
    w1.cell? ⟨w.heap.size + 1, 0, none⟩ = some vs ∧ w1.frozen? ⟨w.heap.size + 1, 0, none⟩ = false ∧ w1.cell? ⟨w.heap.size, 0, none⟩ = some (.int .i64 (n : Nat)) := by
  have hs := h.size
  have hlow : ∀ b, b < w.heap.size + 2 → w1.heap[b]? = W.heap[b]? := fun b hb => hg.block b (by omega) (fun e => by have := (h.os.lt b e.symm).1; omega)
  have h1 := (hlow _ (by omega)).trans h.cp
  exact ⟨cell3_0 h1, frozen_of_blk3 h1 0, cell_of_blk ((hlow _ (by omega)).trans h.cn)⟩
theorem PB.lowC {n : Nat} {Sf : Nat → Nat} {Cf : Nat → Nat → Nat} {w W w1 : World} {i k : Nat} {vs vc : Value} {R Rc : Nat → Nat} (h : PB n Sf Cf w W i k vs vc R Rc) (hg : W.grownBy w1 vc.ownBlock) :
    w1.cell? ⟨w.heap.size + 1, 1, none⟩ = some vc ∧ w1.frozen? ⟨w.heap.size + 1, 1, none⟩ = false ∧ w1.cell? ⟨w.heap.size, 0, none⟩ = some (.int .i64 (n : Nat)) := by
  have hs := h.size
  have hlow : ∀ b, b < w.heap.size + 2 → w1.heap[b]? = W.heap[b]? := fun b hb => hg.block b (by omega) (fun e => by have := (h.oc.lt b e.symm).1; omega)
  have h1 := (hlow _ (by omega)).trans h.cp
  exact ⟨cell3_1 h1, frozen_of_blk3 h1 1, cell_of_blk ((hlow _ (by omega)).trans h.cn)⟩
/-- Change has one row more -/
theorem PB.change {n : Nat} {Sf : Nat → Nat} {Cf : Nat → Nat → Nat} {w W w1 : World} {i k : Nat} {vs vc v' : Value} {g cap : Nat} {R Rc : Nat → Nat} (h : PB n Sf Cf w W i k vs vc R Rc) (hv : v' = .slice (some ⟨g, 0, none⟩) (k + 1) cap)
    (r rc : Nat) (hr : Row W r 3 n (fun j => .int .i64 (Cf k j : Nat))) (hr0 : w.heap.size + 2 ≤ r) (hr1 : vs.ownBlock ≠ some r) (hr2 : vc.ownBlock ≠ some r)
    (hown : w1.ownsRow (w.heap.size + 2) 24 1 v' (k + 1) (((List.range k).map fun x => .slice (some ⟨R x, 0, none⟩) n (Rc x)) ++ [.slice (some ⟨r, 0, none⟩) n rc])) (hg : W.grownBy w1 vc.ownBlock) (hat : vc.ownBlock = some g ∨ W.heap.size ≤ g) :
    PB n Sf Cf w (w1.setCell ⟨w.heap.size + 1, 1, none⟩ v') i (k + 1) vs v' (fun x => if x = k then r else R x) (fun x => if x = k then rc else Rc x) := by
  have hs := h.size
  have hlow : ∀ b, b < w.heap.size + 2 → w1.heap[b]? = W.heap[b]? := fun b hb => hg.block b (by omega) (fun e => by have := (h.oc.lt b e.symm).1; omega)
  have hvg : v'.ownBlock = some g := by rw [hv]; rfl
  have h1 := h.oc
  have h2 := h.rw
  have hne := h.ne
  have hsl := h.os.lt
  have hxs : (((List.range k).map fun x => Value.slice (some ⟨R x, 0, none⟩) n (Rc x)) ++ [.slice (some ⟨r, 0, none⟩) n rc]) =
      ((List.range (k + 1)).map fun x => Value.slice (some ⟨if x = k then r else R x, 0, none⟩) n (if x = k then rc else Rc x)) := by
    rw [List.range_succ, List.map_append]
    simp only [List.map_cons, List.map_nil, if_true]
    congr 1
    apply List.map_congr_left
    intro x hx
    have : x ≠ k := by have := List.mem_range.1 hx; omega
    rw [if_neg this, if_neg this]
  rw [hxs] at hown
  refine ⟨(h.bel.grown hg (by omega) (fun k hk => by have := (h1.lt k hk).1; omega)).setCell (by simp) _, by have := hg.size; simp [World.setCell]; omega, ?_, set3_1 ((hlow _ (by omega)).trans h.cp), kept_set (h.os.kept hg ?_) _ _ (by omega) _, kept_set hown _ _ (by omega) _, fun x hx => ?_, ?_⟩
  · rw [Below.heap_setCell _ _ _ _ (by simp)]
    exact (hlow _ (by omega)).trans h.cn
  · cases hc : vs.ownBlock with
    | none => exact Or.inl rfl
    | some y => exact Or.inr (fun e => hne y hc e.symm)
  · by_cases hxk : x = k
    · subst hxk
      simp only [if_true]
      refine ⟨hr0, (hr.of_block (hg.block _ hr.lt (fun e => hr2 e.symm))).setOther (by simp; omega) _, hr1, ?_⟩
      rw [hvg]
      intro e
      have e' := Option.some.inj e
      subst e'
      rcases hat with hat | hat
      · exact hr2 hat
      · have := hr.lt
        omega
    · simp only [if_neg hxk]
      obtain ⟨a, b, c, d⟩ := h2 x (by omega)
      refine ⟨a, (b.of_block (hg.block _ b.lt (fun e => d e.symm))).setOther (by simp; omega) _, c, ?_⟩
      rw [hvg]
      intro e
      have e' := Option.some.inj e
      subst e'
      rcases hat with hat | hat
      · exact d hat
      · have := b.lt
        omega
  · intro y hy hc
    rw [hvg] at hc
    have e' := Option.some.inj hc
    subst e'
    rcases hat with hat | hat
    · exact hne _ hy hat
    · have := (hsl _ hy).2
      omega
/-- the pairs that are kept, of the first k -/
def prK (n : Nat) (bf : Nat → Nat → Nat) : Nat → List (Nat × Nat)
  | 0 => []
  | k + 1 => if bf k 0 % n = bf k 1 % n then prK n bf k else prK n bf k ++ [(bf k 0 % n, bf k 1 % n)]
theorem prK_len (n : Nat) (bf : Nat → Nat → Nat) : ∀ k, (prK n bf k).length ≤ k := by
  intro k
  induction k with
  | zero => exact Nat.le_refl _
  | succ k ih =>
    rw [prK]
    split
    · omega
    · simp; omega
theorem prK_mem (n : Nat) (bf : Nat → Nat → Nat) (hn : 0 < n) : ∀ k, ∀ p ∈ prK n bf k, p.1 < n ∧ p.2 < n ∧ p.1 ≠ p.2 := by
  intro k
  induction k with
  | zero => intro p hp; cases hp
  | succ k ih =>
    intro p hp
    rw [prK] at hp
    split at hp
    · exact ih p hp
    · rename_i hne
      rcases List.mem_append.1 hp with hp | hp
      · exact ih p hp
      · rw [List.mem_singleton] at hp
        subst hp
        exact ⟨Nat.mod_lt _ hn, Nat.mod_lt _ hn, hne⟩
def prC (l : List (Nat × Nat)) : List Value := l.flatMap fun p => [.int .i64 (p.1 : Nat), .int .i64 (p.2 : Nat)]
/-- Before grows, all else that was built stays -/
structure PC (w w2 wr : World) (vs vc vb : Value) (l : List (Nat × Nat)) : Prop where
  bel : Below w.heap.size w wr
  keep : ∀ b, b < w2.heap.size → b ≠ w.heap.size + 1 → wr.heap[b]? = w2.heap[b]?
  size : w2.heap.size ≤ wr.heap.size
  cp : wr.heap[w.heap.size + 1]? = some (.cells #[vs, vc, vb] 28 (0, 0))
  ob : wr.ownsRow w2.heap.size 33 2 vb l.length (prC l)
theorem PC.ext {w w2 wr w1 : World} {vs vc vb : Value} {l : List (Nat × Nat)} (hs : w.heap.size + 2 ≤ w2.heap.size) (h : PC w w2 wr vs vc vb l) (hb : Below wr.heap.size wr w1) : PC w w2 w1 vs vc vb l := by
  have h2 := h.size
  refine ⟨h.bel.trans (hb.mono (by omega)), fun b h1 hne => (hb.block b (by omega)).trans (h.keep b h1 hne), Nat.le_trans h2 hb.size, (hb.block _ (by omega)).trans h.cp, ?_⟩
  exact h.ob.kept (row := none) ⟨hb.os, hb.tape, hb.output, hb.size, fun k hk _ => hb.block k hk⟩ (by cases vb.ownBlock <;> simp)
theorem PC.drew {w w2 wr : World} {vs vc vb : Value} {l : List (Nat × Nat)} (h : PC w w2 wr vs vc vb l) : PC w w2 wr.drew vs vc vb l := ⟨h.bel.drew, h.keep, h.size, h.cp, h.ob⟩
theorem PC.low {w w2 W w1 : World} {vs vc vb : Value} {l : List (Nat × Nat)} (hs : w.heap.size + 2 ≤ w2.heap.size) (h : PC w w2 W vs vc vb l) (hg : W.grownBy w1 vb.ownBlock) :
    w1.cell? ⟨w.heap.size + 1, 2, none⟩ = some vb ∧ w1.frozen? ⟨w.heap.size + 1, 2, none⟩ = false := by
  have h2 := h.size
  have h1 := (hg.block (w.heap.size + 1) (by omega) (fun e => by have := (h.ob.lt _ e.symm).1; omega)).trans h.cp
  exact ⟨cell3_2 h1, frozen_of_blk3 h1 2⟩
theorem PC.push {w w2 W w1 : World} {vs vc vb v' : Value} {l : List (Nat × Nat)} {p : Nat × Nat} (hs : w.heap.size + 2 ≤ w2.heap.size) (h : PC w w2 W vs vc vb l)
    (hown : w1.ownsRow w2.heap.size 33 2 v' (l.length + 1) (prC l ++ [.int .i64 (p.1 : Nat), .int .i64 (p.2 : Nat)])) (hg : W.grownBy w1 vb.ownBlock) :
    PC w w2 (w1.setCell ⟨w.heap.size + 1, 2, none⟩ v') vs vc v' (l ++ [p]) := by
  have h2 := h.size
  have hlt := h.ob.lt
  have hl : ∀ b, b < w2.heap.size → w1.heap[b]? = W.heap[b]? := fun b hb => hg.block b (by omega) (fun e => by have := (hlt _ e.symm).1; omega)
  refine ⟨(h.bel.grown hg (by omega) (fun k hk => by have := (hlt k hk).1; omega)).setCell (by simp) _, fun b h1 hne => ?_, by have := hg.size; simp [World.setCell]; omega, set3_2 ((hl _ (by omega)).trans h.cp), ?_⟩
  · rw [Below.heap_setCell _ _ _ _ (by simpa using hne)]
    exact (hl b h1).trans (h.keep b h1 hne)
  · have e : prC (l ++ [p]) = prC l ++ [.int .i64 (p.1 : Nat), .int .i64 (p.2 : Nat)] := by simp [prC]
    rw [e, List.length_append]
    exact kept_set hown _ _ (by omega) _
end Go.Proofs.Ytfdjdhjiaacjfaa.W
