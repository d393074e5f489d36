/- What TopOrders has built is a plan, and the search starts on it. -/
import Derived.Test.YtfdjdhjiaacjfaaM8
import Derived.Laws.EntriesVeiled
import Derived.Lib.SliceRun
namespace Go.Proofs.Ytfdjdhjiaacjfaa.W
open Go Go.RowKit Go.Deep Go.Proofs.Ytfdjdhjiaacjfaa.Kx

def mkD (n : Nat) (Sf : Nat → Nat) (Cf : Nat → Nat → Nat) (l : List (Nat × Nat)) : PlanD :=
  { n, S := Sf, C := Cf, m := l.length, B0 := fun k => (l.getD k (0, 0)).1, B1 := fun k => (l.getD k (0, 0)).2 }
theorem mkD_ok (n : Nat) (Sf : Nat → Nat) (Cf : Nat → Nat → Nat) (l : List (Nat × Nat)) (h1 : 1 ≤ n) (h6 : n ≤ 6) (hS : ∀ x, Sf x ≤ 255) (hC : ∀ x j, j < 6 → Cf x j ≤ 255) (hl : l.length ≤ 8)
    (hp : ∀ p ∈ l, p.1 < n ∧ p.2 < n ∧ p.1 ≠ p.2) : (mkD n Sf Cf l).Ok := by
  have hg : ∀ k, k < l.length → l.getD k (0, 0) ∈ l := fun k hk => by
    rw [List.getD_eq_getElem?_getD, List.getElem?_eq_getElem hk]
    exact List.getElem_mem _
  exact ⟨h1, h6, fun i _ => hS i, fun i j _ hj => hC i j (Nat.lt_of_lt_of_le hj h6), hl, fun k hk => (hp _ (hg k hk)).1, fun k hk => (hp _ (hg k hk)).2.1, fun k hk => (hp _ (hg k hk)).2.2⟩

theorem prC_at (l : List (Nat × Nat)) : ∀ i, i < l.length * 2 → (prC l).getD i (.bool false) = .int .i64 ((if i % 2 = 0 then (l.getD (i / 2) (0, 0)).1 else (l.getD (i / 2) (0, 0)).2 : Nat) : Int) := by
  induction l with
  | nil => intro i hi; simp at hi
  | cons p l ih =>
    intro i hi
    have e : prC (p :: l) = .int .i64 (p.1 : Nat) :: .int .i64 (p.2 : Nat) :: prC l := by simp [prC]
    rw [e]
    match i with
    | 0 => simp
    | 1 => simp
    | i + 2 =>
      have h := ih i (by simp at hi; omega)
      have e1 : (i + 2) % 2 = i % 2 := by omega
      have e2 : (i + 2) / 2 = i / 2 + 1 := by omega
      rw [e1, e2]
      simpa using h
/-- an owned row, whatever its length -/
theorem own_form {w : World} {base : Nat} {e size : Nat} {v : Value} {n : Nat} {xs : List Value} (h : w.ownsRow base e size v n xs) :
    ∃ A c bb, v = .slice A n c ∧ (0 < n → A = some ⟨bb, 0, none⟩ ∧ Row w bb e (n * size) (fun i => xs.getD i (.bool false))) := by
  rcases Nat.eq_zero_or_pos n with h0 | h0
  · rcases h.2 with ⟨hv, h0'⟩ | ⟨g, cap, cur, hv, _⟩
    · exact ⟨none, 0, 0, by rw [h0]; exact hv, fun hn => by omega⟩
    · exact ⟨_, cap, g, hv, fun hn => by omega⟩
  · obtain ⟨g, cap, hv, _, hr⟩ := row_of_own h h0
    exact ⟨_, cap, g, hv, fun _ => ⟨rfl, hr⟩⟩
theorem own_row {w : World} {base c : Nat} {A : Option Addr} {l : List Nat} (h : OwnI w base (.slice A l.length c) l) (hl : 0 < l.length) :
    ∃ g, A = some ⟨g, 0, none⟩ ∧ Row w g 3 l.length (fun i => .int .i64 (l.getD i 0 : Nat)) := by
  obtain ⟨g, cap, hv, _, hr⟩ := row_of_own h hl
  simp only [Value.slice.injEq] at hv
  refine ⟨g, hv.1, ?_⟩
  rw [Nat.mul_one] at hr
  exact hr.congr (fun i hi => by simp [List.getD_eq_getElem?_getD, hi])

theorem own_rowN {w : World} {base c n : Nat} {A : Option Addr} {l : List Nat} (h : w.ownsRow base 3 1 (.slice A n c) n (l.map fun x => .int .i64 (x : Nat))) (hl : l.length = n) (hn : 1 ≤ n) :
    ∃ g, A = some ⟨g, 0, none⟩ ∧ Row w g 3 n (fun i => .int .i64 (l.getD i 0 : Nat)) := by
  subst hl
  exact own_row h hn
theorem plan_built {n : Nat} {Sf : Nat → Nat} {Cf : Nat → Nat → Nat} {w w2 wr : World} {bs cs bc cc : Nat} {R Rc : Nat → Nat} {vb : Value} {l : List (Nat × Nat)} (hn : 0 < n)
    (hP : PB n Sf Cf w w2 n n (.slice (some ⟨bs, 0, none⟩) n cs) (.slice (some ⟨bc, 0, none⟩) n cc) R Rc)
    (hQ : PC w w2 wr (.slice (some ⟨bs, 0, none⟩) n cs) (.slice (some ⟨bc, 0, none⟩) n cc) vb l) :
    ∃ L : Loc, L.args (mkD n Sf Cf l) = #[.slice (some ⟨bs, 0, none⟩) n cs, .slice (some ⟨bc, 0, none⟩) n cc, vb] ∧ AllB (mkD n Sf Cf l) L w.heap.size (w.heap.size + 1) wr := by
  obtain ⟨A, cb, bb, rfl, hA⟩ := own_form hQ.ob
  have hs := hP.size
  have hkeep : ∀ {b t n f}, w.heap.size + 2 ≤ b → Row w2 b t n f → Row wr b t n f := fun hb h => h.of_block (hQ.keep _ h.lt (by omega))
  obtain ⟨bs', cs', es, hbs, hrs⟩ := row_of_own hP.os hn
  obtain ⟨bc', cc', ec, hbc, hrc⟩ := row_of_own hP.oc hn
  simp only [Value.slice.injEq, Option.some.injEq, Addr.mk.injEq] at es ec
  obtain ⟨⟨rfl, _⟩, _⟩ := es
  obtain ⟨⟨rfl, _⟩, _⟩ := ec
  rw [Nat.mul_one] at hrs hrc
  have hcn := (hQ.keep w.heap.size (by omega) (by omega)).trans hP.cn
  refine ⟨⟨bs, cs, bc, cc, R, Rc, A, bb, cb⟩, rfl, cell_of_blk hcn, cell3_0 hQ.cp, cell3_1 hQ.cp, cell3_2 hQ.cp, ?_⟩
  refine ⟨(hkeep hbs hrs).congr (fun i hi => ?_), (hkeep hbc hrc).congr (fun i hi => ?_), fun i hi => hkeep (hP.rw i hi).1 (hP.rw i hi).2.1, fun hm => (hA hm).1, fun hm => ((hA hm).2).congr (fun i hi => (prC_at l i hi).trans (by split <;> rfl))⟩
  · have hi' : i < n := hi
    simp [List.getD_eq_getElem?_getD, hi', mkD]
  · have hi' : i < n := hi
    simp [List.getD_eq_getElem?_getD, hi', mkD]

/-- a load of the plan, and the plan, where the search has been -/
theorem AllB.p3 {D : PlanD} {L : Loc} {bn bp : Nat} {wB w3 : World} {v0 v1 v2 : Value} (h : AllB D L bn bp wB) (hL : L.args D = #[v0, v1, v2]) (hb : Below wB.heap.size wB w3) :
    w3.cell? ⟨bp, 0, none⟩ = some v0 ∧ w3.cell? ⟨bp, 1, none⟩ = some v1 ∧ w3.cell? ⟨bp, 2, none⟩ = some v2 ∧ PlanAt w3 D L := by
  have e := hL
  unfold Loc.args at e
  simp only [Array.mk.injEq, List.cons.injEq, and_true] at e
  obtain ⟨rfl, rfl, rfl⟩ := e
  exact ⟨cell_next h.p0 hb, cell_next h.p1 hb, cell_next h.p2 hb, h.plan.of_below hb⟩
/-- the search is called, its three blocks newly made -/
theorem all_start (D : PlanD) (L : Loc) (bn bp : Nat) (wr : World) (hD : D.Ok) (hB : AllB D L bn bp wr) :
    Calls Try.prog 4 #[.slice none 0 0, .int .i64 0, .pointer (some ⟨bn, 0, none⟩), .pointer (some ⟨wr.heap.size + 1, 0, none⟩), .pointer (some ⟨wr.heap.size, 0, none⟩), .pointer (some ⟨bp, 0, none⟩), .pointer (some ⟨wr.heap.size + 1 + 1, 0, none⟩)]
      (((wr.alloc (.cells #[.slice none 0 0] 24)).alloc (.cells #[.int .i64 1073741824] 3)).alloc
        (.cells #[.func (.func 4) #[] #[.pointer (some ⟨bn, 0, none⟩), .pointer (some ⟨wr.heap.size + 1, 0, none⟩), .pointer (some ⟨wr.heap.size, 0, none⟩), .pointer (some ⟨bp, 0, none⟩), .pointer (some ⟨wr.heap.size + 1 + 1, 0, none⟩)]] 34))
      fun e w' => e = .returned (.tuple #[]) ∧ AllW bn bp wr w' (allF D D.n [] 0 (1073741824, [])) := by
  have e : ((wr.alloc (.cells #[.slice none 0 0] 24)).alloc (.cells #[.int .i64 1073741824] 3)).heap.size = wr.heap.size + 1 + 1 := by simp
  have h := blk_alloc_new ((wr.alloc (.cells #[.slice none 0 0] 24)).alloc (.cells #[.int .i64 1073741824] 3)) (.cells #[fvAll wr.heap.size bn bp] 34)
  rw [e] at h
  have h0 : (((wr.alloc (.cells #[.slice none 0 0] 24)).alloc (.cells #[.int .i64 1073741824] 3)).alloc (.cells #[fvAll wr.heap.size bn bp] 34)).heap[wr.heap.size]? = some (.cells #[.slice none 0 0] 24 (0, 0)) := by
    rw [blk_alloc_lt _ _ _ (by rw [e]; omega), blk_alloc_lt _ _ _ (by simp)]
    exact blk_alloc_new _ _
  have h1 : (((wr.alloc (.cells #[.slice none 0 0] 24)).alloc (.cells #[.int .i64 1073741824] 3)).alloc (.cells #[fvAll wr.heap.size bn bp] 34)).heap[wr.heap.size + 1]? = some (.cells #[.int .i64 1073741824] 3 (0, 0)) := by
    rw [blk_alloc_lt _ _ _ (by rw [e]; omega)]
    have := blk_alloc_new (wr.alloc (.cells #[.slice none 0 0] 24)) (.cells #[.int .i64 1073741824] 3)
    simpa using this
  have hW : AllW bn bp wr (((wr.alloc (.cells #[.slice none 0 0] 24)).alloc (.cells #[.int .i64 1073741824] 3)).alloc (.cells #[fvAll wr.heap.size bn bp] 34)) (1073741824, []) :=
    ⟨(((Below.refl _ _).alloc (Nat.le_refl _) _).alloc (by simp) _).alloc (by rw [e]; omega) _, by simp, ⟨none, 0, h0, World.ownsRow_nil _ _ _ _, fun _ => rfl⟩, h1, h⟩
  exact (all_any D L bn bp wr hD hB D.n [] 0 (1073741824, []) _ none 0 (by simp) List.nodup_nil (by simp) (World.ownsRow_nil _ _ _ _) (fun _ => rfl) (by simp) hW).mono fun e w' h => ⟨h.1, h.2.1⟩
end Go.Proofs.Ytfdjdhjiaacjfaa.W
