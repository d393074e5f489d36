/- General lemmas on worlds, int bit operations and drawn worlds, for the walks of this seat. No program is in sight. -/
import Derived.WalkKit
import Derived.KernelRfl
import Derived.Lib.Hide
import Derived.BigQuiet
import Derived.Deep.QuietTactic
import Derived.Deep.LoopGhost
import Derived.Deep.OwnRows
import Derived.Deep.RegionHeld3
import Derived.Deep.AppendLies
namespace Go.Proofs.Ytfdjdhjiaacjfaa.Kx
open Go Go.RowKit Go.Deep

theorem ofInt_i64 (a : Nat) (ha : a < 9223372036854775808) : (BitVec.ofInt 64 (a : Int)).toNat = a := by
  rw [BitVec.ofInt_natCast, BitVec.toNat_ofNat]; exact Nat.mod_eq_of_lt (by omega)
theorem i64_and_nat (a b : Nat) (ha : a < 9223372036854775808) (hb : b < 9223372036854775808) : bits .and .i64 (a : Int) (b : Int) = ((a &&& b : Nat) : Int) := by
  have hx : a &&& b < 2 ^ 63 := Nat.and_lt_two_pow _ (by omega)
  show IntKind.i64.wrap ((BitVec.ofInt 64 (a : Int) &&& BitVec.ofInt 64 (b : Int)).toNat : Int) = _
  rw [BitVec.toNat_and, ofInt_i64 a ha, ofInt_i64 b hb, IntKind.wrap_i64]
  omega
theorem i64_or_nat (a b : Nat) (ha : a < 9223372036854775808) (hb : b < 9223372036854775808) : bits .or .i64 (a : Int) (b : Int) = ((a ||| b : Nat) : Int) := by
  have hx : a ||| b < 2 ^ 63 := Nat.or_lt_two_pow (by omega) (by omega)
  show IntKind.i64.wrap ((BitVec.ofInt 64 (a : Int) ||| BitVec.ofInt 64 (b : Int)).toNat : Int) = _
  rw [BitVec.toNat_or, ofInt_i64 a ha, ofInt_i64 b hb, IntKind.wrap_i64]
  omega
theorem i64_xor_nat (a b : Nat) (ha : a < 9223372036854775808) (hb : b < 9223372036854775808) : bits .xor .i64 (a : Int) (b : Int) = ((a ^^^ b : Nat) : Int) := by
  have hx : a ^^^ b < 2 ^ 63 := Nat.xor_lt_two_pow (by omega) (by omega)
  show IntKind.i64.wrap ((BitVec.ofInt 64 (a : Int) ^^^ BitVec.ofInt 64 (b : Int)).toNat : Int) = _
  rw [BitVec.toNat_xor, ofInt_i64 a ha, ofInt_i64 b hb, IntKind.wrap_i64]
  omega
theorem i64_andNot_nat (a b : Nat) (ha : a < 9223372036854775808) (hb : b < 9223372036854775808) : bits .andNot .i64 (a : Int) (b : Int) = ((a &&& (18446744073709551615 - b) : Nat) : Int) := by
  have hx : a &&& (18446744073709551615 - b) < 2 ^ 63 := Nat.lt_of_le_of_lt Nat.and_le_left (by omega)
  show IntKind.i64.wrap ((BitVec.ofInt 64 (a : Int) &&& ~~~BitVec.ofInt 64 (b : Int)).toNat : Int) = _
  rw [BitVec.toNat_and, BitVec.toNat_not, ofInt_i64 a ha, ofInt_i64 b hb, IntKind.wrap_i64]
  have e : 2 ^ 64 - 1 - b = 18446744073709551615 - b := by omega
  rw [e]
  omega

theorem min64 {j : Nat} (h : j < 64) : min (j : Int).toNat 64 = j := by omega
/-- 's >> j & 1' on an int -/
theorem shr_and_one (s j : Nat) (hs : s < 9223372036854775808) (hj : j < 64) :
    bits .and .i64 ((s : Int) / 2 ^ min (j : Int).toNat 64) 1 = if s.testBit j then 1 else 0 := by
  have h1 : (s : Int) / 2 ^ min (j : Int).toNat 64 = ((s / 2 ^ j : Nat) : Int) := by rw [min64 hj]; simp
  have hle : s / 2 ^ j ≤ s := Nat.div_le_self _ _
  rw [h1, show (1 : Int) = ((1 : Nat) : Int) from rfl, i64_and_nat _ _ (by omega) (by omega), Nat.testBit_eq_decide_div_mod_eq]
  rw [Nat.and_one_is_mod]
  have : s / 2 ^ j % 2 = 0 ∨ s / 2 ^ j % 2 = 1 := by omega
  rcases this with h | h <;> simp [h]
theorem andNot_zero (a s : Nat) (ha : a < 9223372036854775808) (hs : s < 9223372036854775808) :
    (bits .andNot .i64 (a : Int) (s : Int) = 0) ↔ a &&& s = a := by
  rw [i64_andNot_nat a s ha hs]
  have : ((a &&& (18446744073709551615 - s) : Nat) : Int) = 0 ↔ a &&& (18446744073709551615 - s) = 0 := by omega
  rw [this]
  have hc : ∀ i, i < 64 → (18446744073709551615 - s).testBit i = !s.testBit i := by
    intro i hi
    have e : 18446744073709551615 - s = 2 ^ 64 - (s + 1) := by omega
    rw [e, Nat.testBit_two_pow_sub_succ (by omega)]
    simp [hi]
  have hbig : ∀ i, 64 ≤ i → a.testBit i = false := fun i hi => Nat.testBit_lt_two_pow (Nat.lt_of_lt_of_le (show a < 2 ^ 64 by omega) (Nat.pow_le_pow_right (by omega) hi))
  constructor
  · intro h
    apply Nat.eq_of_testBit_eq
    intro i
    have h' := congrArg (fun x => x.testBit i) h
    simp only [Nat.testBit_and, Nat.zero_testBit] at h'
    rw [Nat.testBit_and]
    rcases Nat.lt_or_ge i 64 with hi | hi
    · rw [hc i hi] at h'
      cases ha' : a.testBit i <;> cases hs' : s.testBit i <;> simp_all
    · simp [hbig i hi]
  · intro h
    apply Nat.eq_of_testBit_eq
    intro i
    have h' := congrArg (fun x => x.testBit i) h
    simp only [Nat.testBit_and] at h'
    rw [Nat.testBit_and, Nat.zero_testBit]
    rcases Nat.lt_or_ge i 64 with hi | hi
    · rw [hc i hi]
      cases ha' : a.testBit i <;> cases hs' : s.testBit i <;> simp_all
    · simp [hbig i hi]
theorem wrap_pow (j : Nat) (hj : j < 63) : wrap64 (2 ^ j) = ((2 ^ j : Nat) : Int) := by
  have h : 2 ^ j < 2 ^ 63 := Nat.pow_lt_pow_right (by omega) hj
  have e : ((2 : Int) ^ j) = ((2 ^ j : Nat) : Int) := by simp
  rw [e]
  generalize 2 ^ j = x at *
  unfold wrap64
  omega
theorem wrap_pow_sub (j : Nat) (hj : j < 63) : wrap64 (2 ^ j - 1) = ((2 ^ j - 1 : Nat) : Int) := by
  have h : 2 ^ j < 2 ^ 63 := Nat.pow_lt_pow_right (by omega) hj
  have h0 : 0 < 2 ^ j := Nat.two_pow_pos j
  have e : ((2 : Int) ^ j) = ((2 ^ j : Nat) : Int) := by simp
  rw [e]
  generalize 2 ^ j = x at *
  unfold wrap64
  omega
theorem nat_bne (a b : Nat) : ((a : Int) != (b : Int)) = (a != b) := by
  rw [bne, bne, Bool.eq_iff_iff]
  simp
  omega
theorem wrap_wrap_pow_sub (j : Nat) (hj : j < 63) : wrap64 (wrap64 (2 ^ j) - 1) = ((2 ^ j - 1 : Nat) : Int) := by
  rw [wrap_pow j hj]
  have h : 2 ^ j < 2 ^ 63 := Nat.pow_lt_pow_right (by omega) hj
  have h0 : 0 < 2 ^ j := Nat.two_pow_pos j
  generalize 2 ^ j = x at *
  unfold wrap64
  omega
theorem nat_beq (a b : Nat) : ((a : Int) == (b : Int)) = (a == b) := by
  rw [Bool.eq_iff_iff, beq_iff_eq, beq_iff_eq]
  omega
theorem or_pow (a j : Nat) (ha : a < 9223372036854775808) (hj : j < 63) : bits .or .i64 (a : Int) (wrap64 (2 ^ j)) = ((a ||| 2 ^ j : Nat) : Int) := by
  rw [wrap_pow j hj]
  exact i64_or_nat _ _ ha (Nat.pow_lt_pow_right (n := 63) (by omega) hj)
/-- block b holds at least n cells of type t, none frozen; cell i is f i -/
def Row (w : World) (b : Nat) (t : TypeId) (n : Nat) (f : Nat → Value) : Prop :=
  ∃ c : Array Value, w.heap[b]? = some (.cells c t (0, 0)) ∧ n ≤ c.size ∧ ∀ i, i < n → c[i]? = some (f i)
namespace Row
variable {w w' : World} {b : Nat} {t : TypeId} {n : Nat} {f g : Nat → Value}
theorem cell (h : Row w b t n f) {i : Nat} (hi : i < n) : w.cell? ⟨b, i, none⟩ = some (f i) := by
  obtain ⟨c, hb, _, hc⟩ := h
  simp [World.cell?, hb, hc i hi]
theorem frozen (h : Row w b t n f) (i : Nat) : w.frozen? ⟨b, i, none⟩ = false := by
  obtain ⟨c, hb, _, _⟩ := h
  simp [World.frozen?, hb]
theorem lt (h : Row w b t n f) : b < w.heap.size := by
  obtain ⟨c, hb, _, _⟩ := h
  obtain ⟨hlt, _⟩ := Array.getElem?_eq_some_iff.1 hb
  exact hlt
theorem congr (h : Row w b t n f) (e : ∀ i, i < n → f i = g i) : Row w b t n g := by
  obtain ⟨c, hb, hn, hc⟩ := h
  exact ⟨c, hb, hn, fun i hi => by rw [hc i hi, e i hi]⟩
theorem of_block (h : Row w b t n f) (e : w'.heap[b]? = w.heap[b]?) : Row w' b t n f := by
  obtain ⟨c, hb, hn, hc⟩ := h
  exact ⟨c, e.trans hb, hn, hc⟩
theorem set (h : Row w b t n f) (i : Nat) (v : Value) : Row (w.setCell ⟨b, i, none⟩ v) b t n (fun j => if j = i then v else f j) := by
  obtain ⟨c, hb, hn, hc⟩ := h
  refine ⟨c.setIfInBounds i v, ?_, by simpa using hn, fun j hj => ?_⟩
  · simp [World.setCell, Array.getElem?_modify, hb]
  · rw [Array.getElem?_setIfInBounds]
    by_cases e : j = i
    · subst e
      have : j < c.size := by omega
      simp [this]
    · rw [if_neg (fun h => e h.symm)]
      show c[j]? = some (if j = i then v else f j)
      rw [if_neg e]
      exact hc j hj
theorem setOther (h : Row w b t n f) {a : Addr} (ha : b ≠ a.block) (v : Value) : Row (w.setCell a v) b t n f := h.of_block (blk_setCell_other _ _ _ _ ha)
theorem alloc (h : Row w b t n f) (o : Obj) : Row (w.alloc o) b t n f := h.of_block (blk_alloc_lt _ _ _ h.lt)
theorem drew (h : Row w b t n f) : Row w.drew b t n f := h
theorem drewN (h : Row w b t n f) (k : Nat) : Row (w.drewN k) b t n f := h
theorem below {B : Nat} (h : Row w b t n f) (hb : Below B w w') (hB : b < B) : Row w' b t n f := h.of_block (hb.block b hB)
theorem made (w : World) (z : Value) (n : Nat) (t : TypeId) : Row (w.alloc (.cells (madeCells #[z] n) t)) w.heap.size t n (fun _ => z) :=
  ⟨_, blk_alloc_new _ _, by rw [size_madeCells]; exact Nat.le_refl _, fun i hi => by simp [madeCells, hi, Nat.mod_one]⟩
theorem made_at (w : World) {g : Nat} (hg : g = w.heap.size) (z : Value) (n : Nat) (t : TypeId) : Row (w.alloc (.cells (madeCells #[z] n) t)) g t n (fun _ => z) := by
  subst hg
  exact made w z n t
theorem grown {G : Nat} (h : Row w b t n f) (hg : w.grownBy w' (some G)) (hne : b ≠ G) : Row w' b t n f := h.of_block (hg.block b h.lt (by simpa using hne))
end Row
theorem bcell {W w1 : World} (hb : Below W.heap.size W w1) : (∀ b o, b < W.heap.size → w1.cell? ⟨b, o, none⟩ = W.cell? ⟨b, o, none⟩) ∧ (∀ b o, b < W.heap.size → w1.frozen? ⟨b, o, none⟩ = W.frozen? ⟨b, o, none⟩) :=
  ⟨fun b o h => hb.cell (p := ⟨b, o, none⟩) h, fun b o h => hb.frozen (p := ⟨b, o, none⟩) h⟩
theorem below_of {w W w1 : World} (h : Below w.heap.size w W) (hb : Below W.heap.size W w1) : Below w.heap.size w w1 := h.trans (hb.mono h.size)
theorem box3_below {w w1 : World} {v0 v1 v2 : Value} {T : TypeId} (hb : Below (w.alloc (.cells #[v0, v1, v2] T)).heap.size (w.alloc (.cells #[v0, v1, v2] T)) w1) :
    w1.cell? ⟨w.heap.size, 0, none⟩ = some v0 ∧ w1.cell? ⟨w.heap.size, 1, none⟩ = some v1 ∧ w1.cell? ⟨w.heap.size, 2, none⟩ = some v2 := by
  have h := blk_alloc_new w (.cells #[v0, v1, v2] T)
  have h1 : w1.heap[w.heap.size]? = some (.cells #[v0, v1, v2] T) := (hb.block _ (by simp)).trans h
  simp [World.cell?, h1]
theorem box3_drew {w w1 : World} {v0 v1 v2 : Value} {T : TypeId} (hb : Below (w.alloc (.cells #[v0, v1, v2] T)).drew.heap.size (w.alloc (.cells #[v0, v1, v2] T)).drew w1) :
    w1.cell? ⟨w.heap.size, 0, none⟩ = some v0 ∧ w1.cell? ⟨w.heap.size, 1, none⟩ = some v1 ∧ w1.cell? ⟨w.heap.size, 2, none⟩ = some v2 :=
  box3_below ⟨hb.os, hb.tape, hb.output, hb.size, hb.block⟩
theorem below_drew_of {w W w1 : World} (h : Below w.heap.size w W) (hb : Below W.drew.heap.size W.drew w1) : Below w.heap.size w w1 := below_of h ⟨hb.os, hb.tape, hb.output, hb.size, hb.block⟩
theorem mul_pow_lt {n k N : Nat} (hk : k < N) (hn : k < n) : n * 2 ^ k + k < n * 2 ^ N := by
  have h1 : 2 ^ (k + 1) ≤ 2 ^ N := Nat.pow_le_pow_right (by omega) hk
  have h2 : n * 2 ^ (k + 1) ≤ n * 2 ^ N := Nat.mul_le_mul_left _ h1
  have h3 : n * 2 ^ (k + 1) = n * 2 ^ k + n * 2 ^ k := by rw [Nat.pow_succ, ← Nat.mul_assoc]; omega
  have h4 : n * 1 ≤ n * 2 ^ k := Nat.mul_le_mul_left _ (Nat.two_pow_pos k)
  omega
theorem wrap_mul_pow {n k M : Nat} (h : M = n * 2 ^ k) (hb : M < 9223372036854775808) : wrap64 ((n : Int) * 2 ^ k) = (M : Int) := by
  have e : ((n : Int) * 2 ^ k) = (M : Int) := by rw [h]; simp
  rw [e]
  unfold wrap64
  omega
theorem min_ite (a b : Int) : min a b = if b < a then b else a := by
  rw [Int.min_def]
  split <;> split <;> omega
theorem grown_set {w w' : World} {G : Nat} (h : w.grownBy w' (some G)) (i : Nat) (v : Value) : w.grownBy (w'.setCell ⟨G, i, none⟩ v) (some G) :=
  ⟨h.os, h.tape, h.output, by simpa [World.setCell] using h.size, fun k hk hne => by
    rw [Below.heap_setCell _ _ _ _ (by simpa using hne)]
    exact h.block k hk hne⟩
theorem grown_drew {w w' : World} {r : Option Nat} (h : w.grownBy w' r) : w.grownBy w'.drew r := ⟨h.os, h.tape, h.output, h.size, h.block⟩
theorem grown_drewN {w w' : World} {r : Option Nat} (h : w.grownBy w' r) (n : Nat) : w.grownBy (w'.drewN n) r := ⟨h.os, h.tape, h.output, h.size, h.block⟩
theorem grown_cell {w w' : World} {G : Nat} (h : w.grownBy w' (some G)) {b o : Nat} {v : Value} (hc : w.cell? ⟨b, o, none⟩ = some v) (hne : b ≠ G) : w'.cell? ⟨b, o, none⟩ = some v :=
  h.cell hc (by simpa using hne)
theorem cell_alloc_one (w : World) (v : Value) (T : TypeId) : (w.alloc (.cells #[v] T)).cell? ⟨w.heap.size, 0, none⟩ = some v := by
  have h := blk_alloc_new w (.cells #[v] T)
  simp only [World.cell?, h]
  rfl
/-- 'append(v, y)', y of one cell, behind the variadic's box; v a row of the call's own -/
theorem append1 {P : Program} {ops : Array Oper} {rest : List Oper} {o : Oper} {a : Act} {Q : Exit → Act → World → Prop} {W : World} (base : Nat) (hgd : o.guard = none) (s x : Operand) (t e : TypeId) (z : Value) (bytes : Nat)
    (ho : o.op = .call { callee := .builtin .append, args := #[s, x], argTypes := #[t, t] })
    (ht : P.underlying t = some (.slice e)) (hinfo : (P.info? e).map (fun i => (i.zero, i.size, i.bytes)) = some (some z, 1, bytes)) (hz : z.cells.size = 1) (hb0 : 0 < bytes)
    (v : Value) (n : Nat) (xs : List Value) (y : Value) (hs : a.eval s = v) (hx : a.eval x = .slice (some ⟨W.heap.size, 0, none⟩) 1 1) (h1 : y.oneCell' = true)
    (HO : W.ownsRow base e 1 v n xs) (hbase : base ≤ W.heap.size) (hl : (n + 1) * bytes ≤ 140737488355328)
    (h : ∀ A c w1, w1.ownsRow base e 1 (.slice A (n + 1) c) (n + 1) (xs ++ [y]) → Below base W w1 → wpList P ops Q rest (a.put o.dst (.slice A (n + 1) c)) w1) :
    wpList P ops Q (o :: rest) a (W.alloc (.cells #[y] e)) := by
  obtain ⟨i0, hi, hzz⟩ := Option.map_eq_some_iff.1 hinfo
  simp only [Prod.mk.injEq] at hzz
  obtain ⟨hz0, hz1, hz2⟩ := hzz
  have hlen : n + 1 ≤ 140737488355328 := Nat.le_trans (Nat.le_mul_of_pos_right _ hb0) hl
  refine wpList_append_own_at (W.alloc (.cells #[y] e)) hgd s x t ho base e i0 z 1 bytes ht hi hz0 hz1 hz2 hz (by omega) v n xs hs (HO.alloc _) ⟨W.heap.size, 0, none⟩ 1 1 [y] hx rfl
    (World.news_of_block (cs := #[y]) (t := e) (fr := (0, 0)) (blk_alloc_new W _)) (by simpa using h1) (by simp only [maxLen]; omega) hl (by simp; omega) ?_
  intro v1 w1 hown hg _ _
  obtain ⟨g, c, rfl, _, _⟩ := hown.form (by omega)
  exact h _ c w1 hown (((Below.refl base W).alloc hbase _).grown hg (by simp; omega) (fun k hk => (HO.lt k hk).1))
theorem cell_next {w w1 : World} {b o : Nat} {v : Value} (hc : w.cell? ⟨b, o, none⟩ = some v) (hb : Below w.heap.size w w1) : w1.cell? ⟨b, o, none⟩ = some v :=
  (hb.cell (World.block_lt_of_cell? w _ hc)).trans hc
theorem cell_next_drew {w w1 : World} {b o : Nat} {v : Value} (hc : w.cell? ⟨b, o, none⟩ = some v) (hb : Below w.drew.heap.size w.drew w1) : w1.cell? ⟨b, o, none⟩ = some v :=
  cell_next (w := w.drew) hc hb
theorem below_next {w W w1 : World} (h : Below w.heap.size w W) (hb : Below W.heap.size W w1) : Below w.heap.size w w1 := below_of h hb
theorem below_base {B : Nat} {w w1 w2 : World} (h : Below B w w1) (hs : B ≤ w1.heap.size) (h2 : Below w1.heap.size w1 w2) : Below B w w2 := h.trans (h2.mono hs)
/-- an owned row of ints, as a list -/
def OwnI (w : World) (base : Nat) (v : Value) (l : List Nat) : Prop := w.ownsRow base 3 1 v l.length (l.map fun x => .int .i64 (x : Nat))
theorem OwnI.drew {w : World} {base : Nat} {v : Value} {l : List Nat} (h : OwnI w base v l) : OwnI w.drew base v l := h
theorem OwnI.cells {w : World} {base : Nat} {A : Option Addr} {c : Nat} {l : List Nat} (h : OwnI w base (.slice A l.length c) l) (hl : 0 < l.length) :
    ∃ g, A = some ⟨g, 0, none⟩ ∧ base ≤ g ∧ g < w.heap.size ∧ ∀ i (hi : i < l.length), w.cell? ⟨g, i, none⟩ = some (.int .i64 (l[i]'hi : Nat)) := by
  obtain ⟨g, cap, he, hb, hlt⟩ := World.ownsRow.form h hl
  simp only [Value.slice.injEq] at he
  obtain ⟨rfl, _, rfl⟩ := he
  refine ⟨g, rfl, hb, hlt, fun i hi => ?_⟩
  have := World.ownsRow.cellAt h i (by omega)
  rw [this]
  simp [hi]
theorem OwnI.below {w w1 : World} {base : Nat} {v : Value} {l : List Nat} (h : OwnI w base v l) (hb : Below w.heap.size w w1) : OwnI w1 base v l :=
  World.ownsRow.kept h (row := none) ⟨hb.os, hb.tape, hb.output, hb.size, fun k hk _ => hb.block k hk⟩ (by cases v.ownBlock <;> simp)
theorem OwnI.lower {w : World} {base b' : Nat} {v : Value} {l : List Nat} (h : OwnI w base v l) (hb : b' ≤ base) : OwnI w b' v l := by
  refine ⟨h.1, ?_⟩
  rcases h.2 with h2 | ⟨g, cap, cur, h1, h2, h3⟩
  · exact Or.inl h2
  · exact Or.inr ⟨g, cap, cur, h1, Nat.le_trans hb h2, h3⟩
theorem below_drewN {B : Nat} {w w1 : World} (h : Below B w w1) (q : Nat) : Below B w (w1.drewN q) := ⟨h.os, h.tape, h.output, h.size, h.block⟩
/-- the world is the first one, some orders having been drawn -/
structure Drw (w w' : World) : Prop where mk :: (out : ∃ q, w' = w.drewN q)
theorem Drw.refl (w : World) : Drw w w := ⟨0, rfl⟩
theorem Drw.drewN {w w' : World} (h : Drw w w') (n : Nat) : Drw w (w'.drewN n) := by
  obtain ⟨q, rfl⟩ := h.out
  exact ⟨q + n, World.drewN_drewN ..⟩
theorem Drw.drew {w w' : World} (h : Drw w w') : Drw w w'.drew := h.drewN 1
theorem Drw.cell {w w' : World} (h : Drw w w') {a : Addr} {v : Value} (hc : w.cell? a = some v) : w'.cell? a = some v := by
  obtain ⟨q, rfl⟩ := h.out
  exact hc
theorem Drw.row {w w' : World} (h : Drw w w') {b t n : Nat} {f : Nat → Value} (hc : Row w b t n f) : Row w' b t n f := by
  obtain ⟨q, rfl⟩ := h.out
  exact hc
theorem Drw.below {B : Nat} {w0 w w' : World} (h : Drw w w') (hb : Below B w0 w) : Below B w0 w' := by
  obtain ⟨q, rfl⟩ := h.out
  exact below_drewN hb q
theorem iwrap64 (x : Int) : IntKind.i64.wrap x = wrap64 x := by unfold wrap64; exact IntKind.wrap_i64 x
theorem iwrap (x : Int) (h0 : -9223372036854775808 ≤ x) (h1 : x ≤ 9223372036854775807) : IntKind.i64.wrap x = x := by
  rw [IntKind.wrap_i64]; omega
theorem ret_bool {a b : Bool} (h : a = b) : Ending.returned (.bool a) = .returned (.bool b) := by rw [h]
theorem ret_int {k : IntKind} {a b : Int} (h : a = b) : Ending.returned (.int k a) = .returned (.int k b) := by rw [h]
end Go.Proofs.Ytfdjdhjiaacjfaa.Kx
