/- Proved: cantingtop.TopOrders returns true for every input, and the input reads as it did. No condition. -/
import Derived.Test.YtfdjdhjiaacjfaaRows
import Derived.Test.YtfdjdhjiaacjfaaW14
import Derived.ProofKit
import Derived.Deep.Slices
import Derived.OpenShut
namespace Go.Proofs.Ytfdjdhjiaacjfaa.TopOrders
open Go Go.ChangeShapes Go.WideShapes Go.ChangeAt Go.RowKit Go.Deep Go.Proofs.Ytfdjdhjiaacjfaa

theorem own : ownKnob Try.prog.godebug = none := by kernel_rfl
theorem laidOut : laidOutB Try.prog = true := by kernel_rfl
theorem cells5 : Try.prog.cellsOf 5 = 1 := by kernel_rfl
theorem cells29 : Try.prog.cellsOf 29 = 6 := by kernel_rfl
theorem cells31 : Try.prog.cellsOf 31 = 7 := by kernel_rfl
theorem cells32 : Try.prog.cellsOf 32 = 2 := by kernel_rfl

section
variable {H : Type} {enc : TypeId × Value → H}

theorem u8_bd {q : Int} (h : (Lit.int .u8 q).wf = true) : 0 ≤ q ∧ q ≤ 255 := by
  simpa [Lit.wf, IntKind.min, IntKind.max, IntKind.signed, IntKind.bits] using h
theorem u8_cell {W : World} {sp : Nat → Bool} {held : Bool} {n : Nat} {cs : List Value} {x : DataW H × List MemPlace} (h : DataW.trod enc Try.prog W 0 sp held n 5 cs = some x) : ∃ q : Nat, cs = [.int .u8 (q : Int)] ∧ q ≤ 255 := by
  obtain ⟨q, hc, _, hw⟩ := DataW.trod_int Try.underlying5 h
  have := u8_bd hw
  exact ⟨q.toNat, by rw [hc, Int.toNat_of_nonneg this.1], by omega⟩
theorem one_at {cs : List Value} {i : Nat} {v : Value} (h : (cs.drop i).take 1 = [v]) : cs[i]? = some v := by
  have := congrArg (fun l => l[0]?) h
  simpa [List.getElem?_take] using this
theorem u8_array {W : World} {sp : Nat → Bool} {held : Bool} {t n fuel : Nat} {cs : List Value} {x : DataW H × List MemPlace} (ht : Try.prog.underlying t = some (.array n 5)) (h : DataW.trod enc Try.prog W 0 sp held fuel t cs = some x) :
    ∀ i, i < n → ∃ q : Nat, cs[i]? = some (.int .u8 (q : Int)) ∧ q ≤ 255 := by
  obtain ⟨xs, m, _, _, _, hlen, hx⟩ := DataW.trod_array ht h
  intro i hi
  have h1 := hx i hi
  rw [cells5, Nat.mul_one, List.getElem?_eq_getElem (by omega)] at h1
  obtain ⟨q, hq, hb⟩ := u8_cell h1
  exact ⟨q, one_at hq, hb⟩

/-- the cells of an argument that is a slice of elements of n bytes -/
theorem bytes_of {W : World} {t e n fuel : Nat} {a0 : Option Addr} {len cap : Nat} {x : DataW H × List MemPlace} (ht : Try.prog.underlying t = some (.slice e)) (hn : Try.prog.cellsOf e = n) (hn0 : 0 < n)
    (hel : ∀ (m : Nat) (cs : List Value) (y : DataW H × List MemPlace), DataW.trod enc Try.prog W 0 (fun _ => true) true m e cs = some y → ∀ i, i < n → ∃ q : Nat, cs[i]? = some (.int .u8 (q : Int)) ∧ q ≤ 255)
    (h : DataW.trod enc Try.prog W 0 (fun _ => true) true fuel t [.slice a0 len cap] = some x) :
    len ≤ cap ∧ ∃ (b o : Nat) (f : Nat → Nat → Nat), (0 < len → a0 = some ⟨b, o, none⟩) ∧ ∀ k q, k < len → q < n → W.cell? ⟨b, o + k * n + q, none⟩ = some (.int .u8 (f k q : Int)) ∧ f k q ≤ 255 := by
  rcases open_slice ht h with ⟨hc, _⟩ | ⟨a, len', cap', m, fu, D, Pl, hc, _, hl, _, hmm, _, hx⟩
  · simp only [List.cons.injEq, Value.slice.injEq, and_true] at hc
    obtain ⟨rfl, rfl, rfl⟩ := hc
    exact ⟨Nat.le_refl _, 0, 0, fun _ _ => 0, fun h => by omega, fun k q hk => by omega⟩
  · simp only [List.cons.injEq, Value.slice.injEq, and_true] at hc
    obtain ⟨rfl, rfl, rfl⟩ := hc
    refine ⟨hl, ?_⟩
    simp only [if_true] at hmm
    subst hmm
    have each : ∀ k, k < len → ∃ g : Nat → Nat, ∀ q, q < n → W.cell? ((a.add (k * n)).add q) = some (.int .u8 (g q : Int)) ∧ g q ≤ 255 := by
      intro k hk
      obtain ⟨cs', h1, h2⟩ := hx k (by omega)
      rw [hn] at h1
      obtain ⟨_, _, hcell⟩ := World.cells?_some h1
      refine choose_lt (α := Nat) (p := fun q v => W.cell? ((a.add (k * n)).add q) = some (.int .u8 (v : Int)) ∧ v ≤ 255) fun q hq => ?_
      obtain ⟨v, hv, hb⟩ := hel _ _ _ h2 q hq
      exact ⟨v, (hcell q hq).trans hv, hb⟩
    obtain ⟨f, hf⟩ := choose_lt (p := fun k g => ∀ q, q < n → W.cell? ((a.add (k * n)).add q) = some (.int .u8 ((g : Nat → Nat) q : Int)) ∧ g q ≤ 255) each
    rcases Nat.eq_zero_or_pos len with h0 | h0
    · exact ⟨0, 0, fun _ _ => 0, fun h => by omega, fun k q hk => by omega⟩
    · obtain ⟨b, o, spot⟩ := a
      have h00 := (hf 0 h0 0 hn0).1
      have hspot : spot = none := by simpa [Addr.add] using World.cell?_spot h00
      subst hspot
      refine ⟨b, o, f, fun _ => rfl, fun k q hk hq => ?_⟩
      have := hf k hk q hq
      rw [add_add, add_plain] at this
      rw [Nat.add_assoc]
      exact this
theorem bytes31 {W : World} (m : Nat) (cs : List Value) (y : DataW H × List MemPlace) (h : DataW.trod enc Try.prog W 0 (fun _ => true) true m 31 cs = some y) : ∀ i, i < 7 → ∃ q : Nat, cs[i]? = some (.int .u8 (q : Int)) ∧ q ≤ 255 := by
  obtain ⟨xs, n, _, _, _, hlen, hx⟩ := DataW.trod_struct Try.underlying31 h
  have hlen : xs.length = 2 := hlen
  have h0 := hx 0 _ rfl
  have h1 := hx 1 _ rfl
  rw [List.getElem?_eq_getElem (by omega)] at h0 h1
  replace h0 : DataW.trod enc Try.prog W 0 (fun _ => true) true n 5 ((cs.drop 0).take (Try.prog.cellsOf 5)) = some xs[0] := h0
  replace h1 : DataW.trod enc Try.prog W 0 (fun _ => true) true n 29 ((cs.drop 1).take (Try.prog.cellsOf 29)) = some xs[1] := h1
  rw [cells5] at h0
  rw [cells29] at h1
  intro i hi
  rcases Nat.eq_zero_or_pos i with hz | hz
  · subst hz
    obtain ⟨q, hq, hb⟩ := u8_cell h0
    exact ⟨q, one_at hq, hb⟩
  · obtain ⟨q, hq, hb⟩ := u8_array Try.underlying29 h1 (i - 1) (by omega)
    refine ⟨q, ?_, hb⟩
    rw [List.getElem?_take, if_pos (by omega), List.getElem?_drop] at hq
    rw [← hq]
    congr 1
    omega
theorem bytes32 {W : World} (m : Nat) (cs : List Value) (y : DataW H × List MemPlace) (h : DataW.trod enc Try.prog W 0 (fun _ => true) true m 32 cs = some y) : ∀ i, i < 2 → ∃ q : Nat, cs[i]? = some (.int .u8 (q : Int)) ∧ q ≤ 255 :=
  u8_array Try.underlying32 h

theorem contract (W : World) (base : Nat) (args : Array Value) (ds gs : List (DataW H)) (before : List MemPlace)
    (hval : ∀ (j : Nat) t v, Try.f3.params[j]? = some t → args[j]? = some v → Value.okWide Try.prog W .any base t v)
    (hW : DataW.Whole enc Try.prog Try.f3.params.toList Rows.topOrdersSpec.vars false W args.toList ds gs before) :
    Calls Try.prog 3 args W fun e W' => ∃ v, e = .returned v ∧ Rows.topOrdersSpec.post enc Try.prog Try.f3 false true false false W args v W' := by
  have hW' := hW
  obtain ⟨p, q, hA0, hV, rfl, hfz, hnd⟩ := hW
  have hA : DataW.TrodAll enc Try.prog W 0 (fun _ => true) true Try.f3.params.toList args.toList ds p := hA0
  rw [Try.params3] at hA hval
  obtain ⟨v0, v1, d0, d1, p0, p1, rfl, rfl, rfl, h0, h1⟩ := trodAll_two hA
  obtain ⟨rfl, rfl⟩ := trodVars_none hV
  obtain ⟨a0, l0, c0, rfl⟩ := okWide_slice Try.underlying22 (hval 0 22 v0 rfl rfl)
  obtain ⟨a1, l1, c1, rfl⟩ := okWide_slice Try.underlying23 (hval 1 23 _ rfl rfl)
  have h0k := h0
  have h1k := h1
  obtain ⟨f0, h0⟩ := h0
  obtain ⟨f1, h1⟩ := h1
  have hlt : ∀ x ∈ p0 ++ p1, x.block < W.heap.size := fun x hx => by simpa using hW'.lt x (by simpa using hx)
  obtain ⟨_, b0, o0, lf, hA0', hc0⟩ := bytes_of Try.underlying22 cells31 (by decide) bytes31 (by simpa [Value.cells] using h0)
  obtain ⟨hcap, b1, o1, bf, hA1', hc1⟩ := bytes_of Try.underlying23 cells32 (by decide) bytes32 (by simpa [Value.cells] using h1)
  refine (Ytfdjdhjiaacjfaa.W.top_any b0 o0 b1 o1 l0 l1 c0 c1 a0 a1 lf bf W hA0' hA1' hcap hc0 hc1).mono fun e W' ⟨he, hb⟩ => ?_
  subst he
  exact ⟨_, rfl, _, _, _, [], _, [], hW', trodAll_mk1 (shut_bool Try.underlying4 _),
    trodAll_mk2 (Below.trod laidOut (by kernel_rfl) (of_decide_eq_true (by kernel_rfl)) h0k hb (fun x hx => hlt x (by simp [hx]))) (Below.trod laidOut (by kernel_rfl) (of_decide_eq_true (by kernel_rfl)) h1k hb (fun x hx => hlt x (by simp [hx]))),
    rfl, hb.frame _, fun h => by cases h⟩
end

set_option maxRecDepth 100000 in
theorem lifted (os : Os) (started : os.Started) (H : Type) (enc : TypeId × Value → H) :
    ReturnsInHanded {} Try.checked os 3 .any (Rows.topOrdersSpec.pre6 enc Try.prog Try.f3 Rows.topOrdersRow.domain false) (Rows.topOrdersSpec.post enc Try.prog Try.f3 false true false false) := by
  refine returnsInHanded_of_change (C := Try.checked) own started (by kernel_rfl) Try.func3
    (ChangeSpec.witness6 (enc := enc) (C := Try.checked) false ⟨#[], #[.slice none 0 0, .slice none 0 0], []⟩ 8 (by kernel_rfl) (by kernel_rfl) (by kernel_rfl) (by kernel_rfl)) ?_
  intro W base args ds gs before hval hW _ _
  exact contract W base args ds gs before hval hW

/-- 'cantingtop.TopOrders' returns true, whatever the input. -/
theorem said : Rows.TopOrdersSaid :=
  OpenClaim.holds_of_wide 3 Try.f3 rfl rfl rfl rfl rfl rfl rfl ⟨rfl, rfl, rfl, rfl, rfl⟩ rfl rfl rfl rfl rfl (by kernel_rfl) Try.func3 (by kernel_rfl)
    (of_decide_eq_true (by kernel_rfl)) (by unfold Func.isWrapper; first | (rw [if_pos (by decide +kernel)]; kernel_rfl) | (rw [if_neg (by decide +kernel)]; exact ⟨rfl, rfl⟩))
    (fun os started H enc _ => lifted os started H enc)
end Go.Proofs.Ytfdjdhjiaacjfaa.TopOrders
