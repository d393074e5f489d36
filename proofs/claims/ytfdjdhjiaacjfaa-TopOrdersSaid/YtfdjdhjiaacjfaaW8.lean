/- Walks: bath.Best and bath.Prices. -/
import Derived.Test.YtfdjdhjiaacjfaaM2
import Derived.Test.YtfdjdhjiaacjfaaW5
import Derived.Test.YtfdjdhjiaacjfaaW7
namespace Go.Proofs.Ytfdjdhjiaacjfaa.W
open Go Go.RowKit Go.Deep Go.Proofs.Ytfdjdhjiaacjfaa.Kx

set_option maxHeartbeats 2000000 in
theorem best_no (D : PlanD) (L : Loc) (w : World) (hD : D.Ok) (hp : PlanAt w D L) (hpos : possB D = false) :
    Calls Try.prog 7 #[.agg (L.args D)] w fun e w' => e = .returned (.tuple #[.slice none 0 0, .int .i64 7]) ∧ Below w.heap.size w w' := by
  have hpa : ∀ W, Below w.heap.size w W → PlanAt W D L := fun W h => hp.of_below h
  have valid := fun W (h : Below w.heap.size w W) => valid_any D L W hD (hpa W h)
  have possible := fun W (h : Below w.heap.size w W) => possible_any D L W hD (hpa W h)
  unfold Loc.args at valid possible ⊢
  rw [hpos] at possible
  have Hvalid := Lib.hid valid
  have Hpossible := Lib.hid possible
  have h0 : Below w.heap.size w (w.alloc (.cells #[.slice (some ⟨L.bs, 0, none⟩) D.n L.cs, .slice (some ⟨L.bc, 0, none⟩) D.n L.cc, .slice L.A D.m L.cb] 28)) := (Below.refl _ _).alloc (Nat.le_refl _) _
  clear valid possible hpa
  go_enter Try.func7, Try.ntmps7
  go_wp2_with (first
    | (go_at_call 13; refine (Hvalid.out _ h0).mono ?_; rintro e w1 ⟨rfl, hb1⟩; obtain ⟨b0, b1, b2⟩ := box3_below hb1; have h1 := below_next h0 hb1)
    | (go_at_call 14; refine (Hpossible.out _ h1).mono ?_; rintro e w2 ⟨rfl, hb2⟩))
  go_ret2
  exact ⟨rfl, below_next h1 hb2⟩
theorem box3_of_drew {w w1 : World} {b : Nat} {v0 v1 v2 : Value} (h : w.cell? ⟨b, 0, none⟩ = some v0 ∧ w.cell? ⟨b, 1, none⟩ = some v1 ∧ w.cell? ⟨b, 2, none⟩ = some v2) (hb : Below w.drew.heap.size w.drew w1) :
    w1.cell? ⟨b, 0, none⟩ = some v0 ∧ w1.cell? ⟨b, 1, none⟩ = some v1 ∧ w1.cell? ⟨b, 2, none⟩ = some v2 :=
  have hb' : Below w.heap.size w w1 := ⟨hb.os, hb.tape, hb.output, hb.size, hb.block⟩
  ⟨cell_next h.1 hb', cell_next h.2.1 hb', cell_next h.2.2 hb'⟩
theorem box3_next {w w1 : World} {b : Nat} {v0 v1 v2 : Value} (h : w.cell? ⟨b, 0, none⟩ = some v0 ∧ w.cell? ⟨b, 1, none⟩ = some v1 ∧ w.cell? ⟨b, 2, none⟩ = some v2) (hb' : Below w.heap.size w w1) :
    w1.cell? ⟨b, 0, none⟩ = some v0 ∧ w1.cell? ⟨b, 1, none⟩ = some v1 ∧ w1.cell? ⟨b, 2, none⟩ = some v2 :=
  ⟨cell_next h.1 hb', cell_next h.2.1 hb', cell_next h.2.2 hb'⟩
theorem prices_no (D : PlanD) (L : Loc) (w : World) (hD : D.Ok) (hp : PlanAt w D L) (hpos : possB D = false) :
    Calls Try.prog 8 #[.agg (L.args D)] w fun e w' => e = .returned (.tuple #[.slice none 0 0, .int .i64 7]) ∧ Below w.heap.size w w' := by
  have hpa : ∀ W, Below w.heap.size w W → PlanAt W D L := fun W h => hp.of_below h
  have valid := fun W (h : Below w.heap.size w W) => valid_any D L W hD (hpa W h)
  have possible := fun W (h : Below w.heap.size w W) => possible_any D L W hD (hpa W h)
  unfold Loc.args at valid possible ⊢
  rw [hpos] at possible
  have Hvalid := Lib.hid valid
  have Hpossible := Lib.hid possible
  have h0 : Below w.heap.size w (w.alloc (.cells #[.slice (some ⟨L.bs, 0, none⟩) D.n L.cs, .slice (some ⟨L.bc, 0, none⟩) D.n L.cc, .slice L.A D.m L.cb] 28)) := (Below.refl _ _).alloc (Nat.le_refl _) _
  clear valid possible hpa
  go_enter Try.func8, Try.ntmps8
  go_wp2_with (first
    | (go_at_call 13; refine (Hvalid.out _ h0).mono ?_; rintro e w1 ⟨rfl, hb1⟩; obtain ⟨b0, b1, b2⟩ := box3_below hb1; have h1 := below_next h0 hb1)
    | (go_at_call 14; refine (Hpossible.out _ h1).mono ?_; rintro e w2 ⟨rfl, hb2⟩))
  go_ret2
  exact ⟨rfl, below_next h1 hb2⟩
theorem prices_yes (D : PlanD) (L : Loc) (w : World) (N : Nat) (hN : N = D.n * 2 ^ D.n) (hD : D.Ok) (hp : PlanAt w D L) (hpos : possB D = true) :
    Calls Try.prog 8 #[.agg (L.args D)] w fun e w' => ∃ g, e = .returned (.tuple #[.slice (some ⟨g, 0, none⟩) N N, .int .i64 0]) ∧ w.heap.size ≤ g ∧ Row w' g 3 N (fun i => .int .i64 (priceT D i)) ∧ Below w.heap.size w w' := by
  have hpa : ∀ W, Below w.heap.size w W → PlanAt W D L := fun W h => hp.of_below h
  have valid := fun W (h : Below w.heap.size w W) => valid_any D L W hD (hpa W h)
  have possible := fun W (h : Below w.heap.size w W) => possible_any D L W hD (hpa W h)
  have prices := fun W (h : Below w.heap.size w W) => prices_any D L W N hN hD (hpa W h)
  unfold Loc.args at valid possible prices ⊢
  rw [hpos] at possible
  have Hvalid := Lib.hid valid
  have Hpossible := Lib.hid possible
  have Hprices := Lib.hid prices
  have h0 : Below w.heap.size w (w.alloc (.cells #[.slice (some ⟨L.bs, 0, none⟩) D.n L.cs, .slice (some ⟨L.bc, 0, none⟩) D.n L.cc, .slice L.A D.m L.cb] 28)) := (Below.refl _ _).alloc (Nat.le_refl _) _
  clear valid possible prices hpa hN
  go_enter Try.func8, Try.ntmps8
  go_wp2_with (first
    | (go_at_call 13; refine (Hvalid.out _ h0).mono ?_; rintro e w1 ⟨rfl, hb1⟩; have hx1 := box3_below hb1; have h1 := below_next h0 hb1)
    | (go_at_call 14; refine (Hpossible.out _ h1).mono ?_; rintro e w2 ⟨rfl, hb2⟩; have hx2 := box3_next hx1 hb2; have h2 := below_next h1 hb2)
    | (go_at_call 16; refine (Hprices.out _ h2).mono ?_; rintro e w3 ⟨g, rfl, hg, hrow, hb3⟩))
  go_ret2
  exact ⟨g, rfl, by have := h2.size; omega, hrow, below_next h2 hb3⟩

set_option maxHeartbeats 4000000 in
theorem best_yes (D : PlanD) (L : Loc) (w : World) (hD : D.Ok) (hp : PlanAt w D L) (hpos : possB D = true) :
    Calls Try.prog 7 #[.agg (L.args D)] w fun e w' => ∃ A c, e = .returned (.tuple #[.slice A (bestK D (priceT D) (leastK D (priceT D) D.n) D.n).2.2.length c, .int .i64 0]) ∧
      w'.ownsRow w.heap.size 3 1 (.slice A (bestK D (priceT D) (leastK D (priceT D) D.n) D.n).2.2.length c) (bestK D (priceT D) (leastK D (priceT D) D.n) D.n).2.2.length ((bestK D (priceT D) (leastK D (priceT D) D.n) D.n).2.2.map fun x => .int .i64 (x : Nat)) ∧ Below w.heap.size w w' := by
  have hn1 := hD.n1
  have hn6 := hD.n6
  have hp2 := two_pow_le6 hn6
  obtain ⟨N, hN⟩ : ∃ N, N = D.n * 2 ^ D.n := ⟨_, rfl⟩
  have hN3 : N ≤ 384 := by rw [hN]; exact Nat.mul_le_mul hn6 hp2
  have hpa : ∀ W, Below w.heap.size w W → PlanAt W D L := fun W h => hp.of_below h
  have valid := fun W (h : Below w.heap.size w W) => valid_any D L W hD (hpa W h)
  have possible := fun W (h : Below w.heap.size w W) => possible_any D L W hD (hpa W h)
  have needs := fun W (h : Below w.heap.size w W) => needs_any D L W hD (hpa W h)
  have prices := fun W (h : Below w.heap.size w W) => prices_any D L W N hN hD (hpa W h)
  have hTbd : ∀ i, i < N → -1 ≤ priceT D i ∧ priceT D i ≤ 1099511627776 := fun i hi => priceT_bd D hD i (by rw [← hN]; exact hi)
  have least := fun W bt ct (h : Below w.heap.size w W) ht => least_any D L W bt ct N (priceT D) hD (hpa W h) hN ht hTbd
  have hlb := leastK_bd D hD (priceT D) (fun i hi => hTbd i (by rw [hN]; exact hi)) D.n (Nat.le_refl _)
  unfold Loc.args at valid possible needs prices least ⊢
  rw [hpos] at possible
  have Hvalid := Lib.hid valid
  have Hpossible := Lib.hid possible
  have Hneeds := Lib.hid needs
  have Hprices := Lib.hid prices
  have Hleast := Lib.hid least
  have h0 : Below w.heap.size w (w.alloc (.cells #[.slice (some ⟨L.bs, 0, none⟩) D.n L.cs, .slice (some ⟨L.bc, 0, none⟩) D.n L.cc, .slice L.A D.m L.cb] 28)) := (Below.refl _ _).alloc (Nat.le_refl _) _
  have HN := Lib.hid hN
  have HT := Lib.hid hTbd
  have Hpa := Lib.hid hpa
  have hndj : ∀ j, nd D j < 64 := fun j => ndK_lt D hD j D.m (Nat.le_refl _)
  have Hnd := Lib.hid hndj
  clear valid possible needs prices least hpa hN hTbd hndj hpos
  generalize hL0 : leastK D (priceT D) D.n = l0 at hlb Hleast ⊢
  clear hL0
  go_enter Try.func7, Try.ntmps7
  go_wp2_with (first
    | (go_at_call 13; refine (Hvalid.out _ h0).mono ?_; rintro e w1 ⟨rfl, hb1⟩; have hx1 := box3_below hb1; have h1 := below_next h0 hb1)
    | (go_at_call 14; refine (Hpossible.out _ h1).mono ?_; rintro e w2 ⟨rfl, hb2⟩; have hx2 := box3_next hx1 hb2; have h2 := below_next h1 hb2))
  clear hx1 hb1 hb2
  go_region_held3 (fun w' => w'.cell? ⟨w.heap.size, 0, none⟩ = some (.slice (some ⟨L.bs, 0, none⟩) D.n L.cs) ∧ w'.cell? ⟨w.heap.size, 1, none⟩ = some (.slice (some ⟨L.bc, 0, none⟩) D.n L.cc) ∧ w'.cell? ⟨w.heap.size, 2, none⟩ = some (.slice L.A D.m L.cb))
    (first | go_keep | exact hx3 | exact hx4)
    (first
      | (go_at_call 15; refine (Hneeds.out _ h2.drew).mono ?_; rintro e w3 ⟨g, rfl, hg, hrow, hb3⟩; have hx3 := box3_of_drew hx2 hb3; have h3 := below_drew_of h2 hb3)
      | (go_at_call 16; refine (Hprices.out _ h3).mono ?_; rintro e w4 ⟨G, rfl, hG, htab, hb4⟩; have hx4 := box3_next hx3 hb4; have h4 := below_next h3 hb4))
  have hrow4 := hrow.below hb4 hrow.lt
  have Htab := Lib.hid htab
  have Hrow := Lib.hid hrow4
  have hp4 := Hpa.out _ h4
  clear hb3 hx2 hx3 h3 hrow hrow4 htab hb4 hg hG h0 h1 h2
  go_wp2_with (go_at_call 17; refine (Hleast.out _ G N h4 Htab.out).mono ?_; rintro e w5 ⟨rfl, hb5⟩)
  have h5 := below_next h4 hb5
  have hx5 := box3_next hx4 hb5
  have hp5 := hp4.of_below hb5
  have hrow5 := Lib.hid (Hrow.out.below hb5 Hrow.out.lt)
  have htab5 := Lib.hid (Htab.out.below hb5 Htab.out.lt)
  clear Htab Hrow hx4 h4 hp4 hb5
  go_loopw [7, 8, 9, 31] (fun lv sv ov kv wr => ∃ (k : Nat) (left : Int) (set : Nat) (out : List Nat) (A : Option Addr) (c : Nat), k ≤ D.n ∧ kv = .int .i64 k ∧ lv = .int .i64 left ∧ sv = .int .i64 set ∧ ov = .slice A out.length c ∧
      Hid (bestK D (priceT D) l0 k = (left, set, out)) ∧ OwnI wr w5.heap.size (.slice A out.length c) out ∧ Below w5.heap.size w5 wr)
    (fun _ _ _ kv _ => D.n - (intOf kv).toNat)
  case atStart => exact ⟨0, l0, 0, [], none, 0, Nat.zero_le _, rfl, rfl, rfl, rfl, Lib.hid rfl, World.ownsRow_nil _ _ _ _, Below.refl _ _⟩
  case round =>
    obtain ⟨k, left, set, out, A, c, hk, rfl, rfl, rfl, rfl, hst, hown, hbel⟩ := hrel
    have hinv := bestK_inv D hD (priceT D) l0 k
    rw [hst.out] at hinv
    obtain ⟨hset, hout, hlen, hlo, hhi⟩ := hinv
    simp only at hset hout hlen hlo hhi
    by_cases hlt : k < D.n
    · go_wp2
      obtain ⟨wo, rfl⟩ : ∃ wo : World, wo = wr := ⟨_, rfl⟩
      go_loopw [7, 8, 9, 34] (fun lv sv ov jv wr => ∃ (j : Nat), j ≤ D.n ∧ jv = .int .i64 j ∧ lv = .int .i64 left ∧ sv = .int .i64 set ∧ ov = .slice A out.length c ∧
          Hid (findJ (hit D (priceT D) left set out) j = none) ∧ OwnI wr w5.heap.size (.slice A out.length c) out ∧ Below w5.heap.size w5 wr)
        (fun _ _ _ jv _ => D.n - (intOf jv).toNat)
      case atStart => exact ⟨0, Nat.zero_le _, rfl, rfl, rfl, rfl, Lib.hid rfl, hown, hbel⟩
      case round =>
        clear hown hbel
        obtain ⟨j, hj, rfl, rfl, rfl, rfl, hfj, hown, hbel⟩ := hrel
        by_cases hjt : j < D.n
        · have cj := (hrow5.out.below hbel hrow5.out.lt).cell hjt
          have hnj := Hnd.out j
          cases hf : fol (nd D) set j
          · have hf' := Lib.hid hf; clear hf
            go_wp2_with (go_at_call 18; refine (follows_any _ _ _ (nd D) set j _ hjt (by omega) (by omega) (by omega) cj).mono ?_; rintro e w6 ⟨rfl, rfl⟩; rw [hf'.out])
            go_roundw
            case rel => exact ⟨j + 1, by omega, by go_num, rfl, rfl, rfl, Lib.hid (findJ_miss hfj.out (by unfold hit; rw [hf'.out]; rfl)), hown, hbel⟩
            case measure => simp [intOf]; omega
          · have hf' := Lib.hid hf; clear hf
            have b0 := (hbel.cell (World.block_lt_of_cell? w5 _ hx5.1)).trans hx5.1
            have b1 := (hbel.cell (World.block_lt_of_cell? w5 _ hx5.2.1)).trans hx5.2.1
            have cS := (hp5.s.below hbel hp5.s.lt).cell hjt
            have hcase : (out.length ≤ 0 ∧ Hid (cst D out j = D.S j)) ∨ (∃ g l, 0 < out.length ∧ A = some ⟨g, 0, none⟩ ∧ l < D.n ∧ wr.cell? ⟨g, out.length - 1, none⟩ = some (.int .i64 (l : Nat)) ∧ Hid (cst D out j = D.C l j)) := by
              rcases Nat.eq_zero_or_pos out.length with h0 | h0
              · exact Or.inl ⟨by omega, Lib.hid (by rw [List.length_eq_zero_iff.1 h0]; rfl)⟩
              · obtain ⟨g, hA, _, _, hc⟩ := hown.cells h0
                exact Or.inr ⟨g, _, h0, hA, hout _ (List.getElem_mem _), hc (out.length - 1) (by omega), Lib.hid (by unfold cst; rw [List.getLast?_eq_getElem?, List.getElem?_eq_getElem (by omega)])⟩
            have hs2 := or_lt (n := D.n) (s := set) (j := j) hset hjt
            have hs3 := fol_lt hf'.out
            obtain ⟨s2, hs2e⟩ : ∃ s2, s2 = set ||| 2 ^ j := ⟨_, rfl⟩
            have eor : bits .or .i64 (set : Int) (wrap64 (2 ^ j)) = (s2 : Int) := by rw [hs2e]; exact or_pow set j (by omega) (by omega)
            rw [← hs2e] at hs2 hs3
            obtain ⟨M, hM⟩ : ∃ M, M = D.n * s2 := ⟨_, rfl⟩
            have hMN : M + j < N := by rw [hM, HN.out]; exact idx_lt _ _ _ _ hjt hs2
            have eM : (D.n : Int) * (s2 : Int) = (M : Int) := by rw [hM]; simp
            have cT := (htab5.out.below hbel htab5.out.lt).cell hMN
            have hTb := HT.out (M + j) hMN
            generalize hv : priceT D (M + j) = tv at cT hTb
            have Hv := Lib.hid hv
            have HM := Lib.hid hM
            have Hs2 := Lib.hid hs2e
            clear hv hM hs2e hs2 hs3
            rcases hcase with ⟨hl0, hcst⟩ | ⟨g', l, hl0, rfl, hl, cl, hcst⟩
            · have hcb := hD.s j hjt
              cases hh : ((D.S j : Int) + tv == left)
              · have Hh := Lib.hid (show hit D (priceT D) left set out j = false by unfold hit; rw [hf'.out, hcst.out, ← Hs2.out, ← HM.out, Hv.out]; exact hh)
                go_wp2_with (go_at_call 18; refine (follows_any _ _ _ (nd D) set j _ hjt (by omega) (by omega) (by omega) cj).mono ?_; rintro e w6 ⟨rfl, rfl⟩; rw [hf'.out])
                go_roundw
                case rel => exact ⟨j + 1, by omega, by go_num, rfl, rfl, rfl, Lib.hid (findJ_miss hfj.out Hh.out), hown, hbel⟩
                case measure => simp [intOf]; omega
              · have Hh := Lib.hid (show hit D (priceT D) left set out j = true by unfold hit; rw [hf'.out, hcst.out, ← Hs2.out, ← HM.out, Hv.out]; exact hh)
                go_wp2_with (first
                  | (go_at_call 18; refine (follows_any _ _ _ (nd D) set j _ hjt (by omega) (by omega) (by omega) cj).mono ?_; rintro e w6 ⟨rfl, rfl⟩; rw [hf'.out])
                  | (at_builtin; refine append1 (W := wr) w5.heap.size rfl (.tmp 85) (.tmp 87) 24 3 (.int .i64 0) 8 rfl Try.underlying24 info3 rfl (by decide) _ _ _ _ rfl rfl rfl hown hbel.size (by omega) ?_; intro A1 c1 w6 hown1 hb6))
                go_roundw
                case rel =>
                  refine ⟨k + 1, left - D.S j, s2, out ++ [j], A1, c1, by omega, by go_num, rfl, rfl, by simp, Lib.hid ?_, ?_, hbel.trans hb6⟩
                  · rw [bestK, hst.out]
                    unfold bstep
                    simp only [findJ_hit hfj.out Hh.out D.n hjt, hcst.out, ← Hs2.out]
                  · unfold OwnI
                    simpa using hown1
                case measure => simp [intOf]; omega
            · have hcb := hD.c l j hl hjt
              have cC := (hp5.c.below hbel hp5.c.lt).cell hl
              have cR := ((hp5.r l hl).below hbel (hp5.r l hl).lt).cell hjt
              have e1 : (out.length : Int) - 1 = ((out.length - 1 : Nat) : Int) := by omega
              cases hh : ((D.C l j : Int) + tv == left)
              · have Hh := Lib.hid (show hit D (priceT D) left set out j = false by unfold hit; rw [hf'.out, hcst.out, ← Hs2.out, ← HM.out, Hv.out]; exact hh)
                go_wp2_with (go_at_call 18; refine (follows_any _ _ _ (nd D) set j _ hjt (by omega) (by omega) (by omega) cj).mono ?_; rintro e w6 ⟨rfl, rfl⟩; rw [hf'.out])
                go_region
                all_goals
                  go_wp2
                  go_roundw
                  case rel => exact ⟨j + 1, by omega, by go_num, rfl, rfl, rfl, Lib.hid (findJ_miss hfj.out Hh.out), hown.drew, hbel.drew⟩
                  case measure => simp [intOf]; omega
              · have Hh := Lib.hid (show hit D (priceT D) left set out j = true by unfold hit; rw [hf'.out, hcst.out, ← Hs2.out, ← HM.out, Hv.out]; exact hh)
                go_wp2_with (go_at_call 18; refine (follows_any _ _ _ (nd D) set j _ hjt (by omega) (by omega) (by omega) cj).mono ?_; rintro e w6 ⟨rfl, rfl⟩; rw [hf'.out])
                go_region
                all_goals
                  go_wp2_with (at_builtin; refine append1 (W := wr.drew) w5.heap.size rfl (.tmp 85) (.tmp 87) 24 3 (.int .i64 0) 8 rfl Try.underlying24 info3 rfl (by decide) _ _ _ _ rfl rfl rfl hown.drew hbel.size (by omega) ?_; intro A1 c1 w6 hown1 hb6)
                  go_roundw
                  case rel =>
                    refine ⟨k + 1, left - D.C l j, s2, out ++ [j], A1, c1, by omega, by go_num, rfl, rfl, by simp, Lib.hid ?_, ?_, hbel.drew.trans hb6⟩
                    · rw [bestK, hst.out]
                      unfold bstep
                      simp only [findJ_hit hfj.out Hh.out D.n hjt, hcst.out, ← Hs2.out]
                    · unfold OwnI
                      simpa using hown1
                  case measure => simp [intOf]; omega
        · obtain rfl : j = D.n := by omega
          go_wp2
          go_roundw
          case rel => exact ⟨k + 1, left, set, out, A, c, by omega, by go_num, rfl, rfl, rfl, Lib.hid (by rw [bestK, hst.out]; unfold bstep; simp only [hfj.out]), hown, hbel⟩
          case measure => simp [intOf]; omega
    · obtain rfl : k = D.n := by omega
      go_wp2
      go_ret2
      rw [hst.out]
      exact ⟨A, c, rfl, OwnI.lower hown h5.size, below_next h5 hbel⟩
end Go.Proofs.Ytfdjdhjiaacjfaa.W
