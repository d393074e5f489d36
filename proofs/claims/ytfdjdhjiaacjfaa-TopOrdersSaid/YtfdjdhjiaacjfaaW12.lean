/- Walks: the function 'all' of TopOrders. -/
import Derived.Test.YtfdjdhjiaacjfaaM3
import Derived.Test.YtfdjdhjiaacjfaaW11
namespace Go.Proofs.Ytfdjdhjiaacjfaa.W
open Go Go.RowKit Go.Deep Go.Proofs.Ytfdjdhjiaacjfaa.Kx

def AllCalls (D : PlanD) (bn bp : Nat) (wB : World) (r : Nat) : Prop :=
  ∀ (order : List Nat) (cost : Nat) (st : St) (w : World) (A : Option Addr) (c : Nat), order.length + r = D.n → order.Nodup → (∀ x ∈ order, x < D.n) →
    OwnI w (wB.heap.size + 3) (.slice A order.length c) order → (order.length = 0 → A = none) → cost ≤ 255 * order.length → AllW bn bp wB w st →
    Calls Try.prog 4 #[.slice A order.length c, .int .i64 cost, .pointer (some ⟨bn, 0, none⟩), .pointer (some ⟨wB.heap.size + 1, 0, none⟩), .pointer (some ⟨wB.heap.size, 0, none⟩), .pointer (some ⟨bp, 0, none⟩), .pointer (some ⟨wB.heap.size + 2, 0, none⟩)] w
      fun e w' => e = .returned (.tuple #[]) ∧ AllW bn bp wB w' (allF D r order cost st) ∧ Keep (wB.heap.size + 3) w w'

/-- an order's cells, in a later world -/
theorem order_cells {w w1 : World} {b c : Nat} {A : Option Addr} {l : List Nat} (h : OwnI w b (.slice A l.length c) l) (hk : Keep b w w1) :
    ∃ g, (0 < l.length → A = some ⟨g, 0, none⟩) ∧ ∀ i (hi : i < l.length), g < w1.heap.size ∧ w1.cell? ⟨g, i, none⟩ = some (.int .i64 (l[i]'hi : Nat)) := by
  rcases Nat.eq_zero_or_pos l.length with h0 | h0
  · exact ⟨0, fun h => by omega, fun i hi => by omega⟩
  · obtain ⟨g, hA, _, hlt, hc⟩ := (own_keep h hk).cells h0
    exact ⟨g, fun _ => hA, fun i hi => ⟨hlt, hc i hi⟩⟩

theorem rec_call {D : PlanD} {bn bp : Nat} {wB : World} {r : Nat} (ih : AllCalls D bn bp wB r) {order : List Nat} {j cost2 : Nat} {sj : St} {wz w2 : World} {gg cap : Nat}
    (hbz : Below wz.heap.size wz w2)
    (hown2 : w2.ownsRow (wB.heap.size + 3) 3 1 (.slice (some ⟨gg, 0, none⟩) (order.length + 1) cap) (order.length + 1) ((order.map fun x => Value.int .i64 (x : Nat)) ++ [Value.int .i64 (j : Nat)]))
    (hlen : (order ++ [j]).length + r = D.n) (hnd : (order ++ [j]).Nodup) (hlt : ∀ x ∈ order ++ [j], x < D.n) (hc : cost2 ≤ 255 * (order.length + 1)) (hW : AllW bn bp wB wz sj) :
    Calls Try.prog 4 #[.slice (some ⟨gg, 0, none⟩) (order.length + 1) cap, .int .i64 cost2, .pointer (some ⟨bn, 0, none⟩), .pointer (some ⟨wB.heap.size + 1, 0, none⟩), .pointer (some ⟨wB.heap.size, 0, none⟩), .pointer (some ⟨bp, 0, none⟩), .pointer (some ⟨wB.heap.size + 2, 0, none⟩)] w2
      fun e w' => e = .returned (.tuple #[]) ∧ AllW bn bp wB w' (allF D r (order ++ [j]) cost2 sj) ∧ Keep (wB.heap.size + 3) wz w' := by
  have e : (order ++ [j]).length = order.length + 1 := by simp
  have h := ih (order ++ [j]) cost2 sj w2 (some ⟨gg, 0, none⟩) cap hlen hnd hlt (by unfold OwnI; simpa using hown2) (by simp) (by rw [e]; exact hc) (hW.ext hbz)
  rw [e] at h
  exact h.mono fun e w' ⟨h1, h2, h3⟩ => ⟨h1, h2, (Keep.of_below hbz).trans h3⟩
theorem app_below {wz W w1 w2 : World} {A1 : Option Addr} {c1 b : Nat} {order : List Nat} (hW : Below wz.heap.size wz W) (hown1 : OwnI w1 b (.slice A1 order.length c1) order) (hbz : wz.heap.size ≤ b)
    (hgrow : W.grownBy w2 (Value.ownBlock (.slice A1 order.length c1))) : Below wz.heap.size wz w2 :=
  hW.grown hgrow hW.size (fun k hk => Nat.le_trans hbz (World.ownsRow.lt hown1 k hk).1)
theorem below_undrew {wz w1 : World} (hb1 : Below wz.drew.heap.size wz.drew w1) : Below wz.heap.size wz w1 := ⟨hb1.os, hb1.tape, hb1.output, hb1.size, hb1.block⟩
theorem below_unalloc {wz w1 : World} {o : Obj} (hb1 : Below (wz.alloc o).drew.heap.size (wz.alloc o).drew w1) : Below wz.heap.size wz w1 :=
  ((Below.refl _ _).alloc (Nat.le_refl _) o).trans ((below_undrew hb1).mono (by simp))

set_option maxRecDepth 100000 in
set_option maxHeartbeats 4000000 in
theorem all_succ (D : PlanD) (L : Loc) (bn bp : Nat) (wB : World) (hD : D.Ok) (hB : AllB D L bn bp wB) (r : Nat) (ih : AllCalls D bn bp wB r) : AllCalls D bn bp wB (r + 1) := by
  intro order cost st w A c hlen hnd hlt hown hA hcost hW
  obtain ⟨bs, cs, bc, cc, R, Rc, LA, bb, cb⟩ := L
  obtain ⟨Bn, Bp0, Bp1, Bp2, Bplan⟩ := hB
  simp only at Bp0 Bp1 Bp2
  have Hih := Lib.hid ih
  have hn1 := hD.n1
  have hn6 := hD.n6
  have hm8 := hD.m8
  have cn := (hW.bel.cell (World.block_lt_of_cell? wB _ Bn)).trans Bn
  have eqn : (((order.length : Nat) : Int) == (D.n : Int)) = false := by rw [nat_beq]; simp; omega
  have hle : order.length ≤ 6 := by omega
  have HL : Hid (order.length + (r + 1) = D.n) := Lib.hid hlen
  have hupd : Hid (updB D order cost st = st) := Lib.hid (by unfold updB; rw [if_neg (by omega)])
  have HA0 : Hid (0 < D.m → LA = some ⟨bb, 0, none⟩) := Lib.hid Bplan.A
  have hbb : 0 < D.m → bb < wB.heap.size := fun h => (Bplan.b h).lt
  have HP : Hid (∀ k, k < D.m → wB.cell? ⟨bb, k * 2, none⟩ = some (.int .i64 (D.B0 k)) ∧ wB.cell? ⟨bb, k * 2 + 1, none⟩ = some (.int .i64 (D.B1 k))) := Lib.hid (fun k hk => by
    have hb := Bplan.b (by omega)
    simp only at hb
    refine ⟨?_, ?_⟩
    · rw [hb.cell (by omega)]; simp
    · rw [hb.cell (by omega), mod_two, div_two]; simp)
  have HD := Lib.hid hD
  clear hlen ih hD
  go_enter Try.func4, Try.ntmps4
  go_wp2_with fail
  go_loopw [27] (fun jv wr => ∃ (j : Nat) (sj : St), j ≤ D.n ∧ jv = .int .i64 j ∧ Hid (allLoop D (allF D r) order cost j st = sj) ∧ AllW bn bp wB wr sj ∧ Keep (wB.heap.size + 3) w wr) (fun jv _ => D.n - (intOf jv).toNat)
  case atStart => exact ⟨0, st, Nat.zero_le _, rfl, Lib.hid rfl, hW, Keep.refl _ _⟩
  case round =>
    clear cn
    obtain ⟨j, sj, hj, rfl, hst, hWj, hkj⟩ := hrel
    by_cases hjt : j < D.n
    · obtain ⟨g, hAg, hg⟩ := order_cells hown hkj
      have Hg := Lib.hid hg
      have HAg := Lib.hid hAg
      have hcon := contains_any A g c order j wr (by omega) hAg (fun i hi => (hg i hi).2)
      have Hcon := Lib.hid hcon
      have p2 := (hWj.bel.cell (World.block_lt_of_cell? wB _ Bp2)).trans Bp2
      clear hg hAg hcon
      go_wp2_with (go_at_call 6; refine Hcon.out.mono ?_; rintro e w6 ⟨rfl, rfl⟩)
      obtain ⟨wj, rfl⟩ : ∃ wj : World, wj = wr := ⟨_, rfl⟩
      go_loopw [10, 37] (fun bv kv wr => ∃ (k : Nat) (b : Bool), k ≤ D.m ∧ kv = .int .i64 k ∧ bv = .bool b ∧ Hid (mayK D order j k = b) ∧ Below wj.heap.size wj wr) (fun _ kv _ => D.m - (intOf kv).toNat)
      case atStart => exact ⟨0, !decide (j ∈ order), Nat.zero_le _, rfl, rfl, Lib.hid rfl, Below.refl _ _⟩
      case round =>
        obtain ⟨k, b, hk, rfl, rfl, hb, hbw⟩ := hrel
        by_cases hkt : k < D.m
        · have hcp := HP.out k hkt
          have hbbk := hbb (by omega)
          have hszj := hWj.size
          have cx := (hbw.cell (p := ⟨bb, k * 2, none⟩) (by simp; omega)).trans ((hWj.bel.cell (p := ⟨bb, k * 2, none⟩) hbbk).trans hcp.1)
          have cy := (hbw.cell (p := ⟨bb, k * 2 + 1, none⟩) (by simp; omega)).trans ((hWj.bel.cell (p := ⟨bb, k * 2 + 1, none⟩) hbbk).trans hcp.2)
          have hstep : mayK D order j (k + 1) = (mayK D order j k && (D.B1 k != j || decide (D.B0 k ∈ order))) := rfl
          rw [hb.out] at hstep
          have HS := Lib.hid hstep
          have hA0 := HA0.out (by omega)
          clear hstep
          subst hA0
          clear hcp
          cases b
          · go_wp2
            go_roundw
            case rel => exact ⟨k + 1, false, by omega, by go_num, rfl, Lib.hid (by rw [HS.out]; rfl), hbw.alloc hbw.size _⟩
            case measure => simp [intOf]; omega
          · cases hne : ((D.B1 k : Int) != (j : Int))
            · have hcon := fun o => contains_any A g c order (D.B0 k) (wr.alloc o) (by omega) HAg.out (fun i hi => (((hbw.alloc hbw.size o).cell (Hg.out i hi).1).trans (Hg.out i hi).2))
              have Hcon2 := Lib.hid hcon
              have HN : Hid ((D.B1 k != j) = false) := Lib.hid (by rw [← nat_bne]; exact hne)
              clear hcon
              go_wp2_with (go_at_call 6; refine (Hcon2.out _).mono ?_; rintro e w6 ⟨rfl, rfl⟩)
              go_roundw
              case rel => exact ⟨k + 1, decide (D.B0 k ∈ order), by omega, by go_num, rfl, Lib.hid (by rw [HS.out, HN.out]; rfl), hbw.alloc hbw.size _⟩
              case measure => simp [intOf]; omega
            · have HN : Hid ((D.B1 k != j) = true) := Lib.hid (by rw [← nat_bne]; exact hne)
              go_wp2
              go_roundw
              case rel => exact ⟨k + 1, true, by omega, by go_num, rfl, Lib.hid (by rw [HS.out, HN.out]; rfl), hbw.alloc hbw.size _⟩
              case measure => simp [intOf]; omega
        · obtain rfl : k = D.m := by omega
          cases b
          · go_wp2
            go_roundw
            case rel =>
              refine ⟨j + 1, sj, by omega, by go_num, Lib.hid ?_, hWj.ext hbw, hkj.trans (Keep.of_below hbw)⟩
              rw [allLoop, if_neg (by unfold mayB; rw [hb.out]; simp), hst.out]
            case measure => simp [intOf]; omega
          · have hWr := hWj.ext hbw
            have hkr := hkj.trans (Keep.of_below (b := wB.heap.size + 3) hbw)
            have b0 := (hWr.bel.cell (World.block_lt_of_cell? wB _ Bp0)).trans Bp0
            have b1 := (hWr.bel.cell (World.block_lt_of_cell? wB _ Bp1)).trans Bp1
            have hps := Bplan.s.below hWr.bel Bplan.s.lt
            have cS := hps.cell hjt
            have hcase : (order.length ≤ 0 ∧ Hid (cst D order j = D.S j)) ∨ (∃ g l, 0 < order.length ∧ A = some ⟨g, 0, none⟩ ∧ l < D.n ∧ wr.cell? ⟨g, order.length - 1, none⟩ = some (.int .i64 (l : Nat)) ∧ Hid (cst D order j = D.C l j)) := by
              rcases Nat.eq_zero_or_pos order.length with h0 | h0
              · exact Or.inl ⟨by omega, Lib.hid (by rw [List.length_eq_zero_iff.1 h0]; rfl)⟩
              · obtain ⟨g, hA, hc⟩ := order_cells hown hkr
                exact Or.inr ⟨g, _, h0, hA h0, hlt _ (List.getElem_mem _), (hc (order.length - 1) (by omega)).2, Lib.hid (by unfold cst; rw [List.getLast?_eq_getElem?, List.getElem?_eq_getElem (by omega)])⟩
            rcases hcase with ⟨hl0, hcst⟩ | ⟨g', l, hl0, hA', hl, cl, hcst⟩
            · go_wp2_with fail
              have hcv := HD.out.s j hjt
              generalize hcvv : D.S j = cv at hcst hcv
              obtain ⟨wz, rfl⟩ : ∃ wz : World, wz = wr := ⟨_, rfl⟩
              have hWz := hWr
              have hkz := hkr
              clear hWr hkr b0 b1 cS hcvv
              have hownz := own_keep hown hkz
              have hS := cell_of_blk hWz.ca
              unfold fvAll at hS
              obtain ⟨cost2, hc2⟩ : ∃ cost2, cost2 = cost + cv := ⟨_, rfl⟩
              have hcb2 : cost2 ≤ 255 * (order.length + 1) := by omega
              have ew : IntKind.i64.wrap ((cost : Int) + (cv : Int)) = (cost2 : Int) := by rw [iwrap _ (by omega) (by omega), hc2]; simp
              have Hc2 := Lib.hid hc2
              have Hlen2 : Hid ((order ++ [j]).length + r = D.n) := Lib.hid (by have := HL.out; simp; omega)
              have Hnd2 : Hid ((order ++ [j]).Nodup) := Lib.hid (by
                rw [List.nodup_append]
                exact ⟨hnd, by simp, fun a ha b hb' => by simp at hb'; subst hb'; exact fun e => mayB_notin hb.out (e ▸ ha)⟩)
              have Hlt2 : Hid (∀ x ∈ order ++ [j], x < D.n) := Lib.hid (by
                intro x hx
                rcases List.mem_append.1 hx with hx | hx
                · exact hlt x hx
                · simp at hx; omega)
              have hwsz := hWz.size
              obtain ⟨i0, hi0, hz0, hz1, hz2⟩ := info_parts info3
              clear hc2
              go_region_held3 (fun w' => w'.cell? ⟨wB.heap.size + 2, 0, none⟩ = some (.func (.func 4) #[] #[.pointer (some ⟨bn, 0, none⟩), .pointer (some ⟨wB.heap.size + 1, 0, none⟩), .pointer (some ⟨wB.heap.size, 0, none⟩), .pointer (some ⟨bp, 0, none⟩), .pointer (some ⟨wB.heap.size + 2, 0, none⟩)]))
                (first | go_keep | exact hs3 | exact cell_next hS hbz | exact hs1)
                (first
                  | (go_at_call 5; refine (clone_any A _ c order _ (by omega) hA (by exact hownz)).mono ?_; rintro e w1 ⟨⟨A1, c1, rfl, hown1⟩, hb1⟩; have hs1 := cell_next_drew hS hb1; have hlow := OwnI.lower hown1 (show wB.heap.size + 3 ≤ wz.heap.size from hwsz); have hbx := below_undrew hb1; have hbo : wz.heap.size ≤ wz.drew.heap.size := Nat.le_refl _)
                  | (go_at_call 5; refine (clone_any A _ c order _ (by omega) hA (by exact hownz.alloc _)).mono ?_; rintro e w1 ⟨⟨A1, c1, rfl, hown1⟩, hb1⟩; have hbx := below_unalloc hb1; have hs1 := cell_next hS hbx; have hlow := OwnI.lower hown1 (show wB.heap.size + 3 ≤ (wz.alloc _).drew.heap.size by simp; omega); have hbo : wz.heap.size ≤ (wz.alloc (.cells #[.int .i64 (j : Nat)] 3)).drew.heap.size := (by simp); have hnb := (hb1.block wz.heap.size (by simp)).trans (blk_alloc_new wz _))
                  | (refine step_append_lies _ (by rfl) _ _ _ (by rfl) (wB.heap.size + 3) 3 i0 _ 1 8 Try.underlying24 hi0 hz0 hz1 hz2 rfl (by omega) _ order.length (order.map fun x => .int .i64 (x : Nat)) (by rfl) (hlow.alloc _) ⟨w1.heap.size, 0, none⟩ 1 1 [.int .i64 (j : Nat)] (by rfl) (by rfl) (World.news_of_block (cs := #[.int .i64 (j : Nat)]) (t := 3) (fr := (0, 0)) (blk_alloc_new w1 _)) (by simp [Value.oneCell']) (by omega) (by unfold maxLen; omega) (by omega) (by have := hb1.size; simp at this; simp; omega) (w1.heap.size + 1) (by simp) ?_; intro gg cap w2 hown2 hgrow hat hltg; have hbz := app_below (hbx.alloc hbx.size _) hown1 hbo hgrow)
                  | (refine step_append_lies _ (by rfl) _ _ _ (by rfl) (wB.heap.size + 3) 3 i0 _ 1 8 Try.underlying24 hi0 hz0 hz1 hz2 rfl (by omega) _ order.length (order.map fun x => .int .i64 (x : Nat)) (by rfl) hlow ⟨wz.heap.size, 0, none⟩ 1 1 [.int .i64 (j : Nat)] (by rfl) (by rfl) (World.news_of_block (cs := #[.int .i64 (j : Nat)]) (t := 3) (fr := (0, 0)) hnb) (by simp [Value.oneCell']) (by omega) (by unfold maxLen; omega) (by omega) (by have := hbx.size; omega) w1.heap.size (by rfl) ?_; intro gg cap w2 hown2 hgrow hat hltg; have hbz := app_below hbx hown1 hbo hgrow)
                  | (go_at_call 4; go_loud (refine (rec_call Hih.out hbz hown2 Hlen2.out Hnd2.out Hlt2.out hcb2 hWz).mono ?_; rintro e w3 ⟨rfl, hW3, hk3⟩; have hs3 := cell_of_blk hW3.ca; unfold fvAll at hs3)))
              all_goals
                go_wp2
                go_roundw
                case rel =>
                  refine ⟨j + 1, allF D r (order ++ [j]) cost2 sj, by omega, by go_num, Lib.hid ?_, hW3, hkz.trans hk3⟩
                  rw [allLoop, if_pos (by unfold mayB; rw [hb.out]), hst.out, hcst.out, ← Hc2.out]
                case measure => simp [intOf]; omega
            · have hp1' := Bplan.c.below hWr.bel Bplan.c.lt
              have hp2' := (Bplan.r l hl).below hWr.bel (Bplan.r l hl).lt
              have cC := hp1'.cell hl
              have cR := hp2'.cell hjt
              have hcv := HD.out.c l j hl hjt
              simp only at cC cR
              generalize hcvv : D.C l j = cv at hcst hcv cR
              have el : (order.length : Int) - 1 = ((order.length - 1 : Nat) : Int) := by omega
              subst hA'
              go_wp2_with fail
              go_region
              all_goals
                obtain ⟨wz, hwz⟩ : ∃ wz : World, wz = wr.drew := ⟨_, rfl⟩
                have hWz : AllW bn bp wB wz sj := by rw [hwz]; exact hWr.drew
                have hkz : Keep (wB.heap.size + 3) w wz := by rw [hwz]; exact hkr.drew
                rw [← hwz]
                clear hWr hkr b0 b1 cS hcvv hwz cC cR cl hbw hWj hkj hps hp1' hp2' el
                go_wp2_with fail
                have hownz := own_keep hown hkz
                have hS := cell_of_blk hWz.ca
                unfold fvAll at hS
                obtain ⟨cost2, hc2⟩ : ∃ cost2, cost2 = cost + cv := ⟨_, rfl⟩
                have hcb2 : cost2 ≤ 255 * (order.length + 1) := by omega
                have ew : IntKind.i64.wrap ((cost : Int) + (cv : Int)) = (cost2 : Int) := by rw [iwrap _ (by omega) (by omega), hc2]; simp
                have Hc2 := Lib.hid hc2
                have Hlen2 : Hid ((order ++ [j]).length + r = D.n) := Lib.hid (by have := HL.out; simp; omega)
                have Hnd2 : Hid ((order ++ [j]).Nodup) := Lib.hid (by
                  rw [List.nodup_append]
                  exact ⟨hnd, by simp, fun a ha b hb' => by simp at hb'; subst hb'; exact fun e => mayB_notin hb.out (e ▸ ha)⟩)
                have Hlt2 : Hid (∀ x ∈ order ++ [j], x < D.n) := Lib.hid (by
                  intro x hx
                  rcases List.mem_append.1 hx with hx | hx
                  · exact hlt x hx
                  · simp at hx; omega)
                have hwsz := hWz.size
                obtain ⟨i0, hi0, hz0, hz1, hz2⟩ := info_parts info3
                clear hc2
                go_region_held3 (fun w' => w'.cell? ⟨wB.heap.size + 2, 0, none⟩ = some (.func (.func 4) #[] #[.pointer (some ⟨bn, 0, none⟩), .pointer (some ⟨wB.heap.size + 1, 0, none⟩), .pointer (some ⟨wB.heap.size, 0, none⟩), .pointer (some ⟨bp, 0, none⟩), .pointer (some ⟨wB.heap.size + 2, 0, none⟩)]))
                  (first | go_keep | exact hs3 | exact cell_next hS hbz | exact hs1)
                  (first
                    | (go_at_call 5; refine (clone_any (some ⟨g', 0, none⟩) _ c order _ (by omega) hA (by exact hownz)).mono ?_; rintro e w1 ⟨⟨A1, c1, rfl, hown1⟩, hb1⟩; have hs1 := cell_next_drew hS hb1; have hlow := OwnI.lower hown1 (show wB.heap.size + 3 ≤ wz.heap.size from hwsz); have hbx := below_undrew hb1; have hbo : wz.heap.size ≤ wz.drew.heap.size := Nat.le_refl _)
                    | (go_at_call 5; refine (clone_any (some ⟨g', 0, none⟩) _ c order _ (by omega) hA (by exact hownz.alloc _)).mono ?_; rintro e w1 ⟨⟨A1, c1, rfl, hown1⟩, hb1⟩; have hbx := below_unalloc hb1; have hs1 := cell_next hS hbx; have hlow := OwnI.lower hown1 (show wB.heap.size + 3 ≤ (wz.alloc _).drew.heap.size by simp; omega); have hbo : wz.heap.size ≤ (wz.alloc (.cells #[.int .i64 (j : Nat)] 3)).drew.heap.size := (by simp); have hnb := (hb1.block wz.heap.size (by simp)).trans (blk_alloc_new wz _))
                    | (refine step_append_lies _ (by rfl) _ _ _ (by rfl) (wB.heap.size + 3) 3 i0 _ 1 8 Try.underlying24 hi0 hz0 hz1 hz2 rfl (by omega) _ order.length (order.map fun x => .int .i64 (x : Nat)) (by rfl) (hlow.alloc _) ⟨w1.heap.size, 0, none⟩ 1 1 [.int .i64 (j : Nat)] (by rfl) (by rfl) (World.news_of_block (cs := #[.int .i64 (j : Nat)]) (t := 3) (fr := (0, 0)) (blk_alloc_new w1 _)) (by simp [Value.oneCell']) (by omega) (by unfold maxLen; omega) (by omega) (by have := hb1.size; simp at this; simp; omega) (w1.heap.size + 1) (by simp) ?_; intro gg cap w2 hown2 hgrow hat hltg; have hbz := app_below (hbx.alloc hbx.size _) hown1 hbo hgrow)
                    | (refine step_append_lies _ (by rfl) _ _ _ (by rfl) (wB.heap.size + 3) 3 i0 _ 1 8 Try.underlying24 hi0 hz0 hz1 hz2 rfl (by omega) _ order.length (order.map fun x => .int .i64 (x : Nat)) (by rfl) hlow ⟨wz.heap.size, 0, none⟩ 1 1 [.int .i64 (j : Nat)] (by rfl) (by rfl) (World.news_of_block (cs := #[.int .i64 (j : Nat)]) (t := 3) (fr := (0, 0)) hnb) (by simp [Value.oneCell']) (by omega) (by unfold maxLen; omega) (by omega) (by have := hbx.size; omega) w1.heap.size (by rfl) ?_; intro gg cap w2 hown2 hgrow hat hltg; have hbz := app_below hbx hown1 hbo hgrow)
                    | (go_at_call 4; go_loud (refine (rec_call Hih.out hbz hown2 Hlen2.out Hnd2.out Hlt2.out hcb2 hWz).mono ?_; rintro e w3 ⟨rfl, hW3, hk3⟩; have hs3 := cell_of_blk hW3.ca; unfold fvAll at hs3)))
                all_goals
                  go_wp2
                  go_roundw
                  case rel =>
                    refine ⟨j + 1, allF D r (order ++ [j]) cost2 sj, by omega, by go_num, Lib.hid ?_, hW3, hkz.trans hk3⟩
                    rw [allLoop, if_pos (by unfold mayB; rw [hb.out]), hst.out, hcst.out, ← Hc2.out]
                  case measure => simp [intOf]; omega
        
    · obtain rfl : j = D.n := by omega
      go_wp2
      go_end0
      refine ⟨rfl, ?_, hkj⟩
      rw [allF, hupd.out, hst.out]
      exact hWj
end Go.Proofs.Ytfdjdhjiaacjfaa.W
