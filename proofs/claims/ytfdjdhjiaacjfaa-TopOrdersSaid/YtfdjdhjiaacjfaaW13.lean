/- Walks: the function 'all' of TopOrders, at orders that are full. -/
import Derived.Test.YtfdjdhjiaacjfaaW12
namespace Go.Proofs.Ytfdjdhjiaacjfaa.W
open Go Go.RowKit Go.Deep Go.Proofs.Ytfdjdhjiaacjfaa.Kx

set_option maxRecDepth 100000 in
set_option maxHeartbeats 4000000 in
theorem all_zero (D : PlanD) (L : Loc) (bn bp : Nat) (wB : World) (hD : D.Ok) (hB : AllB D L bn bp wB) : AllCalls D bn bp wB 0 := by
  intro order cost st w A c hlen hnd hlt hown hA hcost hW
  obtain ⟨bs, cs, bc, cc, R, Rc, LA, bb, cb⟩ := L
  obtain ⟨Bn, Bp0, Bp1, Bp2, Bplan⟩ := hB
  simp only at Bp0 Bp1 Bp2
  have hn1 := hD.n1
  have hn6 := hD.n6
  have hm8 := hD.m8
  have hbn := World.block_lt_of_cell? wB _ Bn
  simp only at hbn
  have cn := (hW.bel.cell (World.block_lt_of_cell? wB _ Bn)).trans Bn
  have cl := cell_of_blk hW.cl
  obtain ⟨Ab, cbb, hb1, hb2, hb3⟩ := hW.cb
  have cbest := cell_of_blk hb1
  have fl := frozen_of_blk hW.cl 0
  have fb := frozen_of_blk hb1 0
  have eqn : (((order.length : Nat) : Int) == (D.n : Int)) = true := by rw [nat_beq]; simp; omega
  have hle : order.length ≤ 6 := by omega
  have hpos : 0 < order.length := by omega
  have HL : Hid (order.length = D.n) := Lib.hid (by omega)
  have hin : Hid (∀ j, j < D.n → j ∈ order) := Lib.hid (fun j hj => mem_of_full D.n order hnd hlt (by omega) j hj)
  have HA0 : Hid (0 < D.m → LA = some ⟨bb, 0, none⟩) := Lib.hid Bplan.A
  have hbb : 0 < D.m → bb < wB.heap.size := fun h => (Bplan.b h).lt
  have HP : Hid (∀ k, k < D.m → wB.cell? ⟨bb, k * 2, none⟩ = some (.int .i64 (D.B0 k)) ∧ wB.cell? ⟨bb, k * 2 + 1, none⟩ = some (.int .i64 (D.B1 k))) := Lib.hid (fun k hk => by
    have hb := Bplan.b (by omega)
    simp only at hb
    refine ⟨?_, ?_⟩
    · rw [hb.cell (by omega)]; simp
    · rw [hb.cell (by omega), mod_two, div_two]; simp)
  clear hlen hb2 hb3
  by_cases hc : cost < st.1
  · have hc' : decide ((cost : Int) < (st.1 : Int)) = true := by simp; omega
    have hfin : Hid (allF D 0 order cost st = (cost, order)) := Lib.hid (by rw [allF, updB, if_pos ⟨HL.out, hc⟩])
    go_enter Try.func4, Try.ntmps4
    go_wp2_with (go_at_call 5; refine (clone_any A _ c order _ (by omega) hA hown).mono ?_; rintro e w1 ⟨⟨A1, c1, rfl, hown1⟩, hb1⟩; have cl1 := cell_next cl hb1; have cb1 := cell_next cbest hb1; have fl1 := (hb1.frozen (p := ⟨wB.heap.size + 1, 0, none⟩) (by have := hW.size; simp; omega)).trans fl; have fb1 := (hb1.frozen (p := ⟨wB.heap.size, 0, none⟩) (by have := hW.size; simp; omega)).trans fb; have cn1 := cell_next cn hb1)
    have hst := (hW.ext hb1).store (cost := cost) (OwnI.lower hown1 (show wB.heap.size + 3 ≤ w.heap.size from hW.size)) hpos
    obtain ⟨W, hWe⟩ : ∃ W, W = ((w1.setCell ⟨wB.heap.size, 0, none⟩ (.slice A1 order.length c1)).setCell ⟨wB.heap.size + 1, 0, none⟩ (.int .i64 (cost : Nat))) := ⟨_, rfl⟩
    rw [← hWe] at hst ⊢
    have hW1 := hst.1
    have hk1 : Keep (wB.heap.size + 3) w W := (Keep.of_below hb1).trans hst.2
    clear hWe hst cl1 cb1 fl1 fb1 cn1 hown1 hb1 cn cl cbest fl fb hW
    go_loopw [27] (fun jv wr => ∃ j : Nat, j ≤ D.n ∧ jv = .int .i64 j ∧ AllW bn bp wB wr (cost, order) ∧ Keep (wB.heap.size + 3) w wr) (fun jv _ => D.n - (intOf jv).toNat)
    case atStart => exact ⟨0, Nat.zero_le _, rfl, hW1, hk1⟩
    case round =>
      clear hW1 hk1
      obtain ⟨j, hj, rfl, hWj, hkj⟩ := hrel
      by_cases hjt : j < D.n
      · obtain ⟨g, hAg, hg⟩ := order_cells hown hkj
        have hcon := contains_any A g c order j wr (by omega) hAg (fun i hi => (hg i hi).2)
        rw [decide_eq_true (hin.out j hjt)] at hcon
        have Hcon := Lib.hid hcon
        have p2 := (hWj.bel.cell (World.block_lt_of_cell? wB _ Bp2)).trans Bp2
        clear hg hAg hcon
        go_wp2_with (go_at_call 6; refine Hcon.out.mono ?_; rintro e w6 ⟨rfl, rfl⟩)
        obtain ⟨wj, rfl⟩ : ∃ wj : World, wj = wr := ⟨_, rfl⟩
        go_loopw [10, 37] (fun bv kv wr => ∃ (k : Nat), k ≤ D.m ∧ kv = .int .i64 k ∧ bv = .bool false ∧ Below wj.heap.size wj wr) (fun _ kv _ => D.m - (intOf kv).toNat)
        case atStart => exact ⟨0, Nat.zero_le _, rfl, rfl, Below.refl _ _⟩
        case round =>
          obtain ⟨k, hk, rfl, rfl, hbw⟩ := hrel
          by_cases hkt : k < D.m
          · have hcp := HP.out k hkt
            have hbbk := hbb (by omega)
            have hszj := hWj.size
            have cx := (hbw.cell (p := ⟨bb, k * 2, none⟩) (by simp; omega)).trans ((hWj.bel.cell (p := ⟨bb, k * 2, none⟩) hbbk).trans hcp.1)
            have cy := (hbw.cell (p := ⟨bb, k * 2 + 1, none⟩) (by simp; omega)).trans ((hWj.bel.cell (p := ⟨bb, k * 2 + 1, none⟩) hbbk).trans hcp.2)
            have hA0 := HA0.out (by omega)
            subst hA0
            clear hcp
            go_wp2
            go_roundw
            case rel => exact ⟨k + 1, by omega, by go_num, rfl, hbw.alloc hbw.size _⟩
            case measure => simp [intOf]; omega
          · obtain rfl : k = D.m := by omega
            go_wp2
            go_roundw
            case rel => exact ⟨j + 1, by omega, by go_num, hWj.ext hbw, hkj.trans (Keep.of_below hbw)⟩
            case measure => simp [intOf]; omega
      · obtain rfl : j = D.n := by omega
        go_wp2
        go_end0
        exact ⟨rfl, by rw [hfin.out]; exact hWj, hkj⟩
  · have hc' : decide ((cost : Int) < (st.1 : Int)) = false := by simp; omega
    have hfin : Hid (allF D 0 order cost st = st) := Lib.hid (by rw [allF, updB, if_neg (fun h => hc h.2)])
    go_enter Try.func4, Try.ntmps4
    go_wp2_with fail
    have hW1 := hW
    have hk1 : Keep (wB.heap.size + 3) w w := Keep.refl _ _
    clear cn cl cbest fl fb hW hb1
    go_loopw [27] (fun jv wr => ∃ j : Nat, j ≤ D.n ∧ jv = .int .i64 j ∧ AllW bn bp wB wr st ∧ Keep (wB.heap.size + 3) w wr) (fun jv _ => D.n - (intOf jv).toNat)
    case atStart => exact ⟨0, Nat.zero_le _, rfl, hW1, hk1⟩
    case round =>
      clear hW1 hk1
      obtain ⟨j, hj, rfl, hWj, hkj⟩ := hrel
      by_cases hjt : j < D.n
      · obtain ⟨g, hAg, hg⟩ := order_cells hown hkj
        have hcon := contains_any A g c order j wr (by omega) hAg (fun i hi => (hg i hi).2)
        rw [decide_eq_true (hin.out j hjt)] at hcon
        have Hcon := Lib.hid hcon
        have p2 := (hWj.bel.cell (World.block_lt_of_cell? wB _ Bp2)).trans Bp2
        clear hg hAg hcon
        go_wp2_with (go_at_call 6; refine Hcon.out.mono ?_; rintro e w6 ⟨rfl, rfl⟩)
        obtain ⟨wj, rfl⟩ : ∃ wj : World, wj = wr := ⟨_, rfl⟩
        go_loopw [10, 37] (fun bv kv wr => ∃ (k : Nat), k ≤ D.m ∧ kv = .int .i64 k ∧ bv = .bool false ∧ Below wj.heap.size wj wr) (fun _ kv _ => D.m - (intOf kv).toNat)
        case atStart => exact ⟨0, Nat.zero_le _, rfl, rfl, Below.refl _ _⟩
        case round =>
          obtain ⟨k, hk, rfl, rfl, hbw⟩ := hrel
          by_cases hkt : k < D.m
          · have hcp := HP.out k hkt
            have hbbk := hbb (by omega)
            have hszj := hWj.size
            have cx := (hbw.cell (p := ⟨bb, k * 2, none⟩) (by simp; omega)).trans ((hWj.bel.cell (p := ⟨bb, k * 2, none⟩) hbbk).trans hcp.1)
            have cy := (hbw.cell (p := ⟨bb, k * 2 + 1, none⟩) (by simp; omega)).trans ((hWj.bel.cell (p := ⟨bb, k * 2 + 1, none⟩) hbbk).trans hcp.2)
            have hA0 := HA0.out (by omega)
            subst hA0
            clear hcp
            go_wp2
            go_roundw
            case rel => exact ⟨k + 1, by omega, by go_num, rfl, hbw.alloc hbw.size _⟩
            case measure => simp [intOf]; omega
          · obtain rfl : k = D.m := by omega
            go_wp2
            go_roundw
            case rel => exact ⟨j + 1, by omega, by go_num, hWj.ext hbw, hkj.trans (Keep.of_below hbw)⟩
            case measure => simp [intOf]; omega
      · obtain rfl : j = D.n := by omega
        go_wp2
        go_end0
        exact ⟨rfl, by rw [hfin.out]; exact hWj, hkj⟩
end Go.Proofs.Ytfdjdhjiaacjfaa.W
