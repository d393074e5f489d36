/- The walk of TopOrders: the plan is built. -/
import Derived.Test.YtfdjdhjiaacjfaaM9
namespace Go.Proofs.Ytfdjdhjiaacjfaa.W
open Go Go.RowKit Go.Deep Go.Proofs.Ytfdjdhjiaacjfaa.Kx

set_option maxRecDepth 100000 in
set_option maxHeartbeats 4000000 in
theorem top_any (bl ol bb ob ll mm c0 c1 : Nat) (A0 A1 : Option Addr) (lf bf : Nat → Nat → Nat) (w : World)
    (hA0 : 0 < ll → A0 = some ⟨bl, ol, none⟩) (hA1 : 0 < mm → A1 = some ⟨bb, ob, none⟩) (hmm : mm ≤ c1)
    (hcl : ∀ k q, k < ll → q < 7 → w.cell? ⟨bl, ol + k * 7 + q, none⟩ = some (.int .u8 (lf k q)) ∧ lf k q ≤ 255)
    (hcb : ∀ k q, k < mm → q < 2 → w.cell? ⟨bb, ob + k * 2 + q, none⟩ = some (.int .u8 (bf k q)) ∧ bf k q ≤ 255) :
    Calls Try.prog 3 #[.slice A0 ll c0, .slice A1 mm c1] w fun e w' => e = .returned (.bool true) ∧ Below w.heap.size w w' := by
  obtain ⟨n, hn⟩ : ∃ n, n = max 1 (min ll 6) := ⟨_, rfl⟩
  obtain ⟨l6, hl6⟩ : ∃ l6, l6 = min ll 6 := ⟨_, rfl⟩
  have e6 : min (ll : Int) 6 = (l6 : Int) := by rw [hl6]; omega
  have en : max (1 : Int) (l6 : Int) = (n : Int) := by rw [hn, hl6]; omega
  have hn1 : 1 ≤ n := by omega
  have hn6 : n ≤ 6 := by omega
  have Hn := Lib.hid hn
  clear hn hl6
  obtain ⟨Sf, hS⟩ : ∃ Sf : Nat → Nat, ∀ x, Sf x = if x < ll then lf x 0 else 0 := ⟨_, fun _ => rfl⟩
  obtain ⟨Cf, hC⟩ : ∃ Cf : Nat → Nat → Nat, ∀ x j, Cf x j = if x < ll then lf x (1 + j) else 0 := ⟨_, fun _ _ => rfl⟩
  have HL : Hid (∀ k, k < ll → A0 = some ⟨bl, ol, none⟩ ∧ (w.cell? ⟨bl, ol + k * 7, none⟩ = some (.int .u8 (Sf k)) ∧ ∀ j, j < 6 → w.cell? ⟨bl, ol + k * 7 + (j + 1), none⟩ = some (.int .u8 (Cf k j)))) := Lib.hid (fun k hk => by
    refine ⟨hA0 (by omega), ?_, fun j hj => ?_⟩
    · rw [hS, if_pos hk]; exact (hcl k 0 hk (by omega)).1
    · rw [hC, if_pos hk, Nat.add_comm 1 j]; exact (hcl k (j + 1) hk (by omega)).1)
  have hSb : ∀ x, Sf x ≤ 255 := fun x => by
    rw [hS]; split
    · exact (hcl x 0 (by omega) (by omega)).2
    · omega
  have hCb : ∀ x j, j < 6 → Cf x j ≤ 255 := fun x j hj => by
    rw [hC]; split
    · exact (hcl x (1 + j) (by omega) (by omega)).2
    · omega
  have HS0 : Hid (∀ x, ¬ x < ll → Sf x = 0) := Lib.hid (fun x hx => by rw [hS, if_neg hx])
  have HC0 : Hid (∀ x, ¬ x < ll → ∀ j, Cf x j = 0) := Lib.hid (fun x hx j => by rw [hC, if_neg hx])
  clear hS hC hcl hA0
  go_enter Try.func3, Try.ntmps3
  go_wp2_with (first
    | (with_reducible refine wpList_mini rfl (.tmp 28) (.const (.int .i64 6)) _ rfl _ _ _ rfl rfl e6 ?_)
    | (with_reducible refine wpList_maxi rfl (.const (.int .i64 1)) (.tmp 29) _ rfl _ _ _ rfl rfl en ?_))
  go_loopw [33] (fun iv wr => ∃ (i : Nat) (vs vc : Value) (R Rc : Nat → Nat), i ≤ n ∧ iv = .int .i64 i ∧ PB n Sf Cf w wr i i vs vc R Rc) (fun iv _ => n - (intOf iv).toNat)
  case atStart => exact ⟨0, _, _, _, _, Nat.zero_le _, rfl, PB.begin n Sf Cf w⟩
  case round =>
    obtain ⟨i, vs, vc, R, Rc, hi, rfl, hP⟩ := hrel
    by_cases hlt : i < n
    · have p0 := cell_al (cell3_0 hP.cp)
      have hsz := hP.size
      have hos := Lib.hid hP.os
      by_cases hil : i < ll
      · obtain ⟨rfl, kS, kC⟩ := HL.out i hil
        have k0 := cell_al ((hP.bel.cell (World.block_lt_of_cell? w _ kS)).trans kS)
        have k1 := cell_al ((hP.bel.cell (World.block_lt_of_cell? w _ (kC 0 (by omega)))).trans (kC 0 (by omega)))
        have k2 := cell_al ((hP.bel.cell (World.block_lt_of_cell? w _ (kC 1 (by omega)))).trans (kC 1 (by omega)))
        have k3 := cell_al ((hP.bel.cell (World.block_lt_of_cell? w _ (kC 2 (by omega)))).trans (kC 2 (by omega)))
        have k4 := cell_al ((hP.bel.cell (World.block_lt_of_cell? w _ (kC 3 (by omega)))).trans (kC 3 (by omega)))
        have k5 := cell_al ((hP.bel.cell (World.block_lt_of_cell? w _ (kC 4 (by omega)))).trans (kC 4 (by omega)))
        have k6 := cell_al ((hP.bel.cell (World.block_lt_of_cell? w _ (kC 5 (by omega)))).trans (kC 5 (by omega)))
        simp only [Nat.zero_add, Nat.reduceAdd] at k1 k2 k3 k4 k5 k6
        have b0 := hSb i
        have hbox := box7 wr (.int .u8 (Sf i)) (Cf i) 31
        have hP1 := hP.ext ((Below.refl _ _).alloc (Nat.le_refl _) (.cells #[.int .u8 (Sf i), .int .u8 (Cf i 0), .int .u8 (Cf i 1), .int .u8 (Cf i 2), .int .u8 (Cf i 3), .int .u8 (Cf i 4), .int .u8 (Cf i 5)] 31))
        have Hbox := Lib.hid hbox
        have HP1 := Lib.hid hP1
        clear kS kC hP hbox hP1
        go_wp2_with (at_builtin; go_loud (refine append_one (W := wr.alloc _) (w.heap.size + 2) rfl (.tmp 46) (.tmp 50) 24 3 (.int .i64 0) 1 8 _ rfl Try.underlying24 info3 rfl (by decide) (by decide) _ _ _ rfl _ rfl (by simp) rfl (by simp [Value.oneCell']) (hos.out.alloc _) (by simp; omega) (by omega) ?_; intro g cap w1 hown hg hat; obtain ⟨q0, q1, q2⟩ := HP1.out.lowS hg))
        have hown' : w1.ownsRow (w.heap.size + 2) 3 1 (.slice (some ⟨g, 0, none⟩) (i + 1) cap) (i + 1) ((List.range (i + 1)).map fun x => .int .i64 (Sf x : Nat)) := by
          rw [← range_snoc]; exact hown
        clear hown
        have hQ := HP1.out.start rfl hown' hg hat
        have hbx : Row (w1.setCell ⟨w.heap.size + 1, 0, none⟩ (.slice (some ⟨g, 0, none⟩) (i + 1) cap)) wr.heap.size 31 7 (fun q => if q = 0 then .int .u8 (Sf i) else .int .u8 (Cf i (q - 1))) :=
          (Hbox.out.of_block (hg.block _ Hbox.out.lt (fun e => by have := (hos.out.lt _ e.symm).2; omega))).setOther (by simp; omega) _
        obtain ⟨wo, hwo⟩ : ∃ wo, wo = (w1.setCell ⟨w.heap.size + 1, 0, none⟩ (.slice (some ⟨g, 0, none⟩) (i + 1) cap)) := ⟨_, rfl⟩
        rw [← hwo] at hQ hbx ⊢
        obtain ⟨vs', hvs⟩ : ∃ vs' : Value, vs' = .slice (some ⟨g, 0, none⟩) (i + 1) cap := ⟨_, rfl⟩
        rw [← hvs] at hQ
        have HQ := Lib.hid hQ
        have Hbx := Lib.hid hbx
        have hsQ := hQ.size
        have hb8 := hbx.lt
        clear hQ hbx q0 q1 q2 hown' hg hat hwo HP1 hos Hbox hvs
        go_loopw [9, 54] (fun rv jv wr => ∃ (j : Nat), j ≤ n ∧ jv = .int .i64 j ∧ wr.ownsRow wo.heap.size 3 1 rv j ((List.range j).map fun x => .int .i64 (Cf i x : Nat)) ∧ Below wo.heap.size wo wr) (fun _ jv _ => n - (intOf jv).toNat)
        case atStart => exact ⟨0, Nat.zero_le _, rfl, World.ownsRow_nil _ _ _ _, Below.refl _ _⟩
        case round =>
          obtain ⟨j, hj, rfl, hown, hbel⟩ := hrel
          by_cases hjt : j < n
          · have cj := (hbel.cell (World.block_lt_of_cell? wo _ (Hbx.out.cell (i := 1 + j) (by omega)))).trans (Hbx.out.cell (i := 1 + j) (by omega))
            rw [if_neg (by omega), show 1 + j - 1 = j by omega] at cj
            have bj := hCb i j (by omega)
            go_wp2_with (at_builtin; go_loud (refine append_one wo.heap.size rfl (.tmp 57) (.tmp 63) 24 3 (.int .i64 0) 1 8 _ rfl Try.underlying24 info3 rfl (by decide) (by decide) _ _ _ rfl _ rfl rfl rfl (by simp [Value.oneCell']) hown hbel.size (by omega) ?_; intro g2 cap2 w2 hown2 hg2 hat2))
            go_roundw
            case rel => exact ⟨j + 1, by omega, by go_num, by rw [← range_snoc]; exact hown2, hbel.grown hg2 hbel.size (fun k hk => (hown.lt k hk).1)⟩
            case measure => simp [intOf]; omega
          · obtain rfl : j = n := by omega
            obtain ⟨r, rc, rfl, hr0, hrow⟩ := row_of_own hown (by omega)
            have hrow' : Row wr r 3 j (fun x => .int .i64 (Cf i x : Nat)) := by
              rw [Nat.mul_one] at hrow
              exact hrow.congr (fun x hx => by rw [List.getD_eq_getElem?_getD]; simp [hx])
            have hP2 := HQ.out.ext hbel
            have hr1 : vs'.ownBlock ≠ some r := fun e => by have := (HQ.out.os.lt _ e).2; omega
            have hr2 : vc.ownBlock ≠ some r := fun e => by have := (HQ.out.oc.lt _ e).2; omega
            have p1 := cell3_1 hP2.cp
            have hszr := hbel.size
            have HP2 := Lib.hid hP2
            have Hrow := Lib.hid hrow'
            clear hP2 hrow hrow' hown HQ Hbx hbel
            go_wp2_with (at_builtin; go_loud (refine append_one (W := wr) (w.heap.size + 2) rfl (.tmp 67) (.tmp 69) 25 24 (.slice none 0 0) 1 24 _ rfl Try.underlying25 info24 rfl (by decide) (by decide) _ _ _ rfl _ rfl rfl rfl (by simp [Value.oneCell']) HP2.out.oc (by omega) (by omega) ?_; intro g3 cap3 w3 hown3 hg3 hat3; obtain ⟨q3, q4, q5⟩ := HP2.out.lowC hg3))
            go_roundw
            case rel => exact ⟨i + 1, vs', _, _, _, by omega, by go_num, HP2.out.change rfl r rc Hrow.out (by omega) hr1 hr2 hown3 hg3 hat3⟩
            case measure => simp [intOf]; omega
      · have k0 := HS0.out i hil
        have k1 := HC0.out i hil
        have hP1 := hP.ext ((Below.refl _ _).alloc (Nat.le_refl _) (.cells #[.int .u8 0, .int .u8 0, .int .u8 0, .int .u8 0, .int .u8 0, .int .u8 0, .int .u8 0] 31))
        have hbox := box7z wr (Cf i) k1 (.int .u8 (Sf i)) (by rw [k0]; rfl) 31
        have Hbox := Lib.hid hbox
        have HP1 := Lib.hid hP1
        have K0 := Lib.hid k0
        clear hP hbox hP1 k0 k1
        go_wp2_with (at_builtin; go_loud (refine append_one (W := wr.alloc _) (w.heap.size + 2) rfl (.tmp 46) (.tmp 50) 24 3 (.int .i64 0) 1 8 _ rfl Try.underlying24 info3 rfl (by decide) (by decide) _ _ _ rfl _ rfl (by simp) rfl (by simp [Value.oneCell']) (hos.out.alloc _) (by simp; omega) (by omega) ?_; intro g cap w1 hown hg hat; obtain ⟨q0, q1, q2⟩ := HP1.out.lowS hg))
        have hown' : w1.ownsRow (w.heap.size + 2) 3 1 (.slice (some ⟨g, 0, none⟩) (i + 1) cap) (i + 1) ((List.range (i + 1)).map fun x => .int .i64 (Sf x : Nat)) := by
          have e := range_snoc (fun x => Value.int .i64 (Sf x : Nat)) i
          simp only [K0.out] at e
          rw [← e]; exact hown
        clear hown
        have hQ := HP1.out.start rfl hown' hg hat
        have hbx : Row (w1.setCell ⟨w.heap.size + 1, 0, none⟩ (.slice (some ⟨g, 0, none⟩) (i + 1) cap)) wr.heap.size 31 7 (fun q => if q = 0 then .int .u8 (Sf i) else .int .u8 (Cf i (q - 1))) :=
          (Hbox.out.of_block (hg.block _ Hbox.out.lt (fun e => by have := (hos.out.lt _ e.symm).2; omega))).setOther (by simp; omega) _
        obtain ⟨wo, hwo⟩ : ∃ wo, wo = (w1.setCell ⟨w.heap.size + 1, 0, none⟩ (.slice (some ⟨g, 0, none⟩) (i + 1) cap)) := ⟨_, rfl⟩
        rw [← hwo] at hQ hbx ⊢
        obtain ⟨vs', hvs⟩ : ∃ vs' : Value, vs' = .slice (some ⟨g, 0, none⟩) (i + 1) cap := ⟨_, rfl⟩
        rw [← hvs] at hQ
        have HQ := Lib.hid hQ
        have Hbx := Lib.hid hbx
        have hsQ := hQ.size
        have hb8 := hbx.lt
        clear hQ hbx q0 q1 q2 hown' hg hat hwo HP1 hos Hbox hvs
        go_loopw [9, 54] (fun rv jv wr => ∃ (j : Nat), j ≤ n ∧ jv = .int .i64 j ∧ wr.ownsRow wo.heap.size 3 1 rv j ((List.range j).map fun x => .int .i64 (Cf i x : Nat)) ∧ Below wo.heap.size wo wr) (fun _ jv _ => n - (intOf jv).toNat)
        case atStart => exact ⟨0, Nat.zero_le _, rfl, World.ownsRow_nil _ _ _ _, Below.refl _ _⟩
        case round =>
          obtain ⟨j, hj, rfl, hown, hbel⟩ := hrel
          by_cases hjt : j < n
          · have cj := (hbel.cell (World.block_lt_of_cell? wo _ (Hbx.out.cell (i := 1 + j) (by omega)))).trans (Hbx.out.cell (i := 1 + j) (by omega))
            rw [if_neg (by omega), show 1 + j - 1 = j by omega] at cj
            have bj := hCb i j (by omega)
            go_wp2_with (at_builtin; go_loud (refine append_one wo.heap.size rfl (.tmp 57) (.tmp 63) 24 3 (.int .i64 0) 1 8 _ rfl Try.underlying24 info3 rfl (by decide) (by decide) _ _ _ rfl _ rfl rfl rfl (by simp [Value.oneCell']) hown hbel.size (by omega) ?_; intro g2 cap2 w2 hown2 hg2 hat2))
            go_roundw
            case rel => exact ⟨j + 1, by omega, by go_num, by rw [← range_snoc]; exact hown2, hbel.grown hg2 hbel.size (fun k hk => (hown.lt k hk).1)⟩
            case measure => simp [intOf]; omega
          · obtain rfl : j = n := by omega
            obtain ⟨r, rc, rfl, hr0, hrow⟩ := row_of_own hown (by omega)
            have hrow' : Row wr r 3 j (fun x => .int .i64 (Cf i x : Nat)) := by
              rw [Nat.mul_one] at hrow
              exact hrow.congr (fun x hx => by rw [List.getD_eq_getElem?_getD]; simp [hx])
            have hP2 := HQ.out.ext hbel
            have hr1 : vs'.ownBlock ≠ some r := fun e => by have := (HQ.out.os.lt _ e).2; omega
            have hr2 : vc.ownBlock ≠ some r := fun e => by have := (HQ.out.oc.lt _ e).2; omega
            have p1 := cell3_1 hP2.cp
            have hszr := hbel.size
            have HP2 := Lib.hid hP2
            have Hrow := Lib.hid hrow'
            clear hP2 hrow hrow' hown HQ Hbx hbel
            go_wp2_with (at_builtin; go_loud (refine append_one (W := wr) (w.heap.size + 2) rfl (.tmp 67) (.tmp 69) 25 24 (.slice none 0 0) 1 24 _ rfl Try.underlying25 info24 rfl (by decide) (by decide) _ _ _ rfl _ rfl rfl rfl (by simp [Value.oneCell']) HP2.out.oc (by omega) (by omega) ?_; intro g3 cap3 w3 hown3 hg3 hat3; obtain ⟨q3, q4, q5⟩ := HP2.out.lowC hg3))
            go_roundw
            case rel => exact ⟨i + 1, vs', _, _, _, by omega, by go_num, HP2.out.change rfl r rc Hrow.out (by omega) hr1 hr2 hown3 hg3 hat3⟩
            case measure => simp [intOf]; omega
    · obtain rfl : i = n := by omega
      obtain ⟨bs, cs, rfl, hbs, hrs⟩ := row_of_own hP.os (by omega)
      obtain ⟨bc, cc, rfl, hbc, hrc⟩ := row_of_own hP.oc (by omega)
      have hP0 : PC w wr wr (.slice (some ⟨bs, 0, none⟩) i cs) (.slice (some ⟨bc, 0, none⟩) i cc) (.slice none 0 0) [] := ⟨hP.bel, fun _ _ _ => rfl, Nat.le_refl _, hP.cp, World.ownsRow_nil _ _ _ _⟩
      have hsz := hP.size
      have HP := Lib.hid hP
      have Hrs := Lib.hid hrs
      have Hrc := Lib.hid hrc
      obtain ⟨m8, hm8⟩ : ∃ m8, m8 = min mm 8 := ⟨_, rfl⟩
      have em : min (mm : Int) 8 = (m8 : Int) := by rw [hm8]; omega
      have hm : m8 ≤ mm := by omega
      have hmc : m8 ≤ c1 := by omega
      have hm' : m8 ≤ 8 := by omega
      obtain ⟨w2, hw2⟩ : ∃ w2 : World, w2 = wr := ⟨_, rfl⟩
      clear hP hrs hrc hm8
      go_wp2_with (with_reducible refine wpList_mini rfl (.tmp 75) (.const (.int .i64 8)) _ rfl _ _ _ rfl rfl em ?_)
      have Hcb := Lib.hid hcb
      clear hcb
      replace hP0 : PC w w2 wr (.slice (some ⟨bs, 0, none⟩) i cs) (.slice (some ⟨bc, 0, none⟩) i cc) (.slice none 0 0) [] := by rw [hw2]; exact hP0
      go_loopw [79] (fun kv wr => ∃ (k : Nat) (vb : Value), k ≤ m8 ∧ kv = .int .i64 k ∧ PC w w2 wr (.slice (some ⟨bs, 0, none⟩) i cs) (.slice (some ⟨bc, 0, none⟩) i cc) vb (prK i bf k)) (fun kv _ => m8 - (intOf kv).toNat)
      case atStart => exact ⟨0, _, Nat.zero_le _, rfl, hP0⟩
      case round =>
        rw [← hw2] at HP Hrs Hrc hsz
        clear hP0 hw2
        obtain ⟨k, vb, hk, rfl, hQ⟩ := hrel
        by_cases hkt : k < m8
        · obtain rfl := hA1 (by omega)
          have k0 := (hQ.bel.cell (World.block_lt_of_cell? w _ (Hcb.out k 0 (by omega) (by omega)).1)).trans (Hcb.out k 0 (by omega) (by omega)).1
          have k1 := (hQ.bel.cell (World.block_lt_of_cell? w _ (Hcb.out k 1 (by omega) (by omega)).1)).trans (Hcb.out k 1 (by omega) (by omega)).1
          simp only [Nat.add_zero] at k0
          have b0 := (Hcb.out k 0 (by omega) (by omega)).2
          have b1 := (Hcb.out k 1 (by omega) (by omega)).2
          have kn := cell_al (cell_of_blk ((hQ.keep w.heap.size (by omega) (by omega)).trans HP.out.cn))
          have k2 := cell_al (cell3_2 hQ.cp)
          have hlk := prK_len i bf k
          have HQ := Lib.hid hQ
          have Hob := Lib.hid hQ.ob
          have hszq := hQ.size
          clear hQ
          by_cases hne : bf k 0 % i = bf k 1 % i
          · go_wp2
            go_region
            all_goals go_wp2
            go_roundw
            case rel => exact ⟨k + 1, vb, by omega, by go_num, by rw [prK, if_pos hne]; exact (HQ.out.ext hsz ((Below.refl _ _).alloc (Nat.le_refl _) _)).drew⟩
            case measure => simp [intOf]; omega
          · have hne' : ((bf k 0 : Int) % (i : Int) != (bf k 1 : Int) % (i : Int)) = true := by
              rw [← Int.natCast_emod, ← Int.natCast_emod, nat_bne]; simpa using hne
            have HQ1 := Lib.hid (HQ.out.ext hsz ((Below.refl _ _).alloc (Nat.le_refl _) (.cells #[.int .u8 (bf k 0), .int .u8 (bf k 1)] 32))).drew
            go_wp2
            go_region
            all_goals
              go_wp2_with (at_builtin; go_loud (refine append_one (W := (wr.alloc _).drew) w2.heap.size rfl (.tmp 97) (.tmp 101) 26 33 (.agg #[.int .i64 0, .int .i64 0]) 2 16 _ rfl Try.underlying26 info33 rfl (by decide) (by decide) _ _ _ rfl _ rfl (by simp) rfl (by simp [Value.oneCell']) HQ1.out.ob (HQ1.out.size) (by omega) ?_; intro g3 cap3 w3 hown3 hg3 hat3; obtain ⟨q3, q4⟩ := HQ1.out.low hsz hg3))
              go_roundw
              case rel =>
                refine ⟨k + 1, .slice (some ⟨g3, 0, none⟩) ((prK i bf k).length + 1) cap3, by omega, by go_num, ?_⟩
                rw [prK, if_neg hne]
                exact HQ1.out.push hsz (by rw [Int.natCast_emod, Int.natCast_emod]; exact hown3) hg3
              case measure => simp [intOf]; omega
        · obtain rfl : k = m8 := by omega
          obtain ⟨L, hLa, hB⟩ := plan_built (by omega) HP.out hQ
          have hD := mkD_ok i Sf Cf (prK i bf k) hn1 hn6 hSb hCb (Nat.le_trans (prK_len i bf k) hm') (prK_mem i bf (by omega) k)
          obtain ⟨D, hDe⟩ : ∃ D, D = mkD i Sf Cf (prK i bf k) := ⟨_, rfl⟩
          rw [← hDe] at hB hD hLa
          have hDn : i = D.n := by rw [hDe]; rfl
          clear hDe
          subst hDn
          have hall := all_start D L w.heap.size (w.heap.size + 1) wr hD hB
          have hlaw := orders_law D hD
          generalize allF D D.n [] 0 (1073741824, []) = st at hall hlaw
          have Hall := Lib.hid hall
          have Hbel := Lib.hid hQ.bel
          have hwz := hQ.bel.size
          have HB := Lib.hid hB
          clear hall hQ HP Hrs Hrc hB hSb hCb HL HS0 HC0 e6 en Hn hlt hi
          rcases hlaw with ⟨hpos, rfl⟩ | ⟨hpos, best, least, rfl, hag⟩
          · have hbest := fun W (h : PlanAt W D L) => best_no D L W hD h hpos
            have hprices := fun W (h : PlanAt W D L) => prices_no D L W hD h hpos
            rw [hLa] at hbest hprices
            have Hbest := Lib.hid hbest
            have Hprices := Lib.hid hprices
            clear hbest hprices
            have qT : ∀ (w : World) (a : Option Addr) (n c n' c' : Nat), (binOp .eql 24 (.slice a n c) (.slice none n' c')).run Try.prog w = .ok (.bool a.isNone) w := fun w a n c n' c' => Lib.run_eql_slice_nil w _ _ a n c n' c' Try.underlying24
            go_wp2_with (first
              | (go_at_call 4; go_loud (refine Hall.out.mono ?_); rintro e w3 ⟨rfl, hW3⟩; have hb3 := HB.out.p3 hLa hW3.bel; obtain ⟨x0, x1, x2, hp3⟩ := hb3; obtain ⟨Ab, cb, hcb, _, hAb⟩ := hW3.cb; obtain rfl := hAb rfl; have cb3 := cell_of_blk hcb; have hs3 := hW3.size; have hbel3 := Hbel.out.trans (hW3.bel.mono hwz))
              | (go_at_call 7; go_loud (refine (Hbest.out _ hp3).mono ?_); rintro e w4 ⟨rfl, hb4⟩; have hp4 := hp3.of_below hb4; have y0 := cell_next x0 hb4; have y1 := cell_next x1 hb4; have y2 := cell_next x2 hb4; have cb4 := cell_next cb3 hb4)
              | (go_at_call 8; go_loud (refine (Hprices.out _ hp4).mono ?_); rintro e w5 ⟨rfl, hb5⟩; have cb5 := cell_next cb4 hb5))
            go_ret
            exact ⟨rfl, below_base (below_base hbel3 (by omega) hb4) (by have := hb4.size; omega) hb5⟩
          · have hbest := fun W (h : PlanAt W D L) => best_yes D L W hD h hpos
            obtain ⟨N, hN⟩ : ∃ N, N = D.n * 2 ^ D.n := ⟨_, rfl⟩
            have hN3 : N ≤ 384 := by rw [hN]; exact Nat.mul_le_mul hn6 (two_pow_le6 hn6)
            have hprices := fun W (h : PlanAt W D L) => prices_yes D L W N hN hD h hpos
            have hcost := fun W (h : PlanAt W D L) g c hr => cost_any D L W hD h g c (fun k => best.getD k 0) hag.lt hag.fol hr
            have hcheck := fun W (h : PlanAt W D L) bt ct ht => check_any D L W bt ct N (priceT D) hD h hN ht (fun i hi => priceT_bd D hD i (by rw [← hN]; exact hi)) hpos (priceT_sound D)
            rw [hLa] at hbest hprices hcost hcheck
            rw [hag.out] at hbest
            rw [hag.sum] at hcost
            rw [hag.table] at hcheck
            have hlen := hag.len
            rw [hlen] at hbest
            have Hbest := Lib.hid hbest
            have Hprices := Lib.hid hprices
            have Hcost := Lib.hid hcost
            have Hcheck := Lib.hid hcheck
            have Hlen := Lib.hid hlen
            clear hbest hprices hcost hcheck hlen hag hN
            have qT : ∀ (w : World) (a : Option Addr) (n c n' c' : Nat), (binOp .eql 24 (.slice a n c) (.slice none n' c')).run Try.prog w = .ok (.bool a.isNone) w := fun w a n c n' c' => Lib.run_eql_slice_nil w _ _ a n c n' c' Try.underlying24
            go_wp2_with (first
              | (go_at_call 4; go_loud (refine Hall.out.mono ?_); rintro e w3 ⟨rfl, hW3⟩; have hb3 := HB.out.p3 hLa hW3.bel; obtain ⟨x0, x1, x2, hp3⟩ := hb3; obtain ⟨Ab, cb, hcb, how, _⟩ := hW3.cb; obtain ⟨gb, rfl, hrb⟩ := own_row how (by rw [Hlen.out]; omega); have cb3 := cell_of_blk hcb; have cl3 := cell_of_blk hW3.cl; have hs3 := hW3.size; have hbel3 := Hbel.out.trans (hW3.bel.mono hwz); rw [Hlen.out] at cb3 hrb; simp only at hrb; clear how hcb)
              | (go_at_call 7; go_loud (refine (Hbest.out _ hp3).mono ?_); rintro e w4 ⟨Ag, cg, rfl, hog, hb4⟩; have hp4 := hp3.of_below hb4; have y0 := cell_next x0 hb4; have y1 := cell_next x1 hb4; have y2 := cell_next x2 hb4; have cb4 := cell_next cb3 hb4; have cl4 := cell_next cl3 hb4; have hrb4 := hrb.below hb4 hrb.lt; obtain ⟨gg, rfl, hrg4⟩ := own_rowN hog Hlen.out hn1; clear hog)
              | (go_at_call 8; go_loud (refine (Hprices.out _ hp4).mono ?_); rintro e w5 ⟨gt, rfl, _, hrt5, hb5⟩; have hp5 := hp4.of_below hb5; have z0 := cell_next y0 hb5; have z1 := cell_next y1 hb5; have z2 := cell_next y2 hb5; have cb5 := cell_next cb4 hb5; have cl5 := cell_next cl4 hb5; have hrb5 := hrb4.below hb5 hrb4.lt; have hrg5 := hrg4.below hb5 hrg4.lt)
              | (go_at_call 9; go_loud (refine (Hcost.out _ hp5 _ _ hrg5).mono ?_); rintro e w6 ⟨rfl, hb6⟩; have hp6 := hp5.of_below hb6; have u0 := cell_next z0 hb6; have u1 := cell_next z1 hb6; have u2 := cell_next z2 hb6; have cb6 := cell_next cb5 hb6; have cl6 := cell_next cl5 hb6; have hrb6 := hrb5.below hb6 hrb5.lt; have hrg6 := hrg5.below hb6 hrg5.lt; have hrt6 := hrt5.below hb6 hrt5.lt)
              | (go_at_call 10; go_loud (refine (Hcheck.out _ hp6 _ _ hrt6).mono ?_); rintro e w7 ⟨rfl, hb7⟩; have cb7 := cell_next cb6 hb7; have cl7 := cell_next cl6 hb7; have hrb7 := hrb6.below hb7 hrb6.lt; have hrg7 := hrg6.below hb7 hrg6.lt)
              | (go_at_call 11; go_loud (refine (equal_any _ _ _ _ D.n (fun k => best.getD k 0) _ (by omega) hrg7 hrb7).mono ?_); rintro e w8 ⟨rfl, hb8⟩; have cb8 := cell_next cb7 hb8; have cl8 := cell_next cl7 hb8))
            go_ret
            exact ⟨rfl, below_base (below_base (below_base (below_base (below_base hbel3 (by omega) hb4) (by have := hb4.size; omega) hb5) (by have := hb4.size; have := hb5.size; omega) hb6) (by have := hb4.size; have := hb5.size; have := hb6.size; omega) hb7) (by have := hb4.size; have := hb5.size; have := hb6.size; have := hb7.size; omega) hb8⟩
end Go.Proofs.Ytfdjdhjiaacjfaa.W
