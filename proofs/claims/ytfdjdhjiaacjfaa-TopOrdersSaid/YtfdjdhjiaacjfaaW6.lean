/- Walks: Plan.valid, at plans that are. -/
import Derived.Test.YtfdjdhjiaacjfaaW1
namespace Go.Proofs.Ytfdjdhjiaacjfaa.W
open Go Go.RowKit Go.Deep Go.Proofs.Ytfdjdhjiaacjfaa.Kx

theorem costs1_any (x : Int) (w : World) (h0 : 0 ≤ x) (h1 : x ≤ 1000) : Calls Try.prog 26 #[.int .i64 x] w fun e w' => e = .returned (.bool false) ∧ w = w' := by
  go_enter Try.func26, Try.ntmps26
  go_wp2
  go_ret
  exact ⟨ret_bool (by simp; omega), rfl⟩
theorem within1_any (x : Int) (w : World) (h0 : -1099511627776 ≤ x) (h1 : x ≤ 1099511627776) : Calls Try.prog 25 #[.int .i64 x] w fun e w' => e = .returned (.bool false) ∧ w = w' := by
  go_enter Try.func25, Try.ntmps25
  go_wp2
  go_ret
  exact ⟨ret_bool (by simp; omega), rfl⟩
theorem valid1_any (x y : Int) (n b : Nat) (w : World) (hx : 0 ≤ x) (hy : 0 ≤ y) (hxy : (x == y) = false) (hxn : x < n) (hyn : y < n) (hc : w.cell? ⟨b, 0, none⟩ = some (.int .i64 n)) :
    Calls Try.prog 22 #[.agg #[.int .i64 x, .int .i64 y], .pointer (some ⟨b, 0, none⟩)] w fun e w' => e = .returned (.bool false) ∧ Below w.heap.size w w' := by
  have hb : b < w.heap.size := World.block_lt_of_cell? w _ hc
  have hc2 : ∀ o, (w.alloc o).cell? ⟨b, 0, none⟩ = some (.int .i64 n) := fun o => (((Below.refl w.heap.size w).alloc (Nat.le_refl _) o).cell hb).trans hc
  go_enter Try.func22, Try.ntmps22
  go_wp2
  all_goals
    go_ret
    exact ⟨ret_bool (by simp; omega), (Below.refl _ _).alloc (Nat.le_refl _) _⟩
theorem run25 : ∀ v w, Sem.run Try.prog (callFunc 25 #[v]) w = .ok (.enter 25 #[v]) w := fun _ _ => by kernel_rfl
theorem run26 : ∀ v w, Sem.run Try.prog (callFunc 26 #[v]) w = .ok (.enter 26 #[v]) w := fun _ _ => by kernel_rfl
theorem indexFunc_any (cf : Nat) (b c n : Nat) (f : Nat → Int) (w : World) (hn : n ≤ 1000000) (hrun : ∀ v w, Sem.run Try.prog (callFunc cf #[v]) w = .ok (.enter cf #[v]) w) (hcf : ∀ i w, i < n → Calls Try.prog cf #[.int .i64 (f i)] w fun e w' => e = .returned (.bool false) ∧ w = w')
    (hr : Row w b 3 n (fun i => .int .i64 (f i))) :
    Calls Try.prog 29 #[.slice (some ⟨b, 0, none⟩) n c, .func (.func cf) #[] #[]] w fun e w' => e = .returned (.int .i64 (-1)) ∧ w = w' := by
  have Hcf := Lib.hid hcf
  clear hcf
  go_enter Try.func29, Try.ntmps29
  go_wp2
  go_loop [8] (fun i => ∃ k : Nat, k ≤ n ∧ i = .int .i64 k) (fun i => n - (intOf i).toNat)
  case atStart => exact ⟨0, Nat.zero_le _, rfl⟩
  case round =>
    obtain ⟨k, hk, rfl⟩ := hrel
    by_cases hlt : k < n
    · have ck := hr.cell hlt
      go_wp2_with ((with_reducible refine (Hcf.out k _ hlt).mono ?_); rintro e w' ⟨rfl, rfl⟩)
      go_round
      case rel => exact ⟨k + 1, by omega, by go_num⟩
      case measure => simp [intOf]; omega
    · obtain rfl : k = n := by omega
      go_wp2
      go_ret
      exact ⟨rfl, rfl⟩
theorem containsFunc_any (cf : Nat) (b c n : Nat) (f : Nat → Int) (w : World) (hn : n ≤ 1000000) (hrun : ∀ v w, Sem.run Try.prog (callFunc cf #[v]) w = .ok (.enter cf #[v]) w) (hcf : ∀ i w, i < n → Calls Try.prog cf #[.int .i64 (f i)] w fun e w' => e = .returned (.bool false) ∧ w = w')
    (hr : Row w b 3 n (fun i => .int .i64 (f i))) :
    Calls Try.prog 24 #[.slice (some ⟨b, 0, none⟩) n c, .func (.func cf) #[] #[]] w fun e w' => e = .returned (.bool false) ∧ w = w' := by
  have Hcf := Lib.hid hcf
  clear hcf
  go_enter Try.func24, Try.ntmps24
  go_wp2_with (go_at_call 29; refine (indexFunc_any cf b c n f _ hn hrun Hcf.out hr).mono ?_; rintro e w' ⟨rfl, rfl⟩)
  go_ret
  exact ⟨rfl, rfl⟩
theorem within_any (b c n : Nat) (f : Nat → Int) (w : World) (hn : n ≤ 1000000) (hf : ∀ i, i < n → -1099511627776 ≤ f i ∧ f i ≤ 1099511627776)
    (hr : Row w b 3 n (fun i => .int .i64 (f i))) :
    Calls Try.prog 19 #[.slice (some ⟨b, 0, none⟩) n c] w fun e w' => e = .returned (.bool true) ∧ w = w' := by
  have Hf := Lib.hid hf
  clear hf
  go_enter Try.func19, Try.ntmps19
  go_wp2_with (go_at_call 24; refine (containsFunc_any 25 b c n f _ hn run25 (fun i w hi => within1_any (f i) w (Hf.out i hi).1 (Hf.out i hi).2) hr).mono ?_; rintro e w' ⟨rfl, rfl⟩)
  go_ret
  exact ⟨rfl, rfl⟩
theorem costs_any (b c n : Nat) (f : Nat → Int) (w : World) (hn : n ≤ 1000000) (hf : ∀ i, i < n → 0 ≤ f i ∧ f i ≤ 1000)
    (hr : Row w b 3 n (fun i => .int .i64 (f i))) :
    Calls Try.prog 20 #[.slice (some ⟨b, 0, none⟩) n c, .int .i64 n] w fun e w' => e = .returned (.bool true) ∧ w = w' := by
  have Hf := Lib.hid hf
  clear hf
  go_enter Try.func20, Try.ntmps20
  go_wp2_with (go_at_call 24; refine (containsFunc_any 26 b c n f _ hn run26 (fun i w hi => costs1_any (f i) w (Hf.out i hi).1 (Hf.out i hi).2) hr).mono ?_; rintro e w' ⟨rfl, rfl⟩)
  go_ret
  exact ⟨rfl, rfl⟩

set_option maxHeartbeats 1000000 in
theorem indexPair_any (b c m pn n : Nat) (X Y : Nat → Int) (w : World) (A : Option Addr) (hA : 0 < m → A = some ⟨b, 0, none⟩) (hm : m ≤ 1000000)
    (hx : ∀ k, k < m → 0 ≤ X k ∧ X k < n ∧ 0 ≤ Y k ∧ Y k < n ∧ X k ≠ Y k)
    (hr : ∀ k, k < m → w.cell? ⟨b, k * 2, none⟩ = some (.int .i64 (X k)) ∧ w.cell? ⟨b, k * 2 + 1, none⟩ = some (.int .i64 (Y k))) (hc : w.cell? ⟨pn, 0, none⟩ = some (.int .i64 n)) :
    Calls Try.prog 27 #[.slice A m c, .func (.func 22) #[] #[.pointer (some ⟨pn, 0, none⟩)]] w fun e w' => e = .returned (.int .i64 (-1)) ∧ Below w.heap.size w w' := by
  rcases Nat.eq_zero_or_pos m with hm0 | hm0
  · subst hm0
    go_enter Try.func27, Try.ntmps27
    go_wp2
    refine wp_loop_rounds 1 ?_
    rw [rounds_succ]
    go_wp2
    go_ret
    exact ⟨rfl, Below.refl _ _⟩
  · obtain rfl := hA hm0
    have Hx := Lib.hid hx
    have Hr := Lib.hid hr
    have Hc := Lib.hid hc
    clear hx hr hc hA
    go_enter Try.func27, Try.ntmps27
    go_wp2
    go_loopw [8] (fun i wr => ∃ k : Nat, k ≤ m ∧ i = .int .i64 k ∧ Below w.heap.size w wr) (fun i _ => m - (intOf i).toNat)
    case atStart => exact ⟨0, Nat.zero_le _, rfl, Below.refl _ _⟩
    case round =>
      obtain ⟨k, hk, rfl, hbel⟩ := hrel
      by_cases hlt : k < m
      · obtain ⟨c0, c1⟩ := Hr.out k hlt
        have d0 := (hbel.cell (World.block_lt_of_cell? w _ c0)).trans c0
        have d1 := (hbel.cell (World.block_lt_of_cell? w _ c1)).trans c1
        have d2 := (hbel.cell (World.block_lt_of_cell? w _ Hc.out)).trans Hc.out
        have HD2 := Lib.hid d2
        clear c0 c1 d2
        go_wp2_with (go_at_call 22; refine (valid1_any (X k) (Y k) n pn _ (Hx.out k hlt).1 (Hx.out k hlt).2.2.1 (beq_eq_false_iff_ne.2 (Hx.out k hlt).2.2.2.2) (Hx.out k hlt).2.1 (Hx.out k hlt).2.2.2.1 HD2.out).mono ?_; rintro e w1 ⟨rfl, hb1⟩)
        go_roundw
        case rel => exact ⟨k + 1, by omega, by go_num, below_of hbel hb1⟩
        case measure => simp [intOf]; omega
      · obtain rfl : k = m := by omega
        go_wp2
        go_ret
        exact ⟨rfl, hbel⟩
theorem containsPair_any (b c m pn n : Nat) (X Y : Nat → Int) (w : World) (A : Option Addr) (hA : 0 < m → A = some ⟨b, 0, none⟩) (hm : m ≤ 1000000)
    (hx : ∀ k, k < m → 0 ≤ X k ∧ X k < n ∧ 0 ≤ Y k ∧ Y k < n ∧ X k ≠ Y k)
    (hr : ∀ k, k < m → w.cell? ⟨b, k * 2, none⟩ = some (.int .i64 (X k)) ∧ w.cell? ⟨b, k * 2 + 1, none⟩ = some (.int .i64 (Y k))) (hc : w.cell? ⟨pn, 0, none⟩ = some (.int .i64 n)) :
    Calls Try.prog 21 #[.slice A m c, .func (.func 22) #[] #[.pointer (some ⟨pn, 0, none⟩)]] w fun e w' => e = .returned (.bool false) ∧ Below w.heap.size w w' := by
  have H := Lib.hid (indexPair_any b c m pn n X Y w A hA hm hx hr hc)
  clear hA hx hr hc
  go_enter Try.func21, Try.ntmps21
  go_wp2_with (go_at_call 27; refine H.out.mono ?_; rintro e w1 ⟨rfl, hb1⟩)
  go_ret
  exact ⟨rfl, hb1⟩
theorem cell_two_new (w : World) (v0 v1 v2 v : Value) (T T' : TypeId) : ((w.alloc (.cells #[v0, v1, v2] T)).alloc (.cells #[v] T')).cell? ⟨w.heap.size + 1, 0, none⟩ = some v := by
  have h := blk_alloc_new (w.alloc (.cells #[v0, v1, v2] T)) (.cells #[v] T')
  simp only [nblk_alloc] at h
  simp only [World.cell?, h]
  rfl

theorem costsN_any (b c n : Nat) (f : Nat → Nat) (w : World) (hn : n ≤ 1000000) (hf : ∀ i, i < n → f i ≤ 255) (hr : Row w b 3 n (fun i => .int .i64 (f i))) :
    Calls Try.prog 20 #[.slice (some ⟨b, 0, none⟩) n c, .int .i64 n] w fun e w' => e = .returned (.bool true) ∧ w = w' :=
  costs_any b c n (fun i => (f i : Int)) w hn (fun i hi => ⟨by omega, by have := hf i hi; show (f i : Int) ≤ 1000; omega⟩) hr
end Go.Proofs.Ytfdjdhjiaacjfaa.W
