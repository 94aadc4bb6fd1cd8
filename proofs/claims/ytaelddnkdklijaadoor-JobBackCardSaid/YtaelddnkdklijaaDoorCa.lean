/- The walks of package civil and of cron's functions on numbers. -/
import Derived.Test.YtaelddnkdklijaaDoorCp
import Derived.Test.YtaelddnkdklijaaDoorJw
import Derived.Test.YtaelddnkdklijaaDoorShelf
set_option linter.unusedSimpArgs false
set_option linter.unusedVariables false
namespace Go.Proofs.YtaelddnkdklijaaDoor.Ca
open Go.RowKit Go.Shelf Go.Proofs Go.Proofs.YtaelddnkdklijaaDoor.Jp Go.Proofs.YtaelddnkdklijaaDoor.Jw Go.Proofs.YtaelddnkdklijaaDoor.Cp

theorem weekday_calls (n : Int) (w : World) (h0 : 0 ≤ n) (h1 : n < 376200) : Calls Tryd.prog 135 #[.int .i64 n] w fun e w' => e = .returned (.int .i64 ((n + 4) % 7)) ∧ w = w' := by
  go_enter Tryd.func135, Tryd.ntmps135
  go_wp2
  go_ret
  exact ⟨rfl, rfl⟩

theorem date_walk (n er d y o m q : Int) (w : World) (h0 : 0 ≤ n) (h1 : n < 376200) (a1 : Hid ((n + 719468) / 146097 = er)) (a2 : Hid ((n + 719468) % 146097 = d)) (a3 : Hid ((d - d / 1460 + d / 36524 - d / 146096) / 365 = y))
    (a4 : Hid (d - (365 * y + y / 4 - y / 100) = o)) (a5 : Hid ((5 * o + 2) / 153 = m)) (a6 : Hid (o - (153 * m + 2) / 5 = q))
    (b1 : 0 ≤ er) (b2 : er ≤ 10) (c1 : 0 ≤ d) (c2 : d < 146097) (d1 : 0 ≤ y) (d2 : y ≤ 399) (e1 : 0 ≤ o) (e2 : o ≤ 365) (f1 : 0 ≤ m) (f2 : m ≤ 11) (g1 : 0 ≤ q) (g2 : q ≤ 30) : Calls Tryd.prog 136 #[.int .i64 n] w
    fun e w' => e = .returned (.tuple #[.int .i64 (if m + 3 > 12 then 400 * er + y + 1 else 400 * er + y), .int .i64 (if m + 3 > 12 then m + 3 - 12 else m + 3), .int .i64 (q + 1), .int .i64 0]) ∧ w = w' := by
  by_cases hm : m + 3 > 12
  all_goals
    simp only [hm, if_true, if_false]
    go_enter Tryd.func136, Tryd.ntmps136
    go_upto_region 5 with fail
    simp only [a1.out, a2.out]
    go_upto_region 6 with fail
    simp only [a3.out]
    go_upto_region 7 with fail
    simp only [a4.out]
    go_upto_region 8 with fail
    simp only [a5.out]
    go_upto_region 9 with fail
    simp only [a6.out]
    go_wp2
    refine bodyPost_ret (results_tmp4 rfl _ _ _) rfl ?_
    exact ⟨rfl, rfl⟩

theorem date_calls (n : Int) (w : World) (h0 : 0 ≤ n) (h1 : n < 376200) : Calls Tryd.prog 136 #[.int .i64 n] w
    fun e w' => e = .returned (.tuple #[.int .i64 (dateY n), .int .i64 (dateM n), .int .i64 (dateD n), .int .i64 0]) ∧ w = w' := by
  have hd : 0 ≤ (n + 719468) % 146097 ∧ (n + 719468) % 146097 < 146097 := by omega
  have h := date_walk n ((n + 719468) / 146097) ((n + 719468) % 146097) (yoe ((n + 719468) % 146097)) (doy ((n + 719468) % 146097)) (mp ((n + 719468) % 146097)) (dom ((n + 719468) % 146097)) w h0 h1 (Lib.hid rfl) (Lib.hid rfl) (Lib.hid rfl) (Lib.hid rfl) (Lib.hid rfl) (Lib.hid rfl) (by omega) (by omega) hd.1 hd.2 (yoe_bd _ hd.1 hd.2).1 (yoe_bd _ hd.1 hd.2).2 (doy_bd _ hd.1 hd.2).1 (doy_bd _ hd.1 hd.2).2 (mp_bd _ hd.1 hd.2).1 (mp_bd _ hd.1 hd.2).2 (dom_bd _ hd.1 hd.2).1 (dom_bd _ hd.1 hd.2).2
  exact h

theorem momSize : (Tryd.prog.info? 188).map (·.size) = some 7 := by kernel_rfl
theorem ruleSize : (Tryd.prog.info? 88).map (·.size) = some 7 := by kernel_rfl

set_option maxRecDepth 100000 in
theorem split_calls (t : Int) (w : World) (h0 : 0 ≤ t) (h1 : t < 32503680000) : Calls Tryd.prog 107 #[.int .i64 t] w
    fun e w' => e = .returned (.tuple #[.agg #[.int .i64 (splitF t).year, .int .i64 (splitF t).month, .int .i64 (splitF t).day, .int .i64 (splitF t).hour, .int .i64 (splitF t).minute, .int .i64 (splitF t).second, .int .i64 (splitF t).week], .int .i64 0]) ∧ Below w.heap.size w w' := by
  have a0 : 0 ≤ t / 86400 := by omega
  have a1 : t / 86400 < 376200 := by omega
  have hD := fun W => date_calls (t / 86400) W a0 a1
  have hW := fun W => weekday_calls (t / 86400) W a0 a1
  have HD := Lib.hid hD
  have HW := Lib.hid hW
  clear hD hW
  unfold splitF
  generalize dateY (t / 86400) = y at *
  generalize dateM (t / 86400) = m at *
  generalize dateD (t / 86400) = d at *
  generalize (t / 86400 + 4) % 7 = v at *
  go_enter Tryd.func107, Tryd.ntmps107
  go_wp2_with (first
    | (go_at_call 136; refine (HD.out _).mono ?_; rintro e w' ⟨rfl, rfl⟩)
    | (go_at_call 135; refine (HW.out _).mono ?_; rintro e w' ⟨rfl, rfl⟩))
  exact bodyPost_ret (res_row_tmp rfl rfl ((Blk.new _ _ _).alloc _) Tryd.underlying188 rfl momSize) rfl ⟨rfl, by repeat' (first | (with_reducible exact Below.refl _ _) | (with_reducible assumption) | (with_reducible refine bl_alloc ?_ (Nat.le_refl _) _) | (with_reducible refine bl_drew ?_) | (with_reducible refine bl_drewN ?_ _) | (with_reducible refine bl_setRow ?_ (by first | (simp; done) | (simp; omega) | omega) _) | (with_reducible refine bl_setCell ?_ (by first | (simp; done) | (simp; omega) | omega) _) | (with_reducible refine bl_trans ?_ (Nat.le_refl _) (by assumption)))⟩

theorem and_two_pow (x n : Nat) : x &&& 2 ^ n = if x.testBit n then 2 ^ n else 0 := by
  apply Nat.eq_of_testBit_eq
  intro i
  rw [Nat.testBit_and, Nat.testBit_two_pow]
  by_cases h : n = i
  · subst h; cases hx : x.testBit n <;> simp
  · cases hx : x.testBit n <;> simp [h, Nat.testBit_two_pow]

theorem has_val (x : Nat) (n : Int) (hn : n < 64) (h0 : 0 ≤ n) (hx : x < 18446744073709551616) : (bits .and .u64 (x : Int) (IntKind.u64.wrap (2 ^ n.toNat)) != 0) = x.testBit n.toNat := by
  obtain ⟨m, rfl⟩ := Int.eq_ofNat_of_zero_le h0
  simp only [Int.toNat_natCast]
  have h2 : (2 : Nat) ^ m < 18446744073709551616 := Nat.lt_of_lt_of_le (Nat.pow_lt_pow_right (by omega) (show m < 64 by omega)) (by decide)
  have e : IntKind.u64.wrap (2 ^ m) = ((2 ^ m : Nat) : Int) := by
    have : ((2 : Int) ^ m) = ((2 ^ m : Nat) : Int) := by simp
    rw [this, IntKind.wrap_u64]
    generalize 2 ^ m = z at h2
    omega
  rw [e, bits_and_u64_nat x _ hx h2, and_two_pow]
  have hp : 0 < 2 ^ m := Nat.two_pow_pos m
  cases x.testBit m
  · simp
  · simp only [if_true]
    generalize 2 ^ m = z at hp
    simp [bne]
    omega

theorem has_calls (x : Nat) (n : Int) (w : World) (hx : x < 18446744073709551616) (h0 : 0 ≤ n) (h1 : n < 64) : Calls Tryd.prog 137 #[.int .u64 x, .int .i64 n] w fun e w' => e = .returned (.bool (x.testBit n.toNat)) ∧ w = w' := by
  go_enter Tryd.func137, Tryd.ntmps137
  go_wp2
  go_ret
  exact ⟨ret_bool (has_val x n h1 h0 hx), rfl⟩

theorem TabAt.below {g : Nat} {tab : List Nat} {w w' : World} (h : TabAt g tab w) (hb : Below w.heap.size w w') : TabAt g tab w' := fun j hj =>
  (hb.cell (p := ⟨g, j, none⟩) (World.block_lt_of_cell? w _ (h j hj))).trans (h j hj)

theorem fromF_none (x : Nat) (m : Nat) (h1 : m < 64) (h : x / 2 ^ m = 0) : fromF x m = none := by
  unfold fromF
  rw [if_pos]
  exact Or.inr (by simpa using h)
theorem fromF_some (x : Nat) (m : Nat) (h1 : m < 64) (h : x / 2 ^ m ≠ 0) : fromF x m = some ((m : Int) + (Lib.ctz 64 (x / 2 ^ m) : Nat)) := by
  unfold fromF
  rw [if_neg (by rintro (h2 | h2); · omega
                 · rw [Int.toNat_natCast] at h2; exact h h2)]
  rw [Int.toNat_natCast]

theorem from_calls (x m : Nat) (w : World) (hx : x < 18446744073709551616) (h1 : m < 64) (hT : TabAt 0 Lib.deBruijn64tab w) : Calls Tryd.prog 138 #[.int .u64 x, .int .i64 (m : Int)] w
    fun e w' => e = .returned (.tuple #[.int .i64 ((fromF x m).getD 0), .bool (fromF x m).isSome]) ∧ w = w' := by
  have hq : (x : Int) / 2 ^ m = ((x / 2 ^ m : Nat) : Int) := by simp
  have hq2 : x / 2 ^ m < 18446744073709551616 := Nat.lt_of_le_of_lt (Nat.div_le_self _ _) hx
  by_cases h0 : x / 2 ^ m = 0
  · rw [fromF_none x m h1 h0]
    rw [h0] at hq
    go_enter Tryd.func138, Tryd.ntmps138
    go_wp2_with fail
    go_ret2
    exact ⟨rfl, rfl⟩
  · rw [fromF_some x m h1 h0]
    have hC := fun W (hW : TabAt 0 Lib.deBruijn64tab W) => Any7.bits_TrailingZeros64 Tryd.lays7n29 (x / 2 ^ m) hq2 W (fun _ => hW)
    have HC := Lib.hid hC
    have hL : Lib.ctz 64 (x / 2 ^ m) < 64 := (Lib.lowest_bit 64 (x / 2 ^ m) h0 hq2).2
    generalize hy : x / 2 ^ m = y at *
    have hb : ((y : Int) == 0) = false := by simpa using h0
    clear hC hy h0
    generalize Lib.ctz 64 y = c at *
    go_enter Tryd.func138, Tryd.ntmps138
    go_wp2_with (go_at_call 159; refine (HC.out _ hT).mono ?_; rintro e w' ⟨rfl, rfl⟩)
    go_ret2
    exact ⟨rfl, rfl⟩
end Go.Proofs.YtaelddnkdklijaaDoor.Ca
