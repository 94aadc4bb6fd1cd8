/- The walks of backoff.Delay, backoff.Due and of the reference's Delay. -/
import Derived.Test.YtaelddnkdklijaaDoorJb
import Derived.Test.YtaelddnkdklijaaDoorShelf
set_option linter.unusedSimpArgs false
set_option linter.unusedVariables false
namespace Go.Proofs.YtaelddnkdklijaaDoor.Ja
open Go.RowKit Go.Proofs.YtaelddnkdklijaaDoor.Jp Go.Proofs.YtaelddnkdklijaaDoor.Jw

theorem bitLen_lt (c : Int) (h1 : 1 ≤ c) (h2 : c ≤ 1073741824) : c < ((2 ^ Lib.bitLen c.toNat : Nat) : Int) ∧ Lib.bitLen c.toNat ≤ 31 := by
  have hb := Lib.bitLenAux_bounds 64 c.toNat (by have : (2 : Nat) ^ 64 = 18446744073709551616 := by decide
                                                 omega) (by omega)
  refine ⟨?_, Lib.bitLen_le c.toNat 31 (by omega) (by omega)⟩
  have h3 : c.toNat < 2 ^ Lib.bitLen c.toNat := hb.2.2
  omega

theorem delay_small (b c t k : Int) (h1 : 1 ≤ b) (h2 : b ≤ 1048576) (h3 : b ≤ c) (h4 : c ≤ 1073741824) (h0 : 0 ≤ k) (hk : k ≤ (Lib.bitLen c.toNat : Int)) :
    min c (wrap64 (b * 2 ^ min k.toNat 64)) = delayF ⟨b, c, t⟩ k := by
  obtain ⟨h5, h6⟩ := bitLen_lt c (by omega) h4
  have hm : min k.toNat 64 = k.toNat := by omega
  have hp : (2 : Nat) ^ k.toNat ≤ 2 ^ 31 := Nat.pow_le_pow_right (by omega) (by omega)
  have hq : (2 : Nat) ^ 31 = 2147483648 := by decide
  have hz : ((2 : Int) ^ k.toNat) = ((2 ^ k.toNat : Nat) : Int) := by simp
  have hpos : (0 : Int) ≤ ((2 ^ k.toNat : Nat) : Int) := Int.natCast_nonneg _
  have hr : b * ((2 ^ k.toNat : Nat) : Int) ≤ 1048576 * 2147483648 := Int.mul_le_mul h2 (by omega) (by omega) (by omega)
  have hs : 0 ≤ b * ((2 ^ k.toNat : Nat) : Int) := Int.mul_nonneg (by omega) (by omega)
  rw [hm, hz]
  simp only [delayF]
  generalize b * ((2 ^ k.toNat : Nat) : Int) = x at *
  have : wrap64 x = x := by unfold wrap64; omega
  rw [this]

theorem delay_large (b c t k : Int) (h1 : 1 ≤ b) (h3 : b ≤ c) (h4 : c ≤ 1073741824) (hk : (Lib.bitLen c.toNat : Int) < k) : c = delayF ⟨b, c, t⟩ k := by
  obtain ⟨h5, h6⟩ := bitLen_lt c (by omega) h4
  have hp : (2 : Nat) ^ Lib.bitLen c.toNat ≤ 2 ^ k.toNat := Nat.pow_le_pow_right (by omega) (by omega)
  have hpos : (0 : Int) ≤ ((2 ^ k.toNat : Nat) : Int) := Int.natCast_nonneg _
  have hr : 1 * ((2 ^ k.toNat : Nat) : Int) ≤ b * ((2 ^ k.toNat : Nat) : Int) := Int.mul_le_mul_of_nonneg_right h1 (by omega)
  simp only [delayF]
  omega

theorem delay_bad (b c t k : Int) (w : World) (h : limOk ⟨b, c, t⟩ = false) : Calls Tryd.prog 72 #[.agg #[.int .i64 b, .int .i64 c, .int .i64 t], .int .i64 k] w
    fun e w' => e = .returned (.tuple #[.int .i64 0, .int .i64 4]) ∧ Below w.heap.size w w' := by
  go_enter Tryd.func72, Tryd.ntmps72
  go_wp2_with (first
    | (go_at_call 17; refine (limCheck_calls _ _ _ _).mono ?_; rintro e w1 ⟨rfl, hb1⟩; obtain ⟨hc1, hf1⟩ := bl_cell hb1))
  go_ret2
  exact ⟨rfl, by repeat' (first | (with_reducible exact Below.refl _ _) | (with_reducible assumption) | (with_reducible refine bl_alloc ?_ (Nat.le_refl _) _) | (with_reducible refine bl_drew ?_) | (with_reducible refine bl_drewN ?_ _) | (with_reducible refine bl_setRow ?_ (by first | (simp; done) | (simp; omega) | omega) _) | (with_reducible refine bl_setCell ?_ (by first | (simp; done) | (simp; omega) | omega) _) | (with_reducible refine bl_trans ?_ (Nat.le_refl _) (by assumption)))⟩

theorem delay_neg (b c t k : Int) (w : World) (h : limOk ⟨b, c, t⟩ = true) (hk : k < 0) : Calls Tryd.prog 72 #[.agg #[.int .i64 b, .int .i64 c, .int .i64 t], .int .i64 k] w
    fun e w' => e = .returned (.tuple #[.int .i64 0, .int .i64 4]) ∧ Below w.heap.size w w' := by
  go_enter Tryd.func72, Tryd.ntmps72
  go_wp2_with (first
    | (go_at_call 17; refine (limCheck_calls _ _ _ _).mono ?_; rintro e w1 ⟨rfl, hb1⟩; obtain ⟨hc1, hf1⟩ := bl_cell hb1))
  go_ret2
  exact ⟨rfl, by repeat' (first | (with_reducible exact Below.refl _ _) | (with_reducible assumption) | (with_reducible refine bl_alloc ?_ (Nat.le_refl _) _) | (with_reducible refine bl_drew ?_) | (with_reducible refine bl_drewN ?_ _) | (with_reducible refine bl_setRow ?_ (by first | (simp; done) | (simp; omega) | omega) _) | (with_reducible refine bl_setCell ?_ (by first | (simp; done) | (simp; omega) | omega) _) | (with_reducible refine bl_trans ?_ (Nat.le_refl _) (by assumption)))⟩

theorem delay_ok (b c t k : Int) (w : World) (h : limOk ⟨b, c, t⟩ = true) (hk : 0 ≤ k) : Calls Tryd.prog 72 #[.agg #[.int .i64 b, .int .i64 c, .int .i64 t], .int .i64 k] w
    fun e w' => e = .returned (.tuple #[.int .i64 (delayF ⟨b, c, t⟩ k), .int .i64 0]) ∧ Below w.heap.size w w' := by
  obtain ⟨h1, h2, h3, h4, h5, h6⟩ := (limOk_iff b c t).1 h
  go_enter Tryd.func72, Tryd.ntmps72
  go_wp2_with (first
    | (go_at_call 17; refine (limCheck_calls _ _ _ _).mono ?_; rintro e w1 ⟨rfl, hb1⟩; obtain ⟨hc1, hf1⟩ := bl_cell hb1)
    | (go_at_call 110; refine (Tryd.bits_Len _ _ (by omega) (by omega)).mono ?_; rintro e w' ⟨rfl, rfl⟩))
  · go_ret2
    refine ⟨?_, by repeat' (first | (with_reducible exact Below.refl _ _) | (with_reducible assumption) | (with_reducible refine bl_alloc ?_ (Nat.le_refl _) _) | (with_reducible refine bl_drew ?_) | (with_reducible refine bl_drewN ?_ _) | (with_reducible refine bl_setRow ?_ (by first | (simp; done) | (simp; omega) | omega) _) | (with_reducible refine bl_setCell ?_ (by first | (simp; done) | (simp; omega) | omega) _) | (with_reducible refine bl_trans ?_ (Nat.le_refl _) (by assumption)))⟩
    exact ret_tup2 (delay_large b c t k h1 h3 h4 (by assumption)) rfl
  · go_quiet (fail)
    go_wp2
    go_ret2
    refine ⟨?_, by repeat' (first | (with_reducible exact Below.refl _ _) | (with_reducible assumption) | (with_reducible refine bl_alloc ?_ (Nat.le_refl _) _) | (with_reducible refine bl_drew ?_) | (with_reducible refine bl_drewN ?_ _) | (with_reducible refine bl_setRow ?_ (by first | (simp; done) | (simp; omega) | omega) _) | (with_reducible refine bl_setCell ?_ (by first | (simp; done) | (simp; omega) | omega) _) | (with_reducible refine bl_trans ?_ (Nat.le_refl _) (by assumption)))⟩
    exact ret_tup2 (delay_small b c t k h1 h2 h3 h4 hk (by assumption)) rfl
end Go.Proofs.YtaelddnkdklijaaDoor.Ja
