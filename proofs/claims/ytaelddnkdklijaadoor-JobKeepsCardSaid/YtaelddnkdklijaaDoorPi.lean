/- When a rule comes next lies in time. Plain: no program is walked here. -/
import Derived.Test.YtaelddnkdklijaaDoorJk
set_option linter.unusedVariables false
namespace Go.Proofs.YtaelddnkdklijaaDoor.Pi
open Go Go.RowKit Go.Shelf Go.Proofs Go.Proofs.YtaelddnkdklijaaDoor.Jp Go.Proofs.YtaelddnkdklijaaDoor.Cp Go.Proofs.YtaelddnkdklijaaDoor.Cb Go.Proofs.YtaelddnkdklijaaDoor.Pg Go.Proofs.YtaelddnkdklijaaDoor.Ph Go.Proofs.YtaelddnkdklijaaDoor.Pf Go.Proofs.YtaelddnkdklijaaDoor.Jk

theorem fromF_lt (x m : Nat) (n : Int) (hx : x < 2 ^ m) (hm : m ≤ 64) (h0 : 0 ≤ n) (k : Int) (h : fromF x n = some k) : n ≤ k ∧ k < m := by
  unfold fromF at h
  split at h
  · exact absurd h (by simp)
  · rename_i hn
    have hy0 : x / 2 ^ n.toNat ≠ 0 := fun e => hn (Or.inr e)
    have h64 : (2 : Nat) ^ m ≤ 2 ^ 64 := Nat.pow_le_pow_right (by omega) hm
    have hy1 : x / 2 ^ n.toNat < 2 ^ 64 := Nat.lt_of_le_of_lt (Nat.div_le_self _ _) (Nat.lt_of_lt_of_le hx h64)
    obtain ⟨q, hq, _⟩ := Lib.ctzFrom_spec 64 (x / 2 ^ n.toNat) (Nat.pos_of_ne_zero hy0) hy1
    have e : Lib.ctz 64 (x / 2 ^ n.toNat) = Lib.ctzFrom 64 (x / 2 ^ n.toNat) := by simp [Lib.ctz, hy0]
    simp only [Option.some.injEq] at h
    rw [e] at h
    generalize Lib.ctzFrom 64 (x / 2 ^ n.toNat) = c at *
    have h1 : 2 ^ c ≤ x / 2 ^ n.toNat := by
      rw [hq]
      exact Nat.le_mul_of_pos_right _ (by omega)
    have h2 : 2 ^ c * 2 ^ n.toNat ≤ x := Nat.le_trans (Nat.mul_le_mul_right _ h1) (Nat.div_mul_le_self _ _)
    rw [← Nat.pow_add] at h2
    have h3 : c + n.toNat < m := (Nat.pow_lt_pow_iff_right (a := 2) (by omega)).1 (Nat.lt_of_le_of_lt h2 hx)
    omega

theorem okF_lt (x m : Nat) (hx : x < 18446744073709551616) (hm : m ≤ 64) (h : x &&& (18446744073709551615 - (2 ^ m - 1)) = 0) : x < 2 ^ m := by
  have h1 : (18446744073709551615 - (2 ^ m - 1)) / 2 ^ m = 2 ^ (64 - m) - 1 := by
    have e : (18446744073709551616 : Nat) = 2 ^ (64 - m) * 2 ^ m := by rw [← Nat.pow_add, Nat.sub_add_cancel hm]
    have hp : 0 < 2 ^ m := Nat.two_pow_pos m
    have hp2 : 0 < 2 ^ (64 - m) := Nat.two_pow_pos _
    have e2 : 18446744073709551615 - (2 ^ m - 1) = (2 ^ (64 - m) - 1) * 2 ^ m := by rw [Nat.sub_mul]; omega
    rw [e2, Nat.mul_div_cancel _ hp]
  have h2 : (x &&& (18446744073709551615 - (2 ^ m - 1))) / 2 ^ m = 0 := by rw [h]; simp
  rw [Nat.and_div_two_pow, h1, Nat.and_two_pow_sub_one_eq_mod] at h2
  have h3 : x / 2 ^ m < 2 ^ (64 - m) := by
    rw [Nat.div_lt_iff_lt_mul (Nat.two_pow_pos m), ← Nat.pow_add, Nat.sub_add_cancel hm]
    exact hx
  rw [Nat.mod_eq_of_lt h3] at h2
  exact (Nat.div_eq_zero_iff_lt (Nat.two_pow_pos m)).1 h2

theorem checkN_sets (r : Rule) (hr : Rok r) (h : checkN r = 0) : r.mi < 2 ^ 60 ∧ r.ho < 2 ^ 24 := by
  unfold checkN at h
  split at h
  · rename_i h1
    simp only [Bool.and_eq_true] at h1
    obtain ⟨a, b, _⟩ := h1
    unfold okF at a b
    simp only [Bool.and_eq_true, beq_iff_eq] at a b
    exact ⟨okF_lt _ 60 hr.mi (by omega) a.2, okF_lt _ 24 hr.ho (by omega) b.2⟩
  · exact absurd h (by decide)

theorem withinF_lt (r : Rule) (mn : Int) (h0 : 0 ≤ mn) (h1 : mn < 1440) (a : r.mi < 2 ^ 60) (b : r.ho < 2 ^ 24) (k : Int) (h : withinF r mn = some k) : 0 ≤ k ∧ k < 1440 := by
  unfold withinF at h
  split at h
  · rename_i y hy
    simp only [Option.some.injEq] at h
    split at hy
    · have := fromF_lt r.mi 60 (mn % 60) a (by omega) (by omega) y hy; omega
    · exact absurd hy (by simp)
  · split at h
    · exact absurd h (by simp)
    · rename_i z hz
      have h2 := fromF_lt r.ho 24 (mn / 60 + 1) b (by omega) (by omega) z hz
      simp only [Option.some.injEq] at h
      cases hq : fromF r.mi 0 with
      | none => rw [hq] at h; simp only [Option.getD_none] at h; omega
      | some q => have h3 := fromF_lt r.mi 60 0 a (by omega) (by omega) q hq; rw [hq] at h; simp only [Option.getD_some] at h; omega

theorem nextL_bd (r : Rule) (a : r.mi < 2 ^ 60) (b : r.ho < 2 ^ 24) : ∀ (f D : Nat) (mn k : Int), 0 ≤ mn → mn < 1440 → nextL r f D mn = some k → 0 ≤ k ∧ k ≤ 32503680000
  | 0, _, _, _, _, _, h => absurd h (by simp [nextL])
  | f + 1, D, mn, k, h0, h1, h => by
    simp only [nextL] at h
    split at h
    · rename_i hD
      split at h
      · split at h
        · rename_i q hq
          have := withinF_lt r mn h0 h1 a b q hq
          simp only [Option.some.injEq] at h
          omega
        · exact nextL_bd r a b f (D + 1) 0 k (by omega) (by omega) h
      · exact nextL_bd r a b f (D + 1) 0 k (by omega) (by omega) h
    · exact absurd h (by simp)

theorem nxF_bd (s : ByteArray) (now : Int) (h : (nxF s now).2 = true) : 0 ≤ (nxF s now).1 ∧ (nxF s now).1 ≤ 32503680000 := by
  have hr := parse_rok s
  unfold nxF nextA at *
  generalize (parseF s).1 = r at *
  simp only at *
  by_cases h1 : checkN r = 0
  · obtain ⟨a, b⟩ := checkN_sets r hr h1
    rw [if_pos h1] at *
    by_cases h2 : now < -1 ∨ 32503680000 ≤ now
    · rw [if_pos h2] at *; simp at h
    · rw [if_neg h2] at *
      simp only at *
      cases hq : nextF r now with
      | none => rw [hq] at h; simp at h
      | some k =>
        simp only [Option.getD_some]
        exact nextL_bd r a b _ _ _ k (by omega) (by omega) hq
  · rw [if_neg h1] at *; simp at h
end Go.Proofs.YtaelddnkdklijaaDoor.Pi
