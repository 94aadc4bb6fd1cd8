/- Plain words for numbers of a varying length. No program in sight. -/
import Derived.Lib.Bits
set_option linter.unusedVariables false
namespace Go.Proofs.YtaelddnkdklijaaDoor.Vp

/-- How many octets. -/
def sizeV (n : Nat) : Nat :=
  if n < 128 then 1 else if n < 16384 then 2 else if n < 2097152 then 3 else if n < 268435456 then 4 else if n < 34359738368 then 5
  else if n < 4398046511104 then 6 else if n < 562949953421312 then 7 else if n < 72057594037927936 then 8 else 9

/-- The ones that tell how many octets follow. -/
def maskV (k : Nat) : Nat := 256 - 2 ^ (9 - k)

def beV : Nat → Nat → List Nat
  | 0, _ => []
  | k + 1, n => n / 256 ^ k % 256 :: beV k n

def putV (n : Nat) : List Nat := match beV (sizeV n) n with
  | [] => []
  | b :: t => (b + maskV (sizeV n)) :: t

def leadV (b : Nat) : Nat := if b < 128 then 0 else if b < 192 then 1 else if b < 224 then 2 else if b < 240 then 3 else if b < 248 then 4 else if b < 252 then 5 else if b < 254 then 6 else if b < 255 then 7 else 8

def foldV : Nat → List Nat → Nat
  | n, [] => n
  | n, x :: t => foldV (256 * n + x) t

/-- A number, how many octets it took, an error's number. -/
def getV : List Nat → Nat × Nat × Int
  | [] => (0, 0, 8)
  | b :: t =>
    if t.length < leadV b then (0, 0, 8)
    else if sizeV (foldV (b % 2 ^ (7 - leadV b)) (t.take (leadV b))) = leadV b + 1 then (foldV (b % 2 ^ (7 - leadV b)) (t.take (leadV b)), leadV b + 1, 0)
    else (0, 0, 4)

theorem foldV_be : ∀ (k n a : Nat), foldV a (beV k n) = a * 256 ^ k + n % 256 ^ k
  | 0, n, a => by simp [foldV, beV, Nat.mod_one]
  | k + 1, n, a => by
    simp only [beV, foldV]
    rw [foldV_be k n]
    have h1 : n % 256 ^ (k + 1) = n / 256 ^ k % 256 * 256 ^ k + n % 256 ^ k := by
      rw [Nat.pow_succ, Nat.mod_mul, Nat.mul_comm]; omega
    rw [h1, Nat.pow_succ, Nat.add_mul]
    have : 256 * a * 256 ^ k = a * (256 ^ k * 256) := by rw [Nat.mul_comm 256 a, Nat.mul_assoc, Nat.mul_comm 256]
    omega
theorem beV_len : ∀ (k n : Nat), (beV k n).length = k
  | 0, _ => rfl
  | k + 1, n => by simp [beV, beV_len k n]
theorem beV_lt : ∀ (k n : Nat), ∀ x ∈ beV k n, x < 256
  | 0, _ => by simp [beV]
  | k + 1, n => by
    intro x hx
    simp only [beV, List.mem_cons] at hx
    rcases hx with rfl | hx
    · exact Nat.mod_lt _ (by omega)
    · exact beV_lt k n x hx
theorem beV_fold : ∀ (t : List Nat) (a : Nat), (∀ x ∈ t, x < 256) → beV t.length (foldV a t) = t
  | [], _, _ => rfl
  | x :: t, a, h => by
    have hx := h x (by simp)
    have ih := beV_fold t (256 * a + x) (fun y hy => h y (by simp [hy]))
    simp only [List.length_cons, beV, foldV]
    have hd : foldV (256 * a + x) t / 256 ^ t.length = 256 * a + x := fold_div t _ (fun y hy => h y (by simp [hy]))
    rw [ih, hd]
    congr 1
    omega
where fold_div : ∀ (t : List Nat) (a : Nat), (∀ x ∈ t, x < 256) → foldV a t / 256 ^ t.length = a
  | [], a, _ => by simp [foldV]
  | x :: t, a, h => by
    have ih := fold_div t (256 * a + x) (fun y hy => h y (by simp [hy]))
    have hx := h x (by simp)
    simp only [foldV, List.length_cons, Nat.pow_succ]
    rw [← Nat.div_div_eq_div_mul, ih]
    omega

theorem lead_mask : ∀ (m : Fin 9) (y : Fin 128), y.val < 2 ^ (7 - m.val) → leadV (y.val + maskV (m.val + 1)) = m.val ∧ (y.val + maskV (m.val + 1)) % 2 ^ (7 - m.val) = y.val := by decide +kernel
theorem lead_back : ∀ b : Fin 256, leadV b.val ≤ 8 ∧ b.val = b.val % 2 ^ (7 - leadV b.val) % 256 + maskV (leadV b.val + 1) ∧ b.val % 2 ^ (7 - leadV b.val) < 256 ∧ (b.val % 2 ^ (7 - leadV b.val) + 1) * 256 ^ leadV b.val ≤ 18446744073709551616 := by decide +kernel

theorem put_get (n : Nat) (rest : List Nat) (h : n < 18446744073709551616) : getV (putV n ++ rest) = (n, sizeV n, 0) ∧ (putV n).length = sizeV n ∧ 1 ≤ sizeV n ∧ sizeV n ≤ 9 := by
  have key : ∀ k, sizeV n = k → 1 ≤ k → k ≤ 9 → (k = 9 ∨ n < 2 ^ (7 * k)) → getV (putV n ++ rest) = (n, k, 0) ∧ (putV n).length = k := by
    intro k hk h1 h9 hn
    obtain ⟨m, rfl⟩ : ∃ m, k = m + 1 := ⟨k - 1, by omega⟩
    have hb : putV n = (n / 256 ^ m % 256 + maskV (m + 1)) :: beV m n := by simp only [putV, hk, beV]
    have hq : n / 256 ^ m < 2 ^ (7 - m) := by
      obtain rfl | rfl | rfl | rfl | rfl | rfl | rfl | rfl | rfl : m = 0 ∨ m = 1 ∨ m = 2 ∨ m = 3 ∨ m = 4 ∨ m = 5 ∨ m = 6 ∨ m = 7 ∨ m = 8 := by omega
      all_goals
        simp only [Nat.reduceAdd, Nat.reduceSub, Nat.reducePow, Nat.reduceMul] at hn ⊢
        omega
    have hq2 : 2 ^ (7 - m) ≤ 128 := Nat.pow_le_pow_right (n := 2) (by omega) (show 7 - m ≤ 7 by omega)
    have hmod : n / 256 ^ m % 256 = n / 256 ^ m := Nat.mod_eq_of_lt (by omega)
    have hl := lead_mask ⟨m, by omega⟩ ⟨n / 256 ^ m, by omega⟩ hq
    simp only at hl
    rw [hmod] at hb
    have hv : foldV (n / 256 ^ m) (beV m n) = n := by
      rw [foldV_be]
      have := Nat.div_add_mod n (256 ^ m)
      rw [Nat.mul_comm] at this
      exact this
    refine ⟨?_, by rw [hb]; simp [beV_len]⟩
    rw [hb]
    simp only [List.cons_append, getV]
    rw [hl.1, hl.2]
    have ht : (beV m n ++ rest).take m = beV m n := by
      rw [List.take_append_of_le_length (by simp [beV_len])]
      exact List.take_of_length_le (by simp [beV_len])
    rw [ht, hv, if_neg (by simp [beV_len]), if_pos hk]
  have hs : 1 ≤ sizeV n ∧ sizeV n ≤ 9 ∧ (sizeV n = 9 ∨ n < 2 ^ (7 * sizeV n)) := by
    unfold sizeV
    repeat' split
    all_goals (refine ⟨by omega, by omega, ?_⟩; first | exact Or.inl rfl | (right; assumption))
  obtain ⟨a, b⟩ := key _ rfl hs.1 hs.2.1 hs.2.2
  exact ⟨a, b, hs.1, hs.2.1⟩

theorem get_put (l : List Nat) (n k : Nat) (hl : ∀ x ∈ l, x < 256) (h : getV l = (n, k, 0)) : l.take k = putV n ∧ k ≤ l.length ∧ 1 ≤ k ∧ k ≤ 9 ∧ sizeV n = k ∧ n < 18446744073709551616 := by
  match l, hl, h with
  | [], _, h => simp [getV] at h
  | b :: t, hl, h =>
    have hb := hl b (by simp)
    have ht : ∀ x ∈ t.take (leadV b), x < 256 := fun x hx => hl x (by simp [List.mem_of_mem_take hx])
    simp only [getV] at h
    split at h
    · simp at h
    · rename_i h1
      split at h
      · rename_i h2
        simp only [Prod.mk.injEq, and_true] at h
        obtain ⟨hn, rfl⟩ := h
        rw [hn] at h2
        have hlen : (t.take (leadV b)).length = leadV b := by simp; omega
        have h3 := beV_fold (t.take (leadV b)) (b % 2 ^ (7 - leadV b)) ht
        rw [hlen, hn] at h3
        have h4 := beV_fold.fold_div (t.take (leadV b)) (b % 2 ^ (7 - leadV b)) ht
        rw [hlen, hn] at h4
        have h5 := lead_back ⟨b, hb⟩
        simp only at h5
        refine ⟨?_, by simp; omega, by omega, by omega, h2, ?_⟩
        · simp only [List.take_succ_cons, putV, h2, beV]
          rw [h3, h4]
          congr 1
          exact h5.2.1
        · have h6 : n < (b % 2 ^ (7 - leadV b) + 1) * 256 ^ leadV b := by
            have := Nat.lt_mul_of_div_lt (Nat.lt_succ_self (n / 256 ^ leadV b)) (Nat.pow_pos (by omega))
            rw [h4] at this
            exact this
          have h7 := h5.2.2.2
          omega
      · simp at h
end Go.Proofs.YtaelddnkdklijaaDoor.Vp
