/- One turns the other back: plain; and Encode for every job. -/
import Derived.Test.YtaelddnkdklijaaDoorVf
set_option linter.unusedVariables false
set_option linter.unusedSimpArgs false
namespace Go.Proofs.YtaelddnkdklijaaDoor.Vg
open Go Go.RowKit Go.Shelf Go.Proofs Go.Proofs.YtaelddnkdklijaaDoor.Jp Go.Proofs.YtaelddnkdklijaaDoor.Jw Go.Proofs.YtaelddnkdklijaaDoor.Ja Go.Proofs.YtaelddnkdklijaaDoor.Jk Go.Proofs.YtaelddnkdklijaaDoor.Vw Go.Proofs.YtaelddnkdklijaaDoor.Vp Go.Proofs.YtaelddnkdklijaaDoor.Va Go.Proofs.YtaelddnkdklijaaDoor.Vb Go.Proofs.YtaelddnkdklijaaDoor.Vc Go.Proofs.YtaelddnkdklijaaDoor.Vd Go.Proofs.YtaelddnkdklijaaDoor.Ve Go.Proofs.YtaelddnkdklijaaDoor.Vf

theorem num_any (most a : Nat) (code : Int) (rest : List Nat) (h : a ≤ most) (hm : most < 18446744073709551616) : numF most code (putV a ++ rest) 0 = (a, rest, 0) := by
  obtain ⟨h1, h2, _⟩ := put_get a rest (by omega)
  unfold numF
  rw [h1]
  simp only [ne_eq, not_true_eq_false, if_false]
  rw [if_neg (by omega), ← h2, List.drop_left]
theorem num_step (a : Nat) (rest : List Nat) (h : a ≤ 1099511627776) : nF (putV a ++ rest) 0 = (a, rest, 0) := num_any _ a 4 rest h (by omega)
theorem text_step (s : ByteArray) (rest : List Nat) (h : s.size ≤ 256) : textF (putV s.size ++ (octs s ++ rest)) 0 = (octs s, rest, 0) := by
  unfold textF
  rw [num_any 256 s.size 5 _ h (by omega)]
  simp only [if_true]
  have hl := octs_len s
  rw [if_neg (by simp only [List.length_append]; omega), ← hl, List.take_left, List.drop_left]

theorem dec_enc (a1 a2 a3 a4 a5 a6 a7 : Nat) (name rule payload : ByteArray) (b1 : a1 ≤ 1099511627776) (b2 : a2 ≤ 1099511627776) (b3 : a3 ≤ 1099511627776) (b4 : a4 ≤ 1099511627776) (b5 : a5 ≤ 1099511627776) (b6 : a6 ≤ 1099511627776) (b7 : a7 ≤ 1099511627776)
    (z1 : name.size ≤ 256) (z2 : rule.size ≤ 256) (z3 : payload.size ≤ 256) : decL (encL a1 a2 a3 a4 a5 a6 a7 name rule payload) = (⟨a1, name, rule, payload, a2, a3, a4, a5, a6, a7⟩, [], 0) := by
  have e : octs payload = octs payload ++ [] := (List.append_nil _).symm
  unfold decL encL
  simp only [num_step _ _ b1, num_step _ _ b2, num_step _ _ b3, num_step _ _ b4, num_step _ _ b5, num_step _ _ b6, num_step _ _ b7, text_step _ _ z1, text_step _ _ z2]
  rw [e]
  simp only [text_step _ _ z3, strOf_octs]

theorem num_back (most : Nat) (code : Int) (l l' : List Nat) (e : Int) (n : Nat) (hl : ∀ x ∈ l, x < 256) (hc : code ≠ 0) (h : numF most code l e = (n, l', 0)) : e = 0 ∧ l = putV n ++ l' ∧ n ≤ most := by
  unfold numF at h
  split at h
  · rename_i h1
    simp only [Prod.mk.injEq] at h
    exact absurd h.2.2 h1
  · rename_i h1
    split at h
    · rename_i h2
      simp only [Prod.mk.injEq] at h
      exact absurd h.2.2 h2
    · rename_i h2
      split at h
      · simp only [Prod.mk.injEq] at h
        exact absurd h.2.2 hc
      · rename_i h3
        simp only [Prod.mk.injEq, and_true] at h
        obtain ⟨rfl, rfl⟩ := h
        have hg : getV l = ((getV l).1, (getV l).2.1, 0) := by
          have : (getV l).2.2 = 0 := by simpa using h2
          rw [← this]
        obtain ⟨p, _⟩ := get_put l _ _ hl hg
        refine ⟨by simpa using h1, ?_, by omega⟩
        rw [← p, List.take_append_drop]
theorem text_back (l l' t : List Nat) (e : Int) (hl : ∀ x ∈ l, x < 256) (h : textF l e = (t, l', 0)) : e = 0 ∧ l = putV t.length ++ (t ++ l') ∧ t.length ≤ 256 := by
  unfold textF at h
  split at h
  · rename_i h1
    have hq : numF 256 5 l e = ((numF 256 5 l e).1, (numF 256 5 l e).2.1, 0) := by rw [← h1]
    obtain ⟨p1, p2, p3⟩ := num_back 256 5 l _ e _ hl (by omega) hq
    split at h
    · simp at h
    · rename_i h2
      simp only [Prod.mk.injEq, and_true] at h
      obtain ⟨rfl, rfl⟩ := h
      have hlen : ((numF 256 5 l e).2.1.take (numF 256 5 l e).1).length = (numF 256 5 l e).1 := by simp; omega
      rw [hlen, List.take_append_drop]
      exact ⟨p1, p2, p3⟩
  · rename_i h1
    simp only [Prod.mk.injEq] at h
    exact absurd h.2.2 h1

theorem enc_dec (l : List Nat) (hl : ∀ x ∈ l, x < 256) (j : Job) (h : decL l = (j, [], 0)) : ∃ a1 a2 a3 a4 a5 a6 a7 : Nat, j.id = a1 ∧ j.status = a2 ∧ j.due = a3 ∧ j.tries = a4 ∧ j.worker = a5 ∧ j.token = a6 ∧ j.till = a7 ∧ l = encL a1 a2 a3 a4 a5 a6 a7 j.name j.rule j.payload := by
  unfold decL at h
  have o1 := numF_mem 1099511627776 4 l 0 hl
  change ∀ x ∈ (nF l 0).2.1, x < 256 at o1
  have k1 := fun n l' => num_back 1099511627776 4 l l' 0 n hl (by omega)
  change ∀ n l', nF l 0 = (n, l', 0) → _ at k1
  generalize nF l 0 = r1 at *
  obtain ⟨n1, l1, e1⟩ := r1
  simp only at h o1
  have o2 := numF_mem 1099511627776 4 l1 e1 o1
  change ∀ x ∈ (nF l1 e1).2.1, x < 256 at o2
  have k2 := fun n l' => num_back 1099511627776 4 l1 l' e1 n o1 (by omega)
  change ∀ n l', nF l1 e1 = (n, l', 0) → _ at k2
  generalize nF l1 e1 = r2 at *
  obtain ⟨n2, l2, e2⟩ := r2
  simp only at h o2
  have o3 := numF_mem 1099511627776 4 l2 e2 o2
  change ∀ x ∈ (nF l2 e2).2.1, x < 256 at o3
  have k3 := fun n l' => num_back 1099511627776 4 l2 l' e2 n o2 (by omega)
  change ∀ n l', nF l2 e2 = (n, l', 0) → _ at k3
  generalize nF l2 e2 = r3 at *
  obtain ⟨n3, l3, e3⟩ := r3
  simp only at h o3
  have o4 := numF_mem 1099511627776 4 l3 e3 o3
  change ∀ x ∈ (nF l3 e3).2.1, x < 256 at o4
  have k4 := fun n l' => num_back 1099511627776 4 l3 l' e3 n o3 (by omega)
  change ∀ n l', nF l3 e3 = (n, l', 0) → _ at k4
  generalize nF l3 e3 = r4 at *
  obtain ⟨n4, l4, e4⟩ := r4
  simp only at h o4
  have o5 := numF_mem 1099511627776 4 l4 e4 o4
  change ∀ x ∈ (nF l4 e4).2.1, x < 256 at o5
  have k5 := fun n l' => num_back 1099511627776 4 l4 l' e4 n o4 (by omega)
  change ∀ n l', nF l4 e4 = (n, l', 0) → _ at k5
  generalize nF l4 e4 = r5 at *
  obtain ⟨n5, l5, e5⟩ := r5
  simp only at h o5
  have o6 := numF_mem 1099511627776 4 l5 e5 o5
  change ∀ x ∈ (nF l5 e5).2.1, x < 256 at o6
  have k6 := fun n l' => num_back 1099511627776 4 l5 l' e5 n o5 (by omega)
  change ∀ n l', nF l5 e5 = (n, l', 0) → _ at k6
  generalize nF l5 e5 = r6 at *
  obtain ⟨n6, l6, e6⟩ := r6
  simp only at h o6
  have o7 := numF_mem 1099511627776 4 l6 e6 o6
  change ∀ x ∈ (nF l6 e6).2.1, x < 256 at o7
  have k7 := fun n l' => num_back 1099511627776 4 l6 l' e6 n o6 (by omega)
  change ∀ n l', nF l6 e6 = (n, l', 0) → _ at k7
  generalize nF l6 e6 = r7 at *
  obtain ⟨n7, l7, e7⟩ := r7
  simp only at h o7
  have k8 := fun t l' => text_back l7 l' t e7 o7
  obtain ⟨o8, y8⟩ := textF_mem l7 e7 o7
  generalize textF l7 e7 = t8 at *
  obtain ⟨s8, l8, e8⟩ := t8
  simp only at h o8 y8
  have k9 := fun t l' => text_back l8 l' t e8 o8
  obtain ⟨o9, y9⟩ := textF_mem l8 e8 o8
  generalize textF l8 e8 = t9 at *
  obtain ⟨s9, l9, e9⟩ := t9
  simp only at h o9 y9
  have k10 := fun t l' => text_back l9 l' t e9 o9
  obtain ⟨_, y10⟩ := textF_mem l9 e9 o9
  generalize textF l9 e9 = t10 at *
  obtain ⟨s10, l10, e10⟩ := t10
  simp only [Prod.mk.injEq] at h y10
  obtain ⟨rfl, rfl, rfl⟩ := h
  obtain ⟨rfl, q10, _⟩ := k10 s10 [] rfl
  obtain ⟨rfl, q9, _⟩ := k9 s9 l9 rfl
  obtain ⟨rfl, q8, _⟩ := k8 s8 l8 rfl
  obtain ⟨rfl, q7, _⟩ := k7 n7 l7 rfl
  obtain ⟨rfl, q6, _⟩ := k6 n6 l6 rfl
  obtain ⟨rfl, q5, _⟩ := k5 n5 l5 rfl
  obtain ⟨rfl, q4, _⟩ := k4 n4 l4 rfl
  obtain ⟨rfl, q3, _⟩ := k3 n3 l3 rfl
  obtain ⟨rfl, q2, _⟩ := k2 n2 l2 rfl
  obtain ⟨_, q1, _⟩ := k1 n1 l1 rfl
  refine ⟨n1, n2, n3, n4, n5, n6, n7, rfl, rfl, rfl, rfl, rfl, rfl, rfl, ?_⟩
  unfold encL
  simp only [strOf_size, octs_strOf _ y8, octs_strOf _ y9, octs_strOf _ y10]
  rw [q1, q2, q3, q4, q5, q6, q7, q8, q9, q10, List.append_nil]
end Go.Proofs.YtaelddnkdklijaaDoor.Vg
