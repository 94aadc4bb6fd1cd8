/- Encode and Decode, for every job and every text; one turns the other back. -/
import Derived.Test.YtaelddnkdklijaaDoorVe
set_option linter.unusedVariables false
set_option linter.unusedSimpArgs false
namespace Go.Proofs.YtaelddnkdklijaaDoor.Vf
open Go Go.RowKit Go.Shelf Go.Proofs Go.Proofs.YtaelddnkdklijaaDoor.Jp Go.Proofs.YtaelddnkdklijaaDoor.Jw Go.Proofs.YtaelddnkdklijaaDoor.Ja Go.Proofs.YtaelddnkdklijaaDoor.Jk Go.Proofs.YtaelddnkdklijaaDoor.Vw Go.Proofs.YtaelddnkdklijaaDoor.Vp Go.Proofs.YtaelddnkdklijaaDoor.Va Go.Proofs.YtaelddnkdklijaaDoor.Vb Go.Proofs.YtaelddnkdklijaaDoor.Vc Go.Proofs.YtaelddnkdklijaaDoor.Vd Go.Proofs.YtaelddnkdklijaaDoor.Ve

def nF (l : List Nat) (e : Int) : Nat × List Nat × Int := numF 1099511627776 4 l e

theorem numF_len (most : Nat) (code : Int) (l : List Nat) (err : Int) : (numF most code l err).2.1.length ≤ l.length := by
  unfold numF
  repeat' split
  all_goals first | exact Nat.le_refl _ | (simp; done) | (simp; omega)
theorem textF_len (l : List Nat) (err : Int) : (textF l err).2.1.length ≤ l.length := by
  have := numF_len 256 5 l err
  unfold textF
  repeat' split
  all_goals first | exact this | (simp only [List.length_drop]; omega)
theorem textF_mem (l : List Nat) (err : Int) (h : ∀ x ∈ l, x < 256) : (∀ x ∈ (textF l err).2.1, x < 256) ∧ ∀ x ∈ (textF l err).1, x < 256 := by
  have hm := numF_mem 256 5 l err h
  unfold textF
  repeat' split
  all_goals first
    | exact ⟨hm, fun x hx => by simp at hx⟩
    | exact ⟨fun x hx => hm x (List.mem_of_mem_drop hx), fun x hx => hm x (List.mem_of_mem_take hx)⟩
theorem textF_fst (l : List Nat) (err : Int) : (textF l err).1.length ≤ l.length := by
  have := numF_len 256 5 l err
  unfold textF
  repeat' split
  all_goals first | (simp; done) | (simp only [List.length_take]; omega)

theorem numC (l : List Nat) (e : Int) (hl : ∀ x ∈ l, x < 256) : NumC l e (nF l e).1 (nF l e).2.1 (nF l e).2.2 := fun q g W hc =>
  number_calls q g 1099511627776 4 e l W hl hc (by omega)
theorem txtC (l : List Nat) (e : Int) (hl : ∀ x ∈ l, x < 256) (hz : l.length < 9223372036854775807) : TxtC l e (strOf (textF l e).1) (textF l e).2.1 (textF l e).2.2 := fun q g W hc =>
  text_calls q g e l W hl hc hz

def decL (l : List Nat) : Job × List Nat × Int :=
  let r1 := nF l 0
  let r2 := nF r1.2.1 r1.2.2
  let r3 := nF r2.2.1 r2.2.2
  let r4 := nF r3.2.1 r3.2.2
  let r5 := nF r4.2.1 r4.2.2
  let r6 := nF r5.2.1 r5.2.2
  let r7 := nF r6.2.1 r6.2.2
  let t1 := textF r7.2.1 r7.2.2
  let t2 := textF t1.2.1 t1.2.2
  let t3 := textF t2.2.1 t2.2.2
  (⟨(r1.1 : Nat), strOf t1.1, strOf t2.1, strOf t3.1, (r2.1 : Nat), (r3.1 : Nat), (r4.1 : Nat), (r5.1 : Nat), (r6.1 : Nat), (r7.1 : Nat)⟩, t3.2.1, t3.2.2)

def decF (s : ByteArray) : Job × Int :=
  if (decL (octs s)).2.2 ≠ 0 then (zero, (decL (octs s)).2.2) else if (decL (octs s)).2.1 ≠ [] then (zero, 23)
  else if jobOk peF (decL (octs s)).1 = true then ((decL (octs s)).1, 0) else (zero, 9)

theorem octs_len (s : ByteArray) : (octs s).length = s.size := by unfold octs; simp
theorem strOf_size (l : List Nat) : (strOf l).size = l.length := by
  show (l.map UInt8.ofNat).toArray.size = l.length
  simp

set_option maxHeartbeats 1000000 in
theorem decode_t (s : ByteArray) (m : Int) (w : World) (hs : s.size < 9223372036854775807) (he : Env m w) : Calls Tryd.prog 21 #[.string s] w fun e w' => e = .returned (.tuple #[.agg #[.int .i64 (decF s).1.id, .string (decF s).1.name, .string (decF s).1.rule, .string (decF s).1.payload, .int .i64 (decF s).1.status, .int .i64 (decF s).1.due, .int .i64 (decF s).1.tries, .int .i64 (decF s).1.worker, .int .i64 (decF s).1.token, .int .i64 (decF s).1.till], .int .i64 (decF s).2]) ∧ Below w.heap.size w w' := by
  have o0 := octs_lt s
  have z0 := octs_len s
  unfold decF decL
  have c1 := numC (octs s) 0 o0
  have o1 := numF_mem 1099511627776 4 (octs s) 0 o0
  have z1 := numF_len 1099511627776 4 (octs s) 0
  change ∀ x ∈ (nF (octs s) 0).2.1, x < 256 at o1
  change (nF (octs s) 0).2.1.length ≤ _ at z1
  generalize nF (octs s) 0 = r1 at *
  obtain ⟨n1, l1, e1⟩ := r1
  have c2 := numC l1 e1 o1
  have o2 := numF_mem 1099511627776 4 l1 e1 o1
  have z2 := numF_len 1099511627776 4 l1 e1
  change ∀ x ∈ (nF l1 e1).2.1, x < 256 at o2
  change (nF l1 e1).2.1.length ≤ _ at z2
  simp only at *
  generalize nF l1 e1 = r2 at *
  obtain ⟨n2, l2, e2⟩ := r2
  have c3 := numC l2 e2 o2
  have o3 := numF_mem 1099511627776 4 l2 e2 o2
  have z3 := numF_len 1099511627776 4 l2 e2
  change ∀ x ∈ (nF l2 e2).2.1, x < 256 at o3
  change (nF l2 e2).2.1.length ≤ _ at z3
  simp only at *
  generalize nF l2 e2 = r3 at *
  obtain ⟨n3, l3, e3⟩ := r3
  have c4 := numC l3 e3 o3
  have o4 := numF_mem 1099511627776 4 l3 e3 o3
  have z4 := numF_len 1099511627776 4 l3 e3
  change ∀ x ∈ (nF l3 e3).2.1, x < 256 at o4
  change (nF l3 e3).2.1.length ≤ _ at z4
  simp only at *
  generalize nF l3 e3 = r4 at *
  obtain ⟨n4, l4, e4⟩ := r4
  have c5 := numC l4 e4 o4
  have o5 := numF_mem 1099511627776 4 l4 e4 o4
  have z5 := numF_len 1099511627776 4 l4 e4
  change ∀ x ∈ (nF l4 e4).2.1, x < 256 at o5
  change (nF l4 e4).2.1.length ≤ _ at z5
  simp only at *
  generalize nF l4 e4 = r5 at *
  obtain ⟨n5, l5, e5⟩ := r5
  have c6 := numC l5 e5 o5
  have o6 := numF_mem 1099511627776 4 l5 e5 o5
  have z6 := numF_len 1099511627776 4 l5 e5
  change ∀ x ∈ (nF l5 e5).2.1, x < 256 at o6
  change (nF l5 e5).2.1.length ≤ _ at z6
  simp only at *
  generalize nF l5 e5 = r6 at *
  obtain ⟨n6, l6, e6⟩ := r6
  have c7 := numC l6 e6 o6
  have o7 := numF_mem 1099511627776 4 l6 e6 o6
  have z7 := numF_len 1099511627776 4 l6 e6
  change ∀ x ∈ (nF l6 e6).2.1, x < 256 at o7
  change (nF l6 e6).2.1.length ≤ _ at z7
  simp only at *
  generalize nF l6 e6 = r7 at *
  obtain ⟨n7, l7, e7⟩ := r7
  simp only at *
  have c8 := txtC l7 e7 o7 (by omega)
  have o8 := (textF_mem l7 e7 o7).1
  have z8 := textF_len l7 e7
  have y8 := textF_fst l7 e7
  generalize textF l7 e7 = t8 at *
  obtain ⟨s8, l8, e8⟩ := t8
  simp only at *
  have c9 := txtC l8 e8 o8 (by omega)
  have o9 := (textF_mem l8 e8 o8).1
  have z9 := textF_len l8 e8
  have y9 := textF_fst l8 e8
  generalize textF l8 e8 = t9 at *
  obtain ⟨s9, l9, e9⟩ := t9
  simp only at *
  have c10 := txtC l9 e9 o9 (by omega)
  have z10 := textF_len l9 e9
  generalize textF l9 e9 = t10 at *
  obtain ⟨s10, l10, e10⟩ := t10
  simp only at *
  have hz : (strOf s9).size < 9223372036854775808 := by rw [strOf_size]; omega
  have hK := fun W (hW : Below w.heap.size w W) => check_t m (n1 : Int) (strOf s8) (strOf s9) (strOf s10) (n2 : Int) (n3 : Int) (n4 : Int) (n5 : Int) (n6 : Int) (n7 : Int) W hz (he.below hW)
  by_cases h0 : e10 = 0
  · subst h0
    simp only [ne_eq, not_true_eq_false, if_false]
    by_cases hl : l10 = []
    · subst hl
      simp only [not_true_eq_false, if_false]
      cases hj : jobOk peF ⟨(n1 : Int), strOf s8, strOf s9, strOf s10, (n2 : Int), (n3 : Int), (n4 : Int), (n5 : Int), (n6 : Int), (n7 : Int)⟩
      · rw [hj] at hK
        simp only [Bool.false_eq_true, if_false]
        exact dec_check s w (by omega) _ _ _ _ _ _ _ _ _ _ _ _ _ _ _ _ _ _ _ _ _ _ _ _ _ _ _ _ _ _ c1 c2 c3 c4 c5 c6 c7 c8 c9 c10 rfl rfl 9 rfl rfl hK
      · rw [hj] at hK
        simp only [if_true]
        exact dec_ok s w (by omega) _ _ _ _ _ _ _ _ _ _ _ _ _ _ _ _ _ _ _ _ _ _ _ _ _ _ _ _ _ _ c1 c2 c3 c4 c5 c6 c7 c8 c9 c10 rfl rfl hK
    · rw [if_pos hl]
      have : 0 < l10.length := List.length_pos_iff.2 hl
      exact dec_tail s w (by omega) _ _ _ _ _ _ _ _ _ _ _ _ _ _ _ _ _ _ _ _ _ _ _ _ _ _ _ _ _ _ c1 c2 c3 c4 c5 c6 c7 c8 c9 c10 rfl (by omega)
  · rw [if_pos h0]
    exact dec_err s w (by omega) _ _ _ _ _ _ _ _ _ _ _ _ _ _ _ _ _ _ _ _ _ _ _ _ _ _ _ _ _ _ c1 c2 c3 c4 c5 c6 c7 c8 c9 c10 (by simpa using h0) (by simpa using h0)
end Go.Proofs.YtaelddnkdklijaaDoor.Vf
