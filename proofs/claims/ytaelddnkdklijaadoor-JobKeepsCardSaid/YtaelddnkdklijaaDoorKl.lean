/- JobKeeps: what follows keeps what is asked; joined with the walk. -/
import Derived.Test.YtaelddnkdklijaaDoorKk
import Derived.Test.YtaelddnkdklijaaDoorPi
set_option linter.unusedSimpArgs false
set_option linter.unusedVariables false
namespace Go.Proofs.YtaelddnkdklijaaDoor.Kl
open Go Go.RowKit Go.Shelf Go.Proofs Go.Proofs.YtaelddnkdklijaaDoor.Jp Go.Proofs.YtaelddnkdklijaaDoor.Jw Go.Proofs.YtaelddnkdklijaaDoor.Ja Go.Proofs.YtaelddnkdklijaaDoor.Jk Go.Proofs.YtaelddnkdklijaaDoor.Pi Go.Proofs.YtaelddnkdklijaaDoor.Kk


theorem ok_parts (pe : ByteArray → Int) (j : Job) (h : jobOk pe j = true) : 1 ≤ j.id ∧ j.id ≤ 1099511627776 ∧ (j.name.size : Int) ≤ 32 ∧ (j.payload.size : Int) ≤ 200 ∧ 0 ≤ j.tries ∧ j.tries ≤ 16 ∧ ruleOk pe j.rule = true := by
  unfold jobOk sizesOk within at h
  simp only [Bool.and_eq_true, decide_eq_true_eq] at h
  exact ⟨h.1.1.1.1.1.1, h.1.1.1.1.1.2, h.1.1.1.1.2, h.1.1.1.2, h.1.2.1, h.1.2.2, h.2.2⟩
theorem ok_of (pe : ByteArray → Int) (id : Int) (name rule payload : ByteArray) (status due tries worker token till : Int) (h1 : 1 ≤ id) (h2 : id ≤ 1099511627776) (h3 : (name.size : Int) ≤ 32) (h4 : (payload.size : Int) ≤ 200)
    (h5 : 0 ≤ due) (h6 : due ≤ 32503680000) (h7 : 0 ≤ tries) (h8 : tries ≤ 16) (h9 : ruleOk pe rule = true) (hs : statusOk ⟨id, name, rule, payload, status, due, tries, worker, token, till⟩ = true) :
    jobOk pe ⟨id, name, rule, payload, status, due, tries, worker, token, till⟩ = true := by
  unfold jobOk sizesOk within
  simp only [Bool.and_eq_true, decide_eq_true_eq]
  exact ⟨⟨⟨⟨⟨⟨h1, h2⟩, h3⟩, h4⟩, h5, h6⟩, h7, h8⟩, hs, h9⟩
theorem empty_ok (pe : ByteArray → Int) : ruleOk pe ⟨#[]⟩ = true := by simp [ruleOk, e_list]

theorem lease_keeps (pe : ByteArray → Int) (j : Job) (wo tk ti : Int) : ((leaseF pe j wo tk ti).2 == 0) = false ∨
    ((leaseF pe j wo tk ti).2 == 0) = true ∧ eno (jobOk pe (leaseF pe j wo tk ti).1) 9 = 0 ∧ ((leaseF pe j wo tk ti).1.id != j.id) = false ∧ ((leaseF pe j wo tk ti).1.name.toList == j.name.toList) = true ∧ ((leaseF pe j wo tk ti).1.rule.toList == j.rule.toList) = true ∧ ((leaseF pe j wo tk ti).1.payload.toList == j.payload.toList) = true ∧ ((leaseF pe j wo tk ti).1.tries != j.tries) = false := by
  unfold leaseF
  cases hJ : jobOk pe j
  · left; rfl
  obtain ⟨a1, a2, a3, a4, a5, a6, a7⟩ := ok_parts pe j hJ
  by_cases h1 : j.status = 1
  · cases hm : holderMay wo tk ti
    · left; simp [h1]
    · right
      have h := ok_of pe j.id j.name j.rule j.payload 2 0 j.tries wo tk ti a1 a2 a3 a4 (by omega) (by omega) a5 a6 a7 (by simp [statusOk, hm])
      simp only [h1, not_true_eq_false, if_false, Bool.true_eq_false, Bool.false_eq_true]
      rw [h]
      simp [eno]
  · left; simp [h1]

theorem fail_keeps (j : Job) (l : Lim) (now : Int) : ((failF peF nxF j l now).2 == 0) = false ∨
    ((failF peF nxF j l now).2 == 0) = true ∧ eno (jobOk peF (failF peF nxF j l now).1) 9 = 0 ∧ ((failF peF nxF j l now).1.id != j.id) = false ∧ ((failF peF nxF j l now).1.name.toList == j.name.toList) = true ∧ ((failF peF nxF j l now).1.payload.toList == j.payload.toList) = true ∧ ((failF peF nxF j l now).1.status == 2) = false := by
  obtain ⟨lb, lc, lt⟩ := l
  unfold failF
  cases hJ : jobOk peF j
  · left; rfl
  obtain ⟨a1, a2, a3, a4, a5, a6, a7⟩ := ok_parts peF j hJ
  cases hL : limOk ⟨lb, lc, lt⟩
  · left; rfl
  by_cases h2 : j.status = 2
  · cases hn : within now 0 32503679999
    · left; simp [h2]
    · right
      have hn' : 0 ≤ now ∧ now ≤ 32503679999 := by
        unfold within at hn
        simpa using hn
      simp only [h2, not_true_eq_false, if_false, Bool.true_eq_false, Bool.false_eq_true]
      split
      · rename_i hd
        have hb := delayF_bd lb lc lt (min (j.tries + 1) 16 - 1) hL (by omega)
        have h := ok_of peF j.id j.name j.rule j.payload 1 (now + delayF ⟨lb, lc, lt⟩ (min (j.tries + 1) 16 - 1)) (min (j.tries + 1) 16) 0 0 0 a1 a2 a3 a4 (by have := hb.1; omega) (by have := hd.1; unfold maxTime at this; omega) (by omega) (by omega) a7 (by simp [statusOk, noHolder])
        simp only
        rw [h]
        simp [eno]
      · split
        · rename_i hr
          have hb := nxF_bd j.rule now hr.2
          have h := ok_of peF j.id j.name j.rule j.payload 1 (nxF j.rule now).1 0 0 0 0 a1 a2 a3 a4 hb.1 hb.2 (by omega) (by omega) a7 (by simp [statusOk, noHolder])
          simp only
          rw [h]
          simp [eno]
        · have h := ok_of peF j.id j.name ⟨#[]⟩ j.payload 3 now (min (j.tries + 1) 16) 0 0 0 a1 a2 a3 a4 hn'.1 (by omega) (by omega) (by omega) (empty_ok peF) (by simp [statusOk, noHolder, e_list])
          simp only
          rw [h]
          simp [eno]
  · left; simp [h2]

theorem fin_keeps (j : Job) (now : Int) : ((finF peF nxF j now).2.2 == 0) = false ∨ (((finF peF nxF j now).2.2 == 0) = true ∧ (finF peF nxF j now).2.1 = false ∧ ((finF peF nxF j now).1.id == j.id) = false) ∨
    ((finF peF nxF j now).2.2 == 0) = true ∧ (finF peF nxF j now).2.1 = true ∧ eno (jobOk peF (finF peF nxF j now).1) 9 = 0 ∧ ((finF peF nxF j now).1.id == j.id) = true ∧ ((finF peF nxF j now).1.status == 1) = true ∧ ((finF peF nxF j now).1.tries == 0) = true := by
  unfold finF
  cases hJ : jobOk peF j
  · left; rfl
  obtain ⟨a1, a2, a3, a4, a5, a6, a7⟩ := ok_parts peF j hJ
  by_cases h2 : j.status = 2
  · cases hn : within now 0 32503679999
    · left; simp [h2]
    · right
      simp only [h2, not_true_eq_false, if_false, Bool.true_eq_false, Bool.false_eq_true]
      split
      · right
        rename_i hr
        have hb := nxF_bd j.rule now hr.2
        have h := ok_of peF j.id j.name j.rule j.payload 1 (nxF j.rule now).1 0 0 0 0 a1 a2 a3 a4 hb.1 hb.2 (by omega) (by omega) a7 (by simp [statusOk, noHolder])
        simp only
        rw [h]
        simp [eno]
      · left
        refine ⟨rfl, rfl, ?_⟩
        show ((0 : Int) == j.id) = false
        exact beq_eq_false_iff_ne.2 (by omega)
  · left; simp [h2]

theorem failF_rule (j : Job) (l : Lim) (now : Int) : (failF peF nxF j l now).1.rule.size ≤ j.rule.size := by
  unfold failF
  repeat' split
  all_goals first | exact Nat.le_refl _ | exact Nat.zero_le _
theorem leaseF_rule (j : Job) (a b c : Int) : (leaseF peF j a b c).1.rule.size ≤ j.rule.size := by
  unfold leaseF
  repeat' split
  all_goals first | exact Nat.le_refl _ | exact Nat.zero_le _
theorem finF_rule (j : Job) (now : Int) : (finF peF nxF j now).1.rule.size ≤ j.rule.size := by
  unfold finF
  repeat' split
  all_goals first | exact Nat.le_refl _ | exact Nat.zero_le _

theorem keeps_calls (m : Int) (id : Int) (name rule payload : ByteArray) (status due tries worker token till : Int) (wo tk ti b c t : Int) (w : World) (hs : rule.size < 9223372036854775808) (he : Env m w) :
    Calls Tryd.prog 5 #[.agg #[.int .i64 id, .string name, .string rule, .string payload, .int .i64 status, .int .i64 due, .int .i64 tries, .int .i64 worker, .int .i64 token, .int .i64 till], .int .i64 wo, .int .i64 tk, .int .i64 ti, .agg #[.int .i64 b, .int .i64 c, .int .i64 t]] w fun e w' => e = .returned (.bool true) ∧ Below w.heap.size w w' := by
  have r1 := leaseF_rule (⟨id, name, rule, payload, status, due, tries, worker, token, till⟩ : Job) wo tk ti
  have r2 := failF_rule (⟨id, name, rule, payload, status, due, tries, worker, token, till⟩ : Job) ⟨b, c, t⟩ ti
  have r3 := finF_rule (⟨id, name, rule, payload, status, due, tries, worker, token, till⟩ : Job) ti
  have d1 := lease_keeps peF (⟨id, name, rule, payload, status, due, tries, worker, token, till⟩ : Job) wo tk ti
  have d2 := fail_keeps (⟨id, name, rule, payload, status, due, tries, worker, token, till⟩ : Job) ⟨b, c, t⟩ ti
  have d3 := fin_keeps (⟨id, name, rule, payload, status, due, tries, worker, token, till⟩ : Job) ti
  have hL := fun W (hW : Below w.heap.size w W) => lease_t m id name rule payload status due tries worker token till wo tk ti W hs (he.below hW)
  have hF := fun W (hW : Below w.heap.size w W) => fail_t m id name rule payload status due tries worker token till b c t ti W hs (he.below hW)
  have hN := fun W (hW : Below w.heap.size w W) => fin_t m id name rule payload status due tries worker token till ti W hs (he.below hW)
  generalize leaseF peF (⟨id, name, rule, payload, status, due, tries, worker, token, till⟩ : Job) wo tk ti = p1 at *
  generalize failF peF nxF (⟨id, name, rule, payload, status, due, tries, worker, token, till⟩ : Job) ⟨b, c, t⟩ ti = p2 at *
  generalize finF peF nxF (⟨id, name, rule, payload, status, due, tries, worker, token, till⟩ : Job) ti = p3 at *
  obtain ⟨⟨aid, aname, arule, apayload, astatus, adue, atries, aworker, atoken, atill⟩, n1⟩ := p1
  obtain ⟨⟨bid, bname, brule, bpayload, bstatus, bdue, btries, bworker, btoken, btill⟩, n2⟩ := p2
  obtain ⟨⟨cid, cname, crule, cpayload, cstatus, cdue, ctries, cworker, ctoken, ctill⟩, is, n3⟩ := p3
  simp only at r1 r2 r3 d1 d2 d3
  refine keeps_walk id name rule payload status due tries worker token till aid aname arule apayload astatus adue atries aworker atoken atill bid bname brule bpayload bstatus bdue btries bworker btoken btill cid cname crule cpayload cstatus cdue ctries cworker ctoken ctill
    wo tk ti b c t n1 n2 n3 _ _ _ is w
    (fun W hW => (hL W hW).mono fun e w' ⟨a, n, h, h'⟩ => by cases h; exact h')
    (fun W hW => (hF W hW).mono fun e w' ⟨a, n, h, h'⟩ => by cases h; exact h')
    (fun W hW => (hN W hW).mono fun e w' ⟨a, i, n, h, h'⟩ => by cases h; exact h')
    (fun W hW => check_t m _ _ _ _ _ _ _ _ _ _ W (by omega) (he.below hW))
    (fun W hW => check_t m _ _ _ _ _ _ _ _ _ _ W (by omega) (he.below hW))
    (fun W hW => check_t m _ _ _ _ _ _ _ _ _ _ W (by omega) (he.below hW)) d1 d2 d3
end Go.Proofs.YtaelddnkdklijaaDoor.Kl
