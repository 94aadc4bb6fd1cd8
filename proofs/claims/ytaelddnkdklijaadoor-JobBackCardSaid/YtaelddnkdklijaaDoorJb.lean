/- The walk of job.Check: by status; a rule that is empty, and one that is read by cron.Parse. -/
import Derived.Test.YtaelddnkdklijaaDoorJa
set_option linter.unusedSimpArgs false
set_option linter.unusedVariables false
namespace Go.Proofs.YtaelddnkdklijaaDoor.Ja
open Go.RowKit Go.Proofs.YtaelddnkdklijaaDoor.Jp Go.Proofs.YtaelddnkdklijaaDoor.Jw

/-- What cron.Parse is asked: it ends with a rule and the number of an error. -/
def ParseC (pe : ByteArray → Int) (rv : ByteArray → Rl) (s : ByteArray) (w0 : World) : Prop := ∀ w : World, Below w0.heap.size w0 w → Calls Tryd.prog 36 #[.string s] w fun e w' =>
  e = .returned (.tuple #[.agg #[.int .u64 (rv s).mi, .int .u64 (rv s).ho, .int .u64 (rv s).da, .int .u64 (rv s).mo, .int .u64 (rv s).we, .bool (rv s).anyD, .bool (rv s).anyW], .int .i64 (pe s)]) ∧ Below w.heap.size w w'
theorem ParseC.mono {pe : ByteArray → Int} {rv : ByteArray → Rl} {s : ByteArray} {w0 w1 : World} (h : ParseC pe rv s w0) (hb : Below w0.heap.size w0 w1) : ParseC pe rv s w1 := fun w hw => h w (bl_trans hb (Nat.le_refl _) hw)

set_option maxHeartbeats 1000000 in
theorem check_two_e (pe : ByteArray → Int) (rv : ByteArray → Rl) (id : Int) (name rule payload : ByteArray) (due tries worker token till : Int) (w : World) (hr : rule.toList = []) :
    Calls Tryd.prog 13 #[.agg #[.int .i64 id, .string name, .string rule, .string payload, .int .i64 2, .int .i64 due, .int .i64 tries, .int .i64 worker, .int .i64 token, .int .i64 till]] w fun e w' => e = .returned (.int .i64 (eno (jobOk pe ⟨id, name, rule, payload, 2, due, tries, worker, token, till⟩) 9)) ∧ Below w.heap.size w w' := by
  go_enter Tryd.func13, Tryd.ntmps13
  go_wp2_with (first
    | (go_at_call 33; refine (within_calls _ _ _ _).mono ?_; rintro e w' ⟨rfl, rfl⟩)
    | (go_at_call 34; refine (holder_calls _ _ _ _ _ _ _ _ _ _ _).mono ?_; rintro e w1 ⟨rfl, hb1⟩; obtain ⟨hc1, hf1⟩ := bl_cell hb1; have hz1 : w.heap.size < w1.heap.size := by have h := hb1.size; simp at h; omega)
    | (go_at_call 35; refine (may_calls _ _ _ _).mono ?_; rintro e w2 ⟨rfl, hb2⟩; obtain ⟨hc2, hf2⟩ := bl_cell hb2; have hz2 : w.heap.size < w2.heap.size := Nat.lt_of_lt_of_le hz1 hb2.size)
    | (go_at_call 36; refine (hP _ (by repeat' (first | (with_reducible exact Below.refl _ _) | (with_reducible assumption) | (with_reducible refine bl_alloc ?_ (Nat.le_refl _) _) | (with_reducible refine bl_drew ?_) | (with_reducible refine bl_drewN ?_ _) | (with_reducible refine bl_setRow ?_ (by first | (simp; done) | (simp; omega) | omega) _) | (with_reducible refine bl_setCell ?_ (by first | (simp; done) | (simp; omega) | omega) _) | (with_reducible refine bl_trans ?_ (Nat.le_refl _) (by assumption))))).mono ?_; rintro e w3 ⟨rfl, hb3⟩; obtain ⟨hc3, hf3⟩ := bl_cell hb3; have hz3 : w.heap.size < w3.heap.size := by have h := hb3.size; (try simp at h); omega))
  all_goals
    go_ret
    go_light
    refine ⟨?_, ?_⟩
    · first | (simp [eno, jobOk, sizesOk, statusOk, ruleOk, noHolder, *]; done) | (simp [eno, jobOk, sizesOk, statusOk, ruleOk, noHolder, *]; omega) | (simp [eno, jobOk, sizesOk, statusOk, ruleOk, noHolder, *]; intros; omega) | (simp_all [eno, jobOk, sizesOk, statusOk, ruleOk, noHolder]; done)
    · repeat' (first | (with_reducible exact Below.refl _ _) | (with_reducible assumption) | (with_reducible refine bl_alloc ?_ (Nat.le_refl _) _) | (with_reducible refine bl_drew ?_) | (with_reducible refine bl_drewN ?_ _) | (with_reducible refine bl_setRow ?_ (by first | (simp; done) | (simp; omega) | omega) _) | (with_reducible refine bl_setCell ?_ (by first | (simp; done) | (simp; omega) | omega) _) | (with_reducible refine bl_trans ?_ (Nat.le_refl _) (by assumption)))

set_option maxHeartbeats 1000000 in
theorem check_two_n (pe : ByteArray → Int) (rv : ByteArray → Rl) (id : Int) (name rule payload : ByteArray) (due tries worker token till : Int) (w : World) (hr : rule.toList.isEmpty = false) (hP : ParseC pe rv rule w) :
    Calls Tryd.prog 13 #[.agg #[.int .i64 id, .string name, .string rule, .string payload, .int .i64 2, .int .i64 due, .int .i64 tries, .int .i64 worker, .int .i64 token, .int .i64 till]] w fun e w' => e = .returned (.int .i64 (eno (jobOk pe ⟨id, name, rule, payload, 2, due, tries, worker, token, till⟩) 9)) ∧ Below w.heap.size w w' := by
  go_enter Tryd.func13, Tryd.ntmps13
  go_wp2_with (first
    | (go_at_call 33; refine (within_calls _ _ _ _).mono ?_; rintro e w' ⟨rfl, rfl⟩)
    | (go_at_call 34; refine (holder_calls _ _ _ _ _ _ _ _ _ _ _).mono ?_; rintro e w1 ⟨rfl, hb1⟩; obtain ⟨hc1, hf1⟩ := bl_cell hb1; have hz1 : w.heap.size < w1.heap.size := by have h := hb1.size; simp at h; omega)
    | (go_at_call 35; refine (may_calls _ _ _ _).mono ?_; rintro e w2 ⟨rfl, hb2⟩; obtain ⟨hc2, hf2⟩ := bl_cell hb2; have hz2 : w.heap.size < w2.heap.size := Nat.lt_of_lt_of_le hz1 hb2.size)
    | (go_at_call 36; refine (hP _ (by repeat' (first | (with_reducible exact Below.refl _ _) | (with_reducible assumption) | (with_reducible refine bl_alloc ?_ (Nat.le_refl _) _) | (with_reducible refine bl_drew ?_) | (with_reducible refine bl_drewN ?_ _) | (with_reducible refine bl_setRow ?_ (by first | (simp; done) | (simp; omega) | omega) _) | (with_reducible refine bl_setCell ?_ (by first | (simp; done) | (simp; omega) | omega) _) | (with_reducible refine bl_trans ?_ (Nat.le_refl _) (by assumption))))).mono ?_; rintro e w3 ⟨rfl, hb3⟩; obtain ⟨hc3, hf3⟩ := bl_cell hb3; have hz3 : w.heap.size < w3.heap.size := by have h := hb3.size; (try simp at h); omega))
  all_goals
    go_ret
    go_light
    refine ⟨?_, ?_⟩
    · first | (simp [eno, jobOk, sizesOk, statusOk, ruleOk, noHolder, *]; done) | (simp [eno, jobOk, sizesOk, statusOk, ruleOk, noHolder, *]; omega) | (simp [eno, jobOk, sizesOk, statusOk, ruleOk, noHolder, *]; intros; omega) | (simp_all [eno, jobOk, sizesOk, statusOk, ruleOk, noHolder]; done)
    · repeat' (first | (with_reducible exact Below.refl _ _) | (with_reducible assumption) | (with_reducible refine bl_alloc ?_ (Nat.le_refl _) _) | (with_reducible refine bl_drew ?_) | (with_reducible refine bl_drewN ?_ _) | (with_reducible refine bl_setRow ?_ (by first | (simp; done) | (simp; omega) | omega) _) | (with_reducible refine bl_setCell ?_ (by first | (simp; done) | (simp; omega) | omega) _) | (with_reducible refine bl_trans ?_ (Nat.le_refl _) (by assumption)))

set_option maxHeartbeats 1000000 in
theorem check_three_e (pe : ByteArray → Int) (rv : ByteArray → Rl) (id : Int) (name rule payload : ByteArray) (due tries worker token till : Int) (w : World) (hr : rule.toList = []) :
    Calls Tryd.prog 13 #[.agg #[.int .i64 id, .string name, .string rule, .string payload, .int .i64 3, .int .i64 due, .int .i64 tries, .int .i64 worker, .int .i64 token, .int .i64 till]] w fun e w' => e = .returned (.int .i64 (eno (jobOk pe ⟨id, name, rule, payload, 3, due, tries, worker, token, till⟩) 9)) ∧ Below w.heap.size w w' := by
  go_enter Tryd.func13, Tryd.ntmps13
  go_wp2_with (first
    | (go_at_call 33; refine (within_calls _ _ _ _).mono ?_; rintro e w' ⟨rfl, rfl⟩)
    | (go_at_call 34; refine (holder_calls _ _ _ _ _ _ _ _ _ _ _).mono ?_; rintro e w1 ⟨rfl, hb1⟩; obtain ⟨hc1, hf1⟩ := bl_cell hb1; have hz1 : w.heap.size < w1.heap.size := by have h := hb1.size; simp at h; omega)
    | (go_at_call 35; refine (may_calls _ _ _ _).mono ?_; rintro e w2 ⟨rfl, hb2⟩; obtain ⟨hc2, hf2⟩ := bl_cell hb2; have hz2 : w.heap.size < w2.heap.size := Nat.lt_of_lt_of_le hz1 hb2.size)
    | (go_at_call 36; refine (hP _ (by repeat' (first | (with_reducible exact Below.refl _ _) | (with_reducible assumption) | (with_reducible refine bl_alloc ?_ (Nat.le_refl _) _) | (with_reducible refine bl_drew ?_) | (with_reducible refine bl_drewN ?_ _) | (with_reducible refine bl_setRow ?_ (by first | (simp; done) | (simp; omega) | omega) _) | (with_reducible refine bl_setCell ?_ (by first | (simp; done) | (simp; omega) | omega) _) | (with_reducible refine bl_trans ?_ (Nat.le_refl _) (by assumption))))).mono ?_; rintro e w3 ⟨rfl, hb3⟩; obtain ⟨hc3, hf3⟩ := bl_cell hb3; have hz3 : w.heap.size < w3.heap.size := by have h := hb3.size; (try simp at h); omega))
  all_goals
    go_ret
    go_light
    refine ⟨?_, ?_⟩
    · first | (simp [eno, jobOk, sizesOk, statusOk, ruleOk, noHolder, *]; done) | (simp [eno, jobOk, sizesOk, statusOk, ruleOk, noHolder, *]; omega) | (simp [eno, jobOk, sizesOk, statusOk, ruleOk, noHolder, *]; intros; omega) | (simp_all [eno, jobOk, sizesOk, statusOk, ruleOk, noHolder]; done)
    · repeat' (first | (with_reducible exact Below.refl _ _) | (with_reducible assumption) | (with_reducible refine bl_alloc ?_ (Nat.le_refl _) _) | (with_reducible refine bl_drew ?_) | (with_reducible refine bl_drewN ?_ _) | (with_reducible refine bl_setRow ?_ (by first | (simp; done) | (simp; omega) | omega) _) | (with_reducible refine bl_setCell ?_ (by first | (simp; done) | (simp; omega) | omega) _) | (with_reducible refine bl_trans ?_ (Nat.le_refl _) (by assumption)))

set_option maxHeartbeats 1000000 in
theorem check_three_n (pe : ByteArray → Int) (rv : ByteArray → Rl) (id : Int) (name rule payload : ByteArray) (due tries worker token till : Int) (w : World) (hr : rule.toList.isEmpty = false) (hP : ParseC pe rv rule w) :
    Calls Tryd.prog 13 #[.agg #[.int .i64 id, .string name, .string rule, .string payload, .int .i64 3, .int .i64 due, .int .i64 tries, .int .i64 worker, .int .i64 token, .int .i64 till]] w fun e w' => e = .returned (.int .i64 (eno (jobOk pe ⟨id, name, rule, payload, 3, due, tries, worker, token, till⟩) 9)) ∧ Below w.heap.size w w' := by
  go_enter Tryd.func13, Tryd.ntmps13
  go_wp2_with (first
    | (go_at_call 33; refine (within_calls _ _ _ _).mono ?_; rintro e w' ⟨rfl, rfl⟩)
    | (go_at_call 34; refine (holder_calls _ _ _ _ _ _ _ _ _ _ _).mono ?_; rintro e w1 ⟨rfl, hb1⟩; obtain ⟨hc1, hf1⟩ := bl_cell hb1; have hz1 : w.heap.size < w1.heap.size := by have h := hb1.size; simp at h; omega)
    | (go_at_call 35; refine (may_calls _ _ _ _).mono ?_; rintro e w2 ⟨rfl, hb2⟩; obtain ⟨hc2, hf2⟩ := bl_cell hb2; have hz2 : w.heap.size < w2.heap.size := Nat.lt_of_lt_of_le hz1 hb2.size)
    | (go_at_call 36; refine (hP _ (by repeat' (first | (with_reducible exact Below.refl _ _) | (with_reducible assumption) | (with_reducible refine bl_alloc ?_ (Nat.le_refl _) _) | (with_reducible refine bl_drew ?_) | (with_reducible refine bl_drewN ?_ _) | (with_reducible refine bl_setRow ?_ (by first | (simp; done) | (simp; omega) | omega) _) | (with_reducible refine bl_setCell ?_ (by first | (simp; done) | (simp; omega) | omega) _) | (with_reducible refine bl_trans ?_ (Nat.le_refl _) (by assumption))))).mono ?_; rintro e w3 ⟨rfl, hb3⟩; obtain ⟨hc3, hf3⟩ := bl_cell hb3; have hz3 : w.heap.size < w3.heap.size := by have h := hb3.size; (try simp at h); omega))
  all_goals
    go_ret
    go_light
    refine ⟨?_, ?_⟩
    · first | (simp [eno, jobOk, sizesOk, statusOk, ruleOk, noHolder, *]; done) | (simp [eno, jobOk, sizesOk, statusOk, ruleOk, noHolder, *]; omega) | (simp [eno, jobOk, sizesOk, statusOk, ruleOk, noHolder, *]; intros; omega) | (simp_all [eno, jobOk, sizesOk, statusOk, ruleOk, noHolder]; done)
    · repeat' (first | (with_reducible exact Below.refl _ _) | (with_reducible assumption) | (with_reducible refine bl_alloc ?_ (Nat.le_refl _) _) | (with_reducible refine bl_drew ?_) | (with_reducible refine bl_drewN ?_ _) | (with_reducible refine bl_setRow ?_ (by first | (simp; done) | (simp; omega) | omega) _) | (with_reducible refine bl_setCell ?_ (by first | (simp; done) | (simp; omega) | omega) _) | (with_reducible refine bl_trans ?_ (Nat.le_refl _) (by assumption)))

set_option maxHeartbeats 1000000 in
theorem check_one_e (pe : ByteArray → Int) (rv : ByteArray → Rl) (id : Int) (name rule payload : ByteArray) (due tries worker token till : Int) (w : World) (hr : rule.toList = []) :
    Calls Tryd.prog 13 #[.agg #[.int .i64 id, .string name, .string rule, .string payload, .int .i64 1, .int .i64 due, .int .i64 tries, .int .i64 worker, .int .i64 token, .int .i64 till]] w fun e w' => e = .returned (.int .i64 (eno (jobOk pe ⟨id, name, rule, payload, 1, due, tries, worker, token, till⟩) 9)) ∧ Below w.heap.size w w' := by
  go_enter Tryd.func13, Tryd.ntmps13
  go_wp2_with (first
    | (go_at_call 33; refine (within_calls _ _ _ _).mono ?_; rintro e w' ⟨rfl, rfl⟩)
    | (go_at_call 34; refine (holder_calls _ _ _ _ _ _ _ _ _ _ _).mono ?_; rintro e w1 ⟨rfl, hb1⟩; obtain ⟨hc1, hf1⟩ := bl_cell hb1; have hz1 : w.heap.size < w1.heap.size := by have h := hb1.size; simp at h; omega)
    | (go_at_call 35; refine (may_calls _ _ _ _).mono ?_; rintro e w2 ⟨rfl, hb2⟩; obtain ⟨hc2, hf2⟩ := bl_cell hb2; have hz2 : w.heap.size < w2.heap.size := Nat.lt_of_lt_of_le hz1 hb2.size)
    | (go_at_call 36; refine (hP _ (by repeat' (first | (with_reducible exact Below.refl _ _) | (with_reducible assumption) | (with_reducible refine bl_alloc ?_ (Nat.le_refl _) _) | (with_reducible refine bl_drew ?_) | (with_reducible refine bl_drewN ?_ _) | (with_reducible refine bl_setRow ?_ (by first | (simp; done) | (simp; omega) | omega) _) | (with_reducible refine bl_setCell ?_ (by first | (simp; done) | (simp; omega) | omega) _) | (with_reducible refine bl_trans ?_ (Nat.le_refl _) (by assumption))))).mono ?_; rintro e w3 ⟨rfl, hb3⟩; obtain ⟨hc3, hf3⟩ := bl_cell hb3; have hz3 : w.heap.size < w3.heap.size := by have h := hb3.size; (try simp at h); omega))
  all_goals
    go_ret
    go_light
    refine ⟨?_, ?_⟩
    · first | (simp [eno, jobOk, sizesOk, statusOk, ruleOk, noHolder, *]; done) | (simp [eno, jobOk, sizesOk, statusOk, ruleOk, noHolder, *]; omega) | (simp [eno, jobOk, sizesOk, statusOk, ruleOk, noHolder, *]; intros; omega) | (simp_all [eno, jobOk, sizesOk, statusOk, ruleOk, noHolder]; done)
    · repeat' (first | (with_reducible exact Below.refl _ _) | (with_reducible assumption) | (with_reducible refine bl_alloc ?_ (Nat.le_refl _) _) | (with_reducible refine bl_drew ?_) | (with_reducible refine bl_drewN ?_ _) | (with_reducible refine bl_setRow ?_ (by first | (simp; done) | (simp; omega) | omega) _) | (with_reducible refine bl_setCell ?_ (by first | (simp; done) | (simp; omega) | omega) _) | (with_reducible refine bl_trans ?_ (Nat.le_refl _) (by assumption)))

set_option maxHeartbeats 1000000 in
theorem check_one_n (pe : ByteArray → Int) (rv : ByteArray → Rl) (id : Int) (name rule payload : ByteArray) (due tries worker token till : Int) (w : World) (hr : rule.toList.isEmpty = false) (hP : ParseC pe rv rule w) :
    Calls Tryd.prog 13 #[.agg #[.int .i64 id, .string name, .string rule, .string payload, .int .i64 1, .int .i64 due, .int .i64 tries, .int .i64 worker, .int .i64 token, .int .i64 till]] w fun e w' => e = .returned (.int .i64 (eno (jobOk pe ⟨id, name, rule, payload, 1, due, tries, worker, token, till⟩) 9)) ∧ Below w.heap.size w w' := by
  go_enter Tryd.func13, Tryd.ntmps13
  go_wp2_with (first
    | (go_at_call 33; refine (within_calls _ _ _ _).mono ?_; rintro e w' ⟨rfl, rfl⟩)
    | (go_at_call 34; refine (holder_calls _ _ _ _ _ _ _ _ _ _ _).mono ?_; rintro e w1 ⟨rfl, hb1⟩; obtain ⟨hc1, hf1⟩ := bl_cell hb1; have hz1 : w.heap.size < w1.heap.size := by have h := hb1.size; simp at h; omega)
    | (go_at_call 35; refine (may_calls _ _ _ _).mono ?_; rintro e w2 ⟨rfl, hb2⟩; obtain ⟨hc2, hf2⟩ := bl_cell hb2; have hz2 : w.heap.size < w2.heap.size := Nat.lt_of_lt_of_le hz1 hb2.size)
    | (go_at_call 36; refine (hP _ (by repeat' (first | (with_reducible exact Below.refl _ _) | (with_reducible assumption) | (with_reducible refine bl_alloc ?_ (Nat.le_refl _) _) | (with_reducible refine bl_drew ?_) | (with_reducible refine bl_drewN ?_ _) | (with_reducible refine bl_setRow ?_ (by first | (simp; done) | (simp; omega) | omega) _) | (with_reducible refine bl_setCell ?_ (by first | (simp; done) | (simp; omega) | omega) _) | (with_reducible refine bl_trans ?_ (Nat.le_refl _) (by assumption))))).mono ?_; rintro e w3 ⟨rfl, hb3⟩; obtain ⟨hc3, hf3⟩ := bl_cell hb3; have hz3 : w.heap.size < w3.heap.size := by have h := hb3.size; (try simp at h); omega))
  all_goals
    go_ret
    go_light
    refine ⟨?_, ?_⟩
    · first | (simp [eno, jobOk, sizesOk, statusOk, ruleOk, noHolder, *]; done) | (simp [eno, jobOk, sizesOk, statusOk, ruleOk, noHolder, *]; omega) | (simp [eno, jobOk, sizesOk, statusOk, ruleOk, noHolder, *]; intros; omega) | (simp_all [eno, jobOk, sizesOk, statusOk, ruleOk, noHolder]; done)
    · repeat' (first | (with_reducible exact Below.refl _ _) | (with_reducible assumption) | (with_reducible refine bl_alloc ?_ (Nat.le_refl _) _) | (with_reducible refine bl_drew ?_) | (with_reducible refine bl_drewN ?_ _) | (with_reducible refine bl_setRow ?_ (by first | (simp; done) | (simp; omega) | omega) _) | (with_reducible refine bl_setCell ?_ (by first | (simp; done) | (simp; omega) | omega) _) | (with_reducible refine bl_trans ?_ (Nat.le_refl _) (by assumption)))

set_option maxHeartbeats 1000000 in
theorem check_other_e (pe : ByteArray → Int) (rv : ByteArray → Rl) (id : Int) (name rule payload : ByteArray) (status due tries worker token till : Int) (s1 : (status == 1) = false) (s2 : (status == 2) = false) (s3 : (status == 3) = false) (w : World) (hr : rule.toList = []) :
    Calls Tryd.prog 13 #[.agg #[.int .i64 id, .string name, .string rule, .string payload, .int .i64 status, .int .i64 due, .int .i64 tries, .int .i64 worker, .int .i64 token, .int .i64 till]] w fun e w' => e = .returned (.int .i64 (eno (jobOk pe ⟨id, name, rule, payload, status, due, tries, worker, token, till⟩) 9)) ∧ Below w.heap.size w w' := by
  go_enter Tryd.func13, Tryd.ntmps13
  go_wp2_with (first
    | (go_at_call 33; refine (within_calls _ _ _ _).mono ?_; rintro e w' ⟨rfl, rfl⟩)
    | (go_at_call 34; refine (holder_calls _ _ _ _ _ _ _ _ _ _ _).mono ?_; rintro e w1 ⟨rfl, hb1⟩; obtain ⟨hc1, hf1⟩ := bl_cell hb1; have hz1 : w.heap.size < w1.heap.size := by have h := hb1.size; simp at h; omega)
    | (go_at_call 35; refine (may_calls _ _ _ _).mono ?_; rintro e w2 ⟨rfl, hb2⟩; obtain ⟨hc2, hf2⟩ := bl_cell hb2; have hz2 : w.heap.size < w2.heap.size := Nat.lt_of_lt_of_le hz1 hb2.size)
    | (go_at_call 36; refine (hP _ (by repeat' (first | (with_reducible exact Below.refl _ _) | (with_reducible assumption) | (with_reducible refine bl_alloc ?_ (Nat.le_refl _) _) | (with_reducible refine bl_drew ?_) | (with_reducible refine bl_drewN ?_ _) | (with_reducible refine bl_setRow ?_ (by first | (simp; done) | (simp; omega) | omega) _) | (with_reducible refine bl_setCell ?_ (by first | (simp; done) | (simp; omega) | omega) _) | (with_reducible refine bl_trans ?_ (Nat.le_refl _) (by assumption))))).mono ?_; rintro e w3 ⟨rfl, hb3⟩; obtain ⟨hc3, hf3⟩ := bl_cell hb3; have hz3 : w.heap.size < w3.heap.size := by have h := hb3.size; (try simp at h); omega))
  all_goals
    go_ret
    go_light
    refine ⟨?_, ?_⟩
    · first | (simp [eno, jobOk, sizesOk, statusOk, ruleOk, noHolder, *]; done) | (simp [eno, jobOk, sizesOk, statusOk, ruleOk, noHolder, *]; omega) | (simp [eno, jobOk, sizesOk, statusOk, ruleOk, noHolder, *]; intros; omega) | (simp_all [eno, jobOk, sizesOk, statusOk, ruleOk, noHolder]; done)
    · repeat' (first | (with_reducible exact Below.refl _ _) | (with_reducible assumption) | (with_reducible refine bl_alloc ?_ (Nat.le_refl _) _) | (with_reducible refine bl_drew ?_) | (with_reducible refine bl_drewN ?_ _) | (with_reducible refine bl_setRow ?_ (by first | (simp; done) | (simp; omega) | omega) _) | (with_reducible refine bl_setCell ?_ (by first | (simp; done) | (simp; omega) | omega) _) | (with_reducible refine bl_trans ?_ (Nat.le_refl _) (by assumption)))

set_option maxHeartbeats 1000000 in
theorem check_other_n (pe : ByteArray → Int) (rv : ByteArray → Rl) (id : Int) (name rule payload : ByteArray) (status due tries worker token till : Int) (s1 : (status == 1) = false) (s2 : (status == 2) = false) (s3 : (status == 3) = false) (w : World) (hr : rule.toList.isEmpty = false) (hP : ParseC pe rv rule w) :
    Calls Tryd.prog 13 #[.agg #[.int .i64 id, .string name, .string rule, .string payload, .int .i64 status, .int .i64 due, .int .i64 tries, .int .i64 worker, .int .i64 token, .int .i64 till]] w fun e w' => e = .returned (.int .i64 (eno (jobOk pe ⟨id, name, rule, payload, status, due, tries, worker, token, till⟩) 9)) ∧ Below w.heap.size w w' := by
  go_enter Tryd.func13, Tryd.ntmps13
  go_wp2_with (first
    | (go_at_call 33; refine (within_calls _ _ _ _).mono ?_; rintro e w' ⟨rfl, rfl⟩)
    | (go_at_call 34; refine (holder_calls _ _ _ _ _ _ _ _ _ _ _).mono ?_; rintro e w1 ⟨rfl, hb1⟩; obtain ⟨hc1, hf1⟩ := bl_cell hb1; have hz1 : w.heap.size < w1.heap.size := by have h := hb1.size; simp at h; omega)
    | (go_at_call 35; refine (may_calls _ _ _ _).mono ?_; rintro e w2 ⟨rfl, hb2⟩; obtain ⟨hc2, hf2⟩ := bl_cell hb2; have hz2 : w.heap.size < w2.heap.size := Nat.lt_of_lt_of_le hz1 hb2.size)
    | (go_at_call 36; refine (hP _ (by repeat' (first | (with_reducible exact Below.refl _ _) | (with_reducible assumption) | (with_reducible refine bl_alloc ?_ (Nat.le_refl _) _) | (with_reducible refine bl_drew ?_) | (with_reducible refine bl_drewN ?_ _) | (with_reducible refine bl_setRow ?_ (by first | (simp; done) | (simp; omega) | omega) _) | (with_reducible refine bl_setCell ?_ (by first | (simp; done) | (simp; omega) | omega) _) | (with_reducible refine bl_trans ?_ (Nat.le_refl _) (by assumption))))).mono ?_; rintro e w3 ⟨rfl, hb3⟩; obtain ⟨hc3, hf3⟩ := bl_cell hb3; have hz3 : w.heap.size < w3.heap.size := by have h := hb3.size; (try simp at h); omega))
  all_goals
    go_ret
    go_light
    refine ⟨?_, ?_⟩
    · first | (simp [eno, jobOk, sizesOk, statusOk, ruleOk, noHolder, *]; done) | (simp [eno, jobOk, sizesOk, statusOk, ruleOk, noHolder, *]; omega) | (simp [eno, jobOk, sizesOk, statusOk, ruleOk, noHolder, *]; intros; omega) | (simp_all [eno, jobOk, sizesOk, statusOk, ruleOk, noHolder]; done)
    · repeat' (first | (with_reducible exact Below.refl _ _) | (with_reducible assumption) | (with_reducible refine bl_alloc ?_ (Nat.le_refl _) _) | (with_reducible refine bl_drew ?_) | (with_reducible refine bl_drewN ?_ _) | (with_reducible refine bl_setRow ?_ (by first | (simp; done) | (simp; omega) | omega) _) | (with_reducible refine bl_setCell ?_ (by first | (simp; done) | (simp; omega) | omega) _) | (with_reducible refine bl_trans ?_ (Nat.le_refl _) (by assumption)))

theorem check_calls (pe : ByteArray → Int) (rv : ByteArray → Rl) (id : Int) (name rule payload : ByteArray) (status due tries worker token till : Int) (w : World) (hP : rule.toList.isEmpty = false → ParseC pe rv rule w) :
    Calls Tryd.prog 13 #[.agg #[.int .i64 id, .string name, .string rule, .string payload, .int .i64 status, .int .i64 due, .int .i64 tries, .int .i64 worker, .int .i64 token, .int .i64 till]] w fun e w' => e = .returned (.int .i64 (eno (jobOk pe ⟨id, name, rule, payload, status, due, tries, worker, token, till⟩) 9)) ∧ Below w.heap.size w w' := by
  by_cases h2 : status = 2
  · subst h2
    cases hr : rule.toList.isEmpty
    · exact check_two_n pe rv _ _ _ _ _ _ _ _ _ _ hr (hP hr)
    · exact check_two_e pe rv _ _ _ _ _ _ _ _ _ _ (by simpa using hr)
  · by_cases h3 : status = 3
    · subst h3
      cases hr : rule.toList.isEmpty
      · exact check_three_n pe rv _ _ _ _ _ _ _ _ _ _ hr (hP hr)
      · exact check_three_e pe rv _ _ _ _ _ _ _ _ _ _ (by simpa using hr)
    · by_cases h1 : status = 1
      · subst h1
        cases hr : rule.toList.isEmpty
        · exact check_one_n pe rv _ _ _ _ _ _ _ _ _ _ hr (hP hr)
        · exact check_one_e pe rv _ _ _ _ _ _ _ _ _ _ (by simpa using hr)
      · cases hr : rule.toList.isEmpty
        · exact check_other_n pe rv _ _ _ _ _ _ _ _ _ _ (beq_eq_false_iff_ne.2 h1) (beq_eq_false_iff_ne.2 h2) (beq_eq_false_iff_ne.2 h3) _ hr (hP hr)
        · exact check_other_e pe rv _ _ _ _ _ _ _ _ _ _ (beq_eq_false_iff_ne.2 h1) (beq_eq_false_iff_ne.2 h2) (beq_eq_false_iff_ne.2 h3) _ (by simpa using hr)
end Go.Proofs.YtaelddnkdklijaaDoor.Ja
