/- Encode for every job; the walk of JobBack. -/
import Derived.Test.YtaelddnkdklijaaDoorVg
import Derived.Test.YtaelddnkdklijaaDoorJg
set_option linter.unusedVariables false
set_option linter.unusedSimpArgs false
namespace Go.Proofs.YtaelddnkdklijaaDoor.Vh
open Go Go.RowKit Go.Shelf Go.Proofs Go.Proofs.YtaelddnkdklijaaDoor.Jp Go.Proofs.YtaelddnkdklijaaDoor.Jw Go.Proofs.YtaelddnkdklijaaDoor.Ja Go.Proofs.YtaelddnkdklijaaDoor.Jk Go.Proofs.YtaelddnkdklijaaDoor.Vw Go.Proofs.YtaelddnkdklijaaDoor.Vp Go.Proofs.YtaelddnkdklijaaDoor.Va Go.Proofs.YtaelddnkdklijaaDoor.Vb Go.Proofs.YtaelddnkdklijaaDoor.Vc Go.Proofs.YtaelddnkdklijaaDoor.Vd Go.Proofs.YtaelddnkdklijaaDoor.Ve Go.Proofs.YtaelddnkdklijaaDoor.Vf Go.Proofs.YtaelddnkdklijaaDoor.Vg

structure NatJ (j : Job) : Prop where
  id : 0 ≤ j.id ∧ j.id ≤ 1099511627776
  status : 0 ≤ j.status ∧ j.status ≤ 3
  due : 0 ≤ j.due ∧ j.due ≤ 32503680000
  tries : 0 ≤ j.tries ∧ j.tries ≤ 16
  worker : 0 ≤ j.worker ∧ j.worker ≤ 2147483648
  token : 0 ≤ j.token ∧ j.token ≤ 1099511627776
  till : 0 ≤ j.till ∧ j.till ≤ 32503680000
  name : (j.name.size : Int) ≤ 32
  rule : (j.rule.size : Int) ≤ 200
  payload : (j.payload.size : Int) ≤ 200

theorem ok_nat (pe : ByteArray → Int) (j : Job) (h : jobOk pe j = true) : NatJ j := by
  unfold jobOk sizesOk statusOk ruleOk holderMay noHolder within at h
  simp only [Bool.and_eq_true, decide_eq_true_eq, Bool.or_eq_true] at h
  obtain ⟨⟨⟨⟨⟨a1, a2⟩, a3⟩, a4⟩, a5⟩, h1, h2⟩ := h
  have hr : (j.rule.size : Int) ≤ 200 := by
    rcases h2 with h2 | h2
    · have : j.rule.size = 0 := by
        have e : j.rule.toList = [] := by simpa using h2
        rw [ByteArray.toList_eq] at e
        have := congrArg List.length e
        simpa using this
      omega
    · exact h2.2
  by_cases s2 : j.status = 2
  · simp only [s2, if_true, Bool.and_eq_true, decide_eq_true_eq] at h1
    exact ⟨by omega, by omega, by omega, by omega, by omega, by omega, by omega, a2, hr, a3⟩
  · by_cases s3 : j.status = 3
    · simp [s2, s3] at h1
      exact ⟨by omega, by omega, by omega, by omega, by omega, by omega, by omega, a2, hr, a3⟩
    · by_cases s1 : j.status = 1
      · simp [s2, s3, s1] at h1
        exact ⟨by omega, by omega, by omega, by omega, by omega, by omega, by omega, a2, hr, a3⟩
      · simp [s2, s3, s1] at h1

def encJ (j : Job) : List Nat := encL j.id.toNat j.status.toNat j.due.toNat j.tries.toNat j.worker.toNat j.token.toNat j.till.toNat j.name j.rule j.payload
def encodeF (j : Job) : ByteArray × Int := if jobOk peF j = true then (strOf (encJ j), 0) else (⟨#[]⟩, 9)

theorem encode_t (id : Int) (name rule payload : ByteArray) (status due tries worker token till : Int) (m : Int) (w : World) (hs : rule.size < 9223372036854775808) (he : Env m w) :
    Calls Tryd.prog 20 #[.agg #[.int .i64 id, .string name, .string rule, .string payload, .int .i64 status, .int .i64 due, .int .i64 tries, .int .i64 worker, .int .i64 token, .int .i64 till]] w fun e w' => e = .returned (.tuple #[.string (encodeF (⟨id, name, rule, payload, status, due, tries, worker, token, till⟩ : Job)).1, .int .i64 (encodeF (⟨id, name, rule, payload, status, due, tries, worker, token, till⟩ : Job)).2]) ∧ Below w.heap.size w w' := by
  unfold encodeF
  cases hj : jobOk peF (⟨id, name, rule, payload, status, due, tries, worker, token, till⟩ : Job)
  · exact enc_bad id name rule payload status due tries worker token till m w hs he hj
  · simp only [if_true]
    have hn := ok_nat peF _ hj
    have hC := fun W (hW : Below w.heap.size w W) => check_t m id name rule payload status due tries worker token till W hs (he.below hW)
    rw [hj] at hC
    obtain ⟨c1, c2, c3, c4, c5, c6, c7, c8, c9, c10⟩ := hn
    simp only at c1 c2 c3 c4 c5 c6 c7 c8 c9 c10
    obtain ⟨a1, rfl⟩ := Int.eq_ofNat_of_zero_le c1.1
    obtain ⟨a2, rfl⟩ := Int.eq_ofNat_of_zero_le c2.1
    obtain ⟨a3, rfl⟩ := Int.eq_ofNat_of_zero_le c3.1
    obtain ⟨a4, rfl⟩ := Int.eq_ofNat_of_zero_le c4.1
    obtain ⟨a5, rfl⟩ := Int.eq_ofNat_of_zero_le c5.1
    obtain ⟨a6, rfl⟩ := Int.eq_ofNat_of_zero_le c6.1
    obtain ⟨a7, rfl⟩ := Int.eq_ofNat_of_zero_le c7.1
    unfold encJ
    simp only [Int.toNat_natCast]
    exact enc_walk a1 a2 a3 a4 a5 a6 a7 name rule payload w (by omega) (by omega) (by omega) (by omega) (by omega) (by omega) (by omega) (by omega) (by omega) (by omega) hC

set_option maxHeartbeats 4000000 in
set_option maxRecDepth 100000 in
theorem back_walk (id : Int) (name rule payload : ByteArray) (status due tries worker token till : Int) (s x y : ByteArray) (kid : Int) (kname krule kpayload : ByteArray) (kstatus kdue ktries kworker ktoken ktill : Int) (n1 n2 n3 n4 : Int) (w : World) (hx : (x.size : Int) ≤ 512)
    (hE : ∀ W, Below w.heap.size w W → Calls Tryd.prog 20 #[.agg #[.int .i64 id, .string name, .string rule, .string payload, .int .i64 status, .int .i64 due, .int .i64 tries, .int .i64 worker, .int .i64 token, .int .i64 till]] W fun e w' => e = .returned (.tuple #[.string x, .int .i64 n1]) ∧ Below W.heap.size W w')
    (hS : ∀ W, Below w.heap.size w W → Calls Tryd.prog 21 #[.string s] W fun e w' => e = .returned (.tuple #[.agg #[.int .i64 kid, .string kname, .string krule, .string kpayload, .int .i64 kstatus, .int .i64 kdue, .int .i64 ktries, .int .i64 kworker, .int .i64 ktoken, .int .i64 ktill], .int .i64 n3]) ∧ Below W.heap.size W w')
    (D1 : (n1 == 0) = false ∨ ((n1 == 0) = true ∧ (n2 != 0) = false ∧ ∀ W, Below w.heap.size w W → Calls Tryd.prog 21 #[.string x] W fun e w' => e = .returned (.tuple #[.agg #[.int .i64 id, .string name, .string rule, .string payload, .int .i64 status, .int .i64 due, .int .i64 tries, .int .i64 worker, .int .i64 token, .int .i64 till], .int .i64 n2]) ∧ Below W.heap.size W w'))
    (D2 : ((n3 != 0) = false ∧ (n4 == 0) = true ∧ (y.toList == s.toList) = true ∧ ∀ W, Below w.heap.size w W → Calls Tryd.prog 20 #[.agg #[.int .i64 kid, .string kname, .string krule, .string kpayload, .int .i64 kstatus, .int .i64 kdue, .int .i64 ktries, .int .i64 kworker, .int .i64 ktoken, .int .i64 ktill]] W fun e w' => e = .returned (.tuple #[.string y, .int .i64 n4]) ∧ Below W.heap.size W w') ∨ ((n3 != 0) = true ∧ kid = 0 ∧ kname = ⟨#[]⟩ ∧ krule = ⟨#[]⟩ ∧ kpayload = ⟨#[]⟩ ∧ kstatus = 0 ∧ kdue = 0 ∧ ktries = 0 ∧ kworker = 0 ∧ ktoken = 0 ∧ ktill = 0)) :
    Calls Tryd.prog 6 #[.agg #[.int .i64 id, .string name, .string rule, .string payload, .int .i64 status, .int .i64 due, .int .i64 tries, .int .i64 worker, .int .i64 token, .int .i64 till], .string s] w fun e w' => e = .returned (.bool true) ∧ Below w.heap.size w w' := by
  rcases D1 with d1 | ⟨d1, d2, hD⟩ <;> rcases D2 with ⟨d3, d4, d5, hY⟩ | ⟨d3, rfl, rfl, rfl, rfl, rfl, rfl, rfl, rfl, rfl, rfl⟩
  all_goals
    have HE := Lib.hid hE
    try have HD := Lib.hid hD
    have HS := Lib.hid hS
    try have HY := Lib.hid hY
    clear hE hS
    try clear hD
    try clear hY
    go_enter Tryd.func6, Tryd.ntmps6
    go_wp2_with (first
      | (go_at_call 9; refine (alive_calls _).mono ?_; rintro e w1 ⟨rfl, hb1⟩; have z1 : w.heap.size + 1 ≤ w1.heap.size := (by have h := hb1.size; (try simp at h); omega); have H1 : Below w.heap.size w w1 := (by repeat' (first | (with_reducible exact Below.refl _ _) | (with_reducible assumption) | (with_reducible refine bl_alloc ?_ (Nat.le_refl _) _) | (with_reducible refine bl_drew ?_) | (with_reducible refine bl_drewN ?_ _) | (with_reducible refine bl_setRow ?_ (by first | (simp; done) | (simp; omega) | omega) _) | (with_reducible refine bl_setCell ?_ (by first | (simp; done) | (simp; omega) | omega) _) | (with_reducible refine bl_trans ?_ (Nat.le_refl _) (by assumption)))); have j1 : Blk w1 (w.heap.size) 49 #[.int .i64 id, .string name, .string rule, .string payload, .int .i64 status, .int .i64 due, .int .i64 tries, .int .i64 worker, .int .i64 token, .int .i64 till] := (by repeat' (first | (with_reducible exact Blk.new _ _ _) | (with_reducible refine Blk.new' _ _ ?_; simp; done) | (with_reducible assumption) | (with_reducible refine Blk.alloc ?_ _) | (with_reducible refine Blk.drew ?_) | (with_reducible refine Blk.drewN ?_ _) | (with_reducible refine Blk.far ?_ (by first | (simp; done) | (simp; omega) | omega) _) | (with_reducible apply Blk.setTo) | (with_reducible refine Blk.rowFar ?_ (by first | (simp; done) | (simp; omega) | omega) _) | (with_reducible refine Blk.below ?_ hb1 (by first | (simp; done) | (simp; omega) | omega)) | rfl | (simp; done))); have j1q := j1.cell; have j1f := j1.frozen; have j1l := j1.lt; clear hb1)
      | (go_at_call 20; (with_reducible refine (HE.out _ (by repeat' (first | (with_reducible exact Below.refl _ _) | (with_reducible assumption) | (with_reducible refine bl_alloc ?_ (Nat.le_refl _) _) | (with_reducible refine bl_drew ?_) | (with_reducible refine bl_drewN ?_ _) | (with_reducible refine bl_setRow ?_ (by first | (simp; done) | (simp; omega) | omega) _) | (with_reducible refine bl_setCell ?_ (by first | (simp; done) | (simp; omega) | omega) _) | (with_reducible refine bl_trans ?_ (Nat.le_refl _) (by assumption))))).mono ?_); rintro e w2 ⟨rfl, hb2⟩; have z2 : w.heap.size + 1 ≤ w2.heap.size := (by have h := hb2.size; (try simp at h); omega); have H2 : Below w.heap.size w w2 := (by repeat' (first | (with_reducible exact Below.refl _ _) | (with_reducible assumption) | (with_reducible refine bl_alloc ?_ (Nat.le_refl _) _) | (with_reducible refine bl_drew ?_) | (with_reducible refine bl_drewN ?_ _) | (with_reducible refine bl_setRow ?_ (by first | (simp; done) | (simp; omega) | omega) _) | (with_reducible refine bl_setCell ?_ (by first | (simp; done) | (simp; omega) | omega) _) | (with_reducible refine bl_trans ?_ (Nat.le_refl _) (by assumption)))); have j2 : Blk w2 (w.heap.size) 49 #[.int .i64 id, .string name, .string rule, .string payload, .int .i64 status, .int .i64 due, .int .i64 tries, .int .i64 worker, .int .i64 token, .int .i64 till] := (by repeat' (first | (with_reducible exact Blk.new _ _ _) | (with_reducible refine Blk.new' _ _ ?_; simp; done) | (with_reducible assumption) | (with_reducible refine Blk.alloc ?_ _) | (with_reducible refine Blk.drew ?_) | (with_reducible refine Blk.drewN ?_ _) | (with_reducible refine Blk.far ?_ (by first | (simp; done) | (simp; omega) | omega) _) | (with_reducible apply Blk.setTo) | (with_reducible refine Blk.rowFar ?_ (by first | (simp; done) | (simp; omega) | omega) _) | (with_reducible refine Blk.below ?_ hb2 (by first | (simp; done) | (simp; omega) | omega)) | rfl | (simp; done))); have j2q := j2.cell; have j2f := j2.frozen; have j2l := j2.lt; clear hb2)
      | (go_at_call 21; (with_reducible refine (HD.out _ (by repeat' (first | (with_reducible exact Below.refl _ _) | (with_reducible assumption) | (with_reducible refine bl_alloc ?_ (Nat.le_refl _) _) | (with_reducible refine bl_drew ?_) | (with_reducible refine bl_drewN ?_ _) | (with_reducible refine bl_setRow ?_ (by first | (simp; done) | (simp; omega) | omega) _) | (with_reducible refine bl_setCell ?_ (by first | (simp; done) | (simp; omega) | omega) _) | (with_reducible refine bl_trans ?_ (Nat.le_refl _) (by assumption))))).mono ?_); rintro e w3 ⟨rfl, hb3⟩; have z3 : w.heap.size + 1 ≤ w3.heap.size := (by have h := hb3.size; (try simp at h); omega); have H3 : Below w.heap.size w w3 := (by repeat' (first | (with_reducible exact Below.refl _ _) | (with_reducible assumption) | (with_reducible refine bl_alloc ?_ (Nat.le_refl _) _) | (with_reducible refine bl_drew ?_) | (with_reducible refine bl_drewN ?_ _) | (with_reducible refine bl_setRow ?_ (by first | (simp; done) | (simp; omega) | omega) _) | (with_reducible refine bl_setCell ?_ (by first | (simp; done) | (simp; omega) | omega) _) | (with_reducible refine bl_trans ?_ (Nat.le_refl _) (by assumption)))); have j3 : Blk w3 (w.heap.size) 49 #[.int .i64 id, .string name, .string rule, .string payload, .int .i64 status, .int .i64 due, .int .i64 tries, .int .i64 worker, .int .i64 token, .int .i64 till] := (by repeat' (first | (with_reducible exact Blk.new _ _ _) | (with_reducible refine Blk.new' _ _ ?_; simp; done) | (with_reducible assumption) | (with_reducible refine Blk.alloc ?_ _) | (with_reducible refine Blk.drew ?_) | (with_reducible refine Blk.drewN ?_ _) | (with_reducible refine Blk.far ?_ (by first | (simp; done) | (simp; omega) | omega) _) | (with_reducible apply Blk.setTo) | (with_reducible refine Blk.rowFar ?_ (by first | (simp; done) | (simp; omega) | omega) _) | (with_reducible refine Blk.below ?_ hb3 (by first | (simp; done) | (simp; omega) | omega)) | rfl | (simp; done))); have j3q := j3.cell; have j3f := j3.frozen; have j3l := j3.lt; clear hb3)
      | (go_at_call 21; (with_reducible refine (HS.out _ (by repeat' (first | (with_reducible exact Below.refl _ _) | (with_reducible assumption) | (with_reducible refine bl_alloc ?_ (Nat.le_refl _) _) | (with_reducible refine bl_drew ?_) | (with_reducible refine bl_drewN ?_ _) | (with_reducible refine bl_setRow ?_ (by first | (simp; done) | (simp; omega) | omega) _) | (with_reducible refine bl_setCell ?_ (by first | (simp; done) | (simp; omega) | omega) _) | (with_reducible refine bl_trans ?_ (Nat.le_refl _) (by assumption))))).mono ?_); rintro e w4 ⟨rfl, hb4⟩; have z4 : w.heap.size + 1 ≤ w4.heap.size := (by have h := hb4.size; (try simp at h); omega); have H4 : Below w.heap.size w w4 := (by repeat' (first | (with_reducible exact Below.refl _ _) | (with_reducible assumption) | (with_reducible refine bl_alloc ?_ (Nat.le_refl _) _) | (with_reducible refine bl_drew ?_) | (with_reducible refine bl_drewN ?_ _) | (with_reducible refine bl_setRow ?_ (by first | (simp; done) | (simp; omega) | omega) _) | (with_reducible refine bl_setCell ?_ (by first | (simp; done) | (simp; omega) | omega) _) | (with_reducible refine bl_trans ?_ (Nat.le_refl _) (by assumption)))); clear hb4)
      | (go_at_call 20; (with_reducible refine (HY.out _ (by repeat' (first | (with_reducible exact Below.refl _ _) | (with_reducible assumption) | (with_reducible refine bl_alloc ?_ (Nat.le_refl _) _) | (with_reducible refine bl_drew ?_) | (with_reducible refine bl_drewN ?_ _) | (with_reducible refine bl_setRow ?_ (by first | (simp; done) | (simp; omega) | omega) _) | (with_reducible refine bl_setCell ?_ (by first | (simp; done) | (simp; omega) | omega) _) | (with_reducible refine bl_trans ?_ (Nat.le_refl _) (by assumption))))).mono ?_); rintro e w5 ⟨rfl, hb5⟩; have z5 : w.heap.size + 1 ≤ w5.heap.size := (by have h := hb5.size; (try simp at h); omega); have H5 : Below w.heap.size w w5 := (by repeat' (first | (with_reducible exact Below.refl _ _) | (with_reducible assumption) | (with_reducible refine bl_alloc ?_ (Nat.le_refl _) _) | (with_reducible refine bl_drew ?_) | (with_reducible refine bl_drewN ?_ _) | (with_reducible refine bl_setRow ?_ (by first | (simp; done) | (simp; omega) | omega) _) | (with_reducible refine bl_setCell ?_ (by first | (simp; done) | (simp; omega) | omega) _) | (with_reducible refine bl_trans ?_ (Nat.le_refl _) (by assumption)))); clear hb5)
      | (go_at_call 12; refine (num_calls _ _).mono ?_; rintro e w' ⟨rfl, rfl⟩))
    go_ret
    exact ⟨rfl, by repeat' (first | (with_reducible exact Below.refl _ _) | (with_reducible assumption) | (with_reducible refine bl_alloc ?_ (Nat.le_refl _) _) | (with_reducible refine bl_drew ?_) | (with_reducible refine bl_drewN ?_ _) | (with_reducible refine bl_setRow ?_ (by first | (simp; done) | (simp; omega) | omega) _) | (with_reducible refine bl_setCell ?_ (by first | (simp; done) | (simp; omega) | omega) _) | (with_reducible refine bl_trans ?_ (Nat.le_refl _) (by assumption)))⟩

theorem decF_rule (s : ByteArray) : (decF s).1.rule.size ≤ 9223372036854775807 := by
  unfold decF
  split
  · exact Nat.zero_le _
  · split
    · exact Nat.zero_le _
    · split
      · rename_i h
        have := (ok_nat peF _ h).rule
        show (decL (octs s)).1.rule.size ≤ _
        omega
      · exact Nat.zero_le _

theorem size_small (n : Nat) (h : n < 4398046511104) : sizeV n ≤ 6 := by
  unfold sizeV
  repeat' split
  all_goals omega
theorem size_1 (n : Nat) (h : n < 128) : sizeV n = 1 := by unfold sizeV; rw [if_pos h]
theorem size_2 (n : Nat) (h : n < 16384) : sizeV n ≤ 2 := by
  unfold sizeV
  repeat' split
  all_goals omega

theorem there (j : Job) (h : jobOk peF j = true) : (strOf (encJ j)).size ≤ 512 ∧ decF (strOf (encJ j)) = (j, 0) := by
  have hn := ok_nat peF j h
  obtain ⟨id, name, rule, payload, status, due, tries, worker, token, till⟩ := j
  obtain ⟨c1, c2, c3, c4, c5, c6, c7, c8, c9, c10⟩ := hn
  simp only at c1 c2 c3 c4 c5 c6 c7 c8 c9 c10
  obtain ⟨a1, rfl⟩ := Int.eq_ofNat_of_zero_le c1.1
  obtain ⟨a2, rfl⟩ := Int.eq_ofNat_of_zero_le c2.1
  obtain ⟨a3, rfl⟩ := Int.eq_ofNat_of_zero_le c3.1
  obtain ⟨a4, rfl⟩ := Int.eq_ofNat_of_zero_le c4.1
  obtain ⟨a5, rfl⟩ := Int.eq_ofNat_of_zero_le c5.1
  obtain ⟨a6, rfl⟩ := Int.eq_ofNat_of_zero_le c6.1
  obtain ⟨a7, rfl⟩ := Int.eq_ofNat_of_zero_le c7.1
  have hd := dec_enc a1 a2 a3 a4 a5 a6 a7 name rule payload (by omega) (by omega) (by omega) (by omega) (by omega) (by omega) (by omega) (by omega) (by omega) (by omega)
  have hl := encL_lt a1 a2 a3 a4 a5 a6 a7 name rule payload (by omega) (by omega) (by omega) (by omega) (by omega) (by omega) (by omega) (by omega) (by omega) (by omega)
  unfold encJ
  simp only [Int.toNat_natCast]
  constructor
  · rw [strOf_size]
    unfold encL
    simp only [List.length_append, octs_len, (put_len a1 (by omega)).1, (put_len a2 (by omega)).1, (put_len a3 (by omega)).1, (put_len a4 (by omega)).1, (put_len a5 (by omega)).1, (put_len a6 (by omega)).1, (put_len a7 (by omega)).1, (put_len name.size (by omega)).1, (put_len rule.size (by omega)).1, (put_len payload.size (by omega)).1]
    have s1 := size_small a1 (by omega)
    have s2 := size_small a2 (by omega)
    have s3 := size_small a3 (by omega)
    have s4 := size_small a4 (by omega)
    have s5 := size_small a5 (by omega)
    have s6 := size_small a6 (by omega)
    have s7 := size_small a7 (by omega)
    have s8 := size_1 name.size (by omega)
    have s9 := size_2 rule.size (by omega)
    have s10 := size_2 payload.size (by omega)
    omega
  · unfold decF
    rw [octs_strOf _ hl, hd]
    simp [h]

theorem back (s : ByteArray) (h : (decF s).2 = 0) : encodeF (decF s).1 = (s, 0) := by
  have hm := octs_lt s
  unfold decF at h ⊢
  by_cases h0 : (decL (octs s)).2.2 = 0
  · simp only [ne_eq, h0, not_true_eq_false, if_false] at h ⊢
    by_cases h1 : (decL (octs s)).2.1 = []
    · simp only [h1, not_true_eq_false, if_false] at h ⊢
      by_cases h2 : jobOk peF (decL (octs s)).1 = true
      · rw [if_pos h2]
        simp only
        have e : decL (octs s) = ((decL (octs s)).1, [], 0) := by rw [← h0, ← h1]
        obtain ⟨a1, a2, a3, a4, a5, a6, a7, q1, q2, q3, q4, q5, q6, q7, q⟩ := enc_dec (octs s) hm _ e
        unfold encodeF
        rw [if_pos h2]
        unfold encJ
        rw [q1, q2, q3, q4, q5, q6, q7]
        simp only [Int.toNat_natCast]
        rw [← q, strOf_octs]
      · rw [if_neg h2] at h
        simp at h
    · rw [if_pos h1] at h
      simp at h
  · rw [if_pos h0] at h
    exact absurd h h0

theorem decF_zero (s : ByteArray) (h : (decF s).2 ≠ 0) : (decF s).1 = zero := by
  unfold decF at h ⊢
  split
  · rfl
  · split
    · rfl
    · split
      · rename_i h1 h2 h3
        rw [if_neg h1, if_neg h2, if_pos h3] at h
        exact absurd rfl h
      · rfl

theorem back_calls (m : Int) (id : Int) (name rule payload : ByteArray) (status due tries worker token till : Int) (s : ByteArray) (w : World) (hr : rule.size < 9223372036854775808) (hs : s.size < 9223372036854775807) (he : Env m w) :
    Calls Tryd.prog 6 #[.agg #[.int .i64 id, .string name, .string rule, .string payload, .int .i64 status, .int .i64 due, .int .i64 tries, .int .i64 worker, .int .i64 token, .int .i64 till], .string s] w fun e w' => e = .returned (.bool true) ∧ Below w.heap.size w w' := by
  have hE := fun W (hW : Below w.heap.size w W) => encode_t id name rule payload status due tries worker token till m W hr (he.below hW)
  have hS := fun W (hW : Below w.heap.size w W) => decode_t s m W hs (he.below hW)
  have hrule := decF_rule s
  have hb := back s
  have hz := decF_zero s
  have ht : (encodeF (⟨id, name, rule, payload, status, due, tries, worker, token, till⟩ : Job)).2 = 9 ∧ (encodeF (⟨id, name, rule, payload, status, due, tries, worker, token, till⟩ : Job)).1 = ⟨#[]⟩ ∨ (encodeF (⟨id, name, rule, payload, status, due, tries, worker, token, till⟩ : Job)).2 = 0 ∧ (encodeF (⟨id, name, rule, payload, status, due, tries, worker, token, till⟩ : Job)).1.size ≤ 512 ∧ decF (encodeF (⟨id, name, rule, payload, status, due, tries, worker, token, till⟩ : Job)).1 = ((⟨id, name, rule, payload, status, due, tries, worker, token, till⟩ : Job), 0) := by
    unfold encodeF
    by_cases h : jobOk peF (⟨id, name, rule, payload, status, due, tries, worker, token, till⟩ : Job) = true
    · rw [if_pos h]
      have := there _ h
      exact Or.inr ⟨rfl, this.1, this.2⟩
    · rw [if_neg h]
      exact Or.inl ⟨rfl, rfl⟩
  generalize encodeF (⟨id, name, rule, payload, status, due, tries, worker, token, till⟩ : Job) = p1 at *
  obtain ⟨x, n1⟩ := p1
  generalize decF s = p2 at *
  obtain ⟨⟨kid, kname, krule, kpayload, kstatus, kdue, ktries, kworker, ktoken, ktill⟩, n3⟩ := p2
  simp only at *
  have hx : (x.size : Int) ≤ 512 := by
    rcases ht with h | h
    · rw [h.2]; decide
    · omega
  have hY := fun W (hW : Below w.heap.size w W) => encode_t kid kname krule kpayload kstatus kdue ktries kworker ktoken ktill m W (by omega) (he.below hW)
  have hD := fun W (hW : Below w.heap.size w W) => decode_t x m W (by omega) (he.below hW)
  refine back_walk id name rule payload status due tries worker token till s x s kid kname krule kpayload kstatus kdue ktries kworker ktoken ktill n1 0 n3 0 w hx hE hS ?_ ?_
  · rcases ht with h | h
    · left
      rw [h.1]
      rfl
    · right
      rw [h.2.2] at hD
      exact ⟨by rw [h.1]; rfl, rfl, hD⟩
  · by_cases h3 : n3 = 0
    · left
      rw [hb h3] at hY
      exact ⟨by rw [h3]; rfl, rfl, by simp, hY⟩
    · right
      have := hz h3
      unfold zero at this
      simp only [Job.mk.injEq] at this
      exact ⟨by simpa using h3, this⟩
end Go.Proofs.YtaelddnkdklijaaDoor.Vh
