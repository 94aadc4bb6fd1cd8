/- The walks of cron: within, day, the scopes, Check. -/
import Derived.Test.YtaelddnkdklijaaDoorCa
set_option linter.unusedSimpArgs false
set_option linter.unusedVariables false
namespace Go.Proofs.YtaelddnkdklijaaDoor.Cb
open Go.RowKit Go.Shelf Go.Proofs Go.Proofs.YtaelddnkdklijaaDoor.Jp Go.Proofs.YtaelddnkdklijaaDoor.Jw Go.Proofs.YtaelddnkdklijaaDoor.Cp Go.Proofs.YtaelddnkdklijaaDoor.Ca

theorem q_same {P : Program} {f : FuncId} {args : Array Value} {w : World} {n : Nat} {v : Value}
    (h : Calls P f args (w.drewN n) fun e w' => e = .returned v ∧ w.drewN n = w') : Calls P f args (w.drewN n) fun e w'' => e = .returned v ∧ ∃ m, w'' = w.drewN m :=
  Calls.quiet_of_same (h.mono fun _ _ ⟨a, b⟩ => ⟨a, b.symm⟩)

def u64ok (x : Nat) : Prop := x < 18446744073709551616

theorem fromF_bd (x : Nat) (n : Int) (hx : x < 18446744073709551616) (h0 : 0 ≤ n) : ∀ k, fromF x n = some k → 0 ≤ k ∧ k < 128 := by
  intro k hk
  unfold fromF at hk
  split at hk
  · exact absurd hk (by simp)
  · rename_i h
    have hq2 : x / 2 ^ n.toNat < 18446744073709551616 := Nat.lt_of_le_of_lt (Nat.div_le_self _ _) hx
    have := (Lib.lowest_bit 64 (x / 2 ^ n.toNat) (fun e => h (Or.inr e)) hq2).2
    simp only [Option.some.injEq] at hk
    omega

set_option maxRecDepth 100000 in
theorem day_calls (r : Rule) (m : Mom) (w : World) (h0 : r.mo < 18446744073709551616) (h1 : r.da < 18446744073709551616) (h2 : r.we < 18446744073709551616) (a0 : 0 ≤ m.month) (a1 : m.month < 64) (b0 : 0 ≤ m.day) (b1 : m.day < 64) (c0 : 0 ≤ m.week) (c1 : m.week < 64) :
    Calls Tryd.prog 108 #[.agg #[.int .u64 r.mi, .int .u64 r.ho, .int .u64 r.da, .int .u64 r.mo, .int .u64 r.we, .bool r.anyD, .bool r.anyW], .agg #[.int .i64 m.year, .int .i64 m.month, .int .i64 m.day, .int .i64 m.hour, .int .i64 m.minute, .int .i64 m.second, .int .i64 m.week]] w fun e w' => e = .returned (.bool (dayF r m.month m.day m.week)) ∧ Below w.heap.size w w' := by
  have hM := fun W => has_calls r.mo m.month W h0 a0 a1
  have hD := fun W => has_calls r.da m.day W h1 b0 b1
  have hW := fun W => has_calls r.we m.week W h2 c0 c1
  have HM := Lib.hid hM
  have HD := Lib.hid hD
  have HW := Lib.hid hW
  clear hM hD hW
  obtain ⟨mi, ho, da, mo, we, anyD, anyW⟩ := r
  obtain ⟨year, month, day, hour, minute, second, week⟩ := m
  unfold dayF
  simp only at *
  generalize mo.testBit month.toNat = x at *
  generalize da.testBit day.toNat = y at *
  generalize we.testBit week.toNat = z at *
  go_enter Tryd.func108, Tryd.ntmps108
  go_upto_region 1 with fail
  go_quiet (first
    | (go_at_call 137; with_reducible exact q_same (HD.out _))
    | (go_at_call 137; with_reducible exact q_same (HW.out _)))
  go_wp2_with (go_at_call 137; refine (HM.out _).mono ?_; rintro e w' ⟨rfl, rfl⟩)
  all_goals
    go_ret
    refine ⟨?_, by repeat' (first | (with_reducible exact Below.refl _ _) | (with_reducible assumption) | (with_reducible refine bl_alloc ?_ (Nat.le_refl _) _) | (with_reducible refine bl_drew ?_) | (with_reducible refine bl_drewN ?_ _) | (with_reducible refine bl_setRow ?_ (by first | (simp; done) | (simp; omega) | omega) _) | (with_reducible refine bl_setCell ?_ (by first | (simp; done) | (simp; omega) | omega) _) | (with_reducible refine bl_trans ?_ (Nat.le_refl _) (by assumption)))⟩
    clear HM HD HW
    refine ret_bool ?_
    go_light
    clear h0 h1 h2 a0 a1 b0 b1 c0 c1
    cases x <;> cases y <;> cases z <;> cases anyD <;> cases anyW <;> first | rfl | (rename_i q1 q2; exact absurd q1 (by decide)) | (rename_i q1 q2; exact absurd q2 (by decide)) | (rename_i q1 q2 q3; exact absurd q1 (by decide)) | (rename_i q1 q2 q3 q4; exact absurd q1 (by decide)) | contradiction
set_option maxRecDepth 100000 in
theorem within_calls (r : Rule) (n : Int) (w : World) (h0 : r.mi < 18446744073709551616) (h1 : r.ho < 18446744073709551616) (hn0 : 0 ≤ n) (hn1 : n < 1440) (hT : TabAt 0 Lib.deBruijn64tab w) :
    Calls Tryd.prog 109 #[.agg #[.int .u64 r.mi, .int .u64 r.ho, .int .u64 r.da, .int .u64 r.mo, .int .u64 r.we, .bool r.anyD, .bool r.anyW], .int .i64 n] w fun e w' => e = .returned (.tuple #[.int .i64 ((withinF r n).getD 0), .bool (withinF r n).isSome]) ∧ Below w.heap.size w w' := by
  have e1 : (n % 60).toNat < 64 := by omega
  have e2 : (n / 60 + 1).toNat < 64 := by omega
  have f1 : ((n % 60).toNat : Int) = n % 60 := by omega
  have f2 : ((n / 60 + 1).toNat : Int) = n / 60 + 1 := by omega
  have hM := fun W hW => from_calls r.mi (n % 60).toNat W h0 e1 hW
  have hH := fun W hW => from_calls r.ho (n / 60 + 1).toNat W h1 e2 hW
  have hZ := fun W hW => from_calls r.mi 0 W h0 (by omega) hW
  have hS := fun W => has_calls r.ho (n / 60) W h1 (by omega) (by omega)
  have z : ((0 : Nat) : Int) = 0 := rfl
  simp only [f1, f2, z] at hM hH hZ
  have bA := fromF_bd r.mi (n % 60) h0 (by omega)
  have bB := fromF_bd r.ho (n / 60 + 1) h1 (by omega)
  have bC := fromF_bd r.mi 0 h0 (by omega)
  unfold withinF
  generalize r.ho.testBit (n / 60).toNat = x at *
  generalize fromF r.mi (n % 60) = A at *
  generalize fromF r.ho (n / 60 + 1) = B at *
  generalize fromF r.mi 0 = C at *
  clear f1 f2 e1 e2 z h0 h1
  have bC' : 0 ≤ C.getD 0 ∧ C.getD 0 < 128 := by
    cases C with
    | none => simp
    | some c => simpa using bC c rfl
  generalize C.getD 0 = c at *
  generalize C.isSome = cc at *
  obtain ⟨mi, ho, da, mo, we, anyD, anyW⟩ := r
  simp only at *
  have hT' : Hid (∀ W, Below w.heap.size w W → TabAt 0 Lib.deBruijn64tab W) := Lib.hid (fun W hW => TabAt.below hT hW)
  cases x <;> rcases A with _ | a <;> rcases B with _ | b
  all_goals
    simp only [Option.getD_some, Option.getD_none, Option.isSome_some, Option.isSome_none, if_true, if_false, Bool.false_eq_true] at *
    try have bA := bA _ rfl
    try have bB := bB _ rfl
    have HM := Lib.hid hM
    have HH := Lib.hid hH
    have HZ := Lib.hid hZ
    have HS := Lib.hid hS
    clear hM hH hZ hS
    go_enter Tryd.func109, Tryd.ntmps109
    go_wp2_with (first
      | (go_at_call 137; refine (HS.out _).mono ?_; rintro e w' ⟨rfl, rfl⟩)
      | (go_at_call 138; with_reducible refine (HM.out _ (hT'.out _ (by repeat' (first | (with_reducible exact Below.refl _ _) | (with_reducible assumption) | (with_reducible refine bl_alloc ?_ (Nat.le_refl _) _) | (with_reducible refine bl_drew ?_) | (with_reducible refine bl_drewN ?_ _) | (with_reducible refine bl_setRow ?_ (by first | (simp; done) | (simp; omega) | omega) _) | (with_reducible refine bl_setCell ?_ (by first | (simp; done) | (simp; omega) | omega) _) | (with_reducible refine bl_trans ?_ (Nat.le_refl _) (by assumption)))))).mono ?_; rintro e w' ⟨rfl, rfl⟩)
      | (go_at_call 138; with_reducible refine (HH.out _ (hT'.out _ (by repeat' (first | (with_reducible exact Below.refl _ _) | (with_reducible assumption) | (with_reducible refine bl_alloc ?_ (Nat.le_refl _) _) | (with_reducible refine bl_drew ?_) | (with_reducible refine bl_drewN ?_ _) | (with_reducible refine bl_setRow ?_ (by first | (simp; done) | (simp; omega) | omega) _) | (with_reducible refine bl_setCell ?_ (by first | (simp; done) | (simp; omega) | omega) _) | (with_reducible refine bl_trans ?_ (Nat.le_refl _) (by assumption)))))).mono ?_; rintro e w' ⟨rfl, rfl⟩)
      | (go_at_call 138; with_reducible refine (HZ.out _ (hT'.out _ (by repeat' (first | (with_reducible exact Below.refl _ _) | (with_reducible assumption) | (with_reducible refine bl_alloc ?_ (Nat.le_refl _) _) | (with_reducible refine bl_drew ?_) | (with_reducible refine bl_drewN ?_ _) | (with_reducible refine bl_setRow ?_ (by first | (simp; done) | (simp; omega) | omega) _) | (with_reducible refine bl_setCell ?_ (by first | (simp; done) | (simp; omega) | omega) _) | (with_reducible refine bl_trans ?_ (Nat.le_refl _) (by assumption)))))).mono ?_; rintro e w' ⟨rfl, rfl⟩))
    go_ret2
    exact ⟨rfl, by repeat' (first | (with_reducible exact Below.refl _ _) | (with_reducible assumption) | (with_reducible refine bl_alloc ?_ (Nat.le_refl _) _) | (with_reducible refine bl_drew ?_) | (with_reducible refine bl_drewN ?_ _) | (with_reducible refine bl_setRow ?_ (by first | (simp; done) | (simp; omega) | omega) _) | (with_reducible refine bl_setCell ?_ (by first | (simp; done) | (simp; omega) | omega) _) | (with_reducible refine bl_trans ?_ (Nat.le_refl _) (by assumption)))⟩
end Go.Proofs.YtaelddnkdklijaaDoor.Cb
