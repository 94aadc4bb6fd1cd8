/- Plain words for the calendar and for rules' sets. No program in sight. -/
import Derived.Test.YtaelddnkdklijaaDoorJp
import Derived.Test.YtaelddnkdklijaaDoorCd
import Derived.Lib.TrailingZeros
set_option linter.unusedVariables false
namespace Go.Proofs.YtaelddnkdklijaaDoor.Cp
open Go.Proofs.YtaelddnkdklijaaDoor.Jp

structure Mom where
  year : Int
  month : Int
  day : Int
  hour : Int
  minute : Int
  second : Int
  week : Int

/-- Of a day's number from March 1st of the year 0 on: the year in its era, counted from March. -/
def yoe (d : Int) : Int := (d - d / 1460 + d / 36524 - d / 146096) / 365
def doy (d : Int) : Int := d - (365 * yoe d + yoe d / 4 - yoe d / 100)
def mp (d : Int) : Int := (5 * doy d + 2) / 153
def dom (d : Int) : Int := doy d - (153 * mp d + 2) / 5

def dateY (day : Int) : Int := if mp ((day + 719468) % 146097) + 3 > 12 then 400 * ((day + 719468) / 146097) + yoe ((day + 719468) % 146097) + 1 else 400 * ((day + 719468) / 146097) + yoe ((day + 719468) % 146097)
def dateM (day : Int) : Int := if mp ((day + 719468) % 146097) + 3 > 12 then mp ((day + 719468) % 146097) + 3 - 12 else mp ((day + 719468) % 146097) + 3
def dateD (day : Int) : Int := dom ((day + 719468) % 146097) + 1

theorem yoe_bd (d : Int) (h0 : 0 ≤ d) (h1 : d < 146097) : 0 ≤ yoe d ∧ yoe d ≤ 399 := by unfold yoe; omega
theorem doy_bd (d : Int) (h0 : 0 ≤ d) (h1 : d < 146097) : 0 ≤ doy d ∧ doy d ≤ 365 := by
  obtain ⟨n, rfl⟩ := Int.eq_ofNat_of_zero_le h0
  have h := chk_at n (by omega)
  simp only [chk, Bool.and_eq_true, decide_eq_true_eq] at h
  have e : yoe (n : Int) = (((n + n / 36524 - n / 1460 - n / 146096) / 365 : Nat) : Int) := by unfold yoe; omega
  unfold doy
  rw [e]
  omega
theorem mp_bd (d : Int) (h0 : 0 ≤ d) (h1 : d < 146097) : 0 ≤ mp d ∧ mp d ≤ 11 := by
  have := doy_bd d h0 h1
  unfold mp; omega
theorem dom_bd (d : Int) (h0 : 0 ≤ d) (h1 : d < 146097) : 0 ≤ dom d ∧ dom d ≤ 30 := by
  have := doy_bd d h0 h1
  unfold dom mp; omega

def splitF (t : Int) : Mom := ⟨dateY (t / 86400), dateM (t / 86400), dateD (t / 86400), t % 86400 / 3600, t % 3600 / 60, t % 60, (t / 86400 + 4) % 7⟩

theorem dateM_bd (day : Int) (h0 : 0 ≤ day) (h1 : day < 376200) : 1 ≤ dateM day ∧ dateM day ≤ 12 := by
  have := mp_bd ((day + 719468) % 146097) (by omega) (by omega)
  unfold dateM; split <;> omega
theorem dateD_bd (day : Int) (h0 : 0 ≤ day) (h1 : day < 376200) : 1 ≤ dateD day ∧ dateD day ≤ 31 := by
  have := dom_bd ((day + 719468) % 146097) (by omega) (by omega)
  unfold dateD; omega

def fromF (set : Nat) (n : Int) : Option Int := if n > 63 ∨ set / 2 ^ n.toNat = 0 then none else some (n + (Lib.ctz 64 (set / 2 ^ n.toNat) : Nat))

/-- A rule's sets as plain numbers. -/
structure Rule where
  mi : Nat
  ho : Nat
  da : Nat
  mo : Nat
  we : Nat
  anyD : Bool
  anyW : Bool

def dayF (r : Rule) (month day week : Int) : Bool :=
  r.mo.testBit month.toNat && (if r.anyD || r.anyW then r.da.testBit day.toNat && r.we.testBit week.toNat else r.da.testBit day.toNat || r.we.testBit week.toNat)

def withinF (r : Rule) (minute : Int) : Option Int :=
  match (if r.ho.testBit (minute / 60).toNat then fromF r.mi (minute % 60) else none) with
  | some k => some (60 * (minute / 60) + k)
  | none => match fromF r.ho (minute / 60 + 1) with
    | none => none
    | some h => some (60 * h + (fromF r.mi 0).getD 0)

end Go.Proofs.YtaelddnkdklijaaDoor.Cp
