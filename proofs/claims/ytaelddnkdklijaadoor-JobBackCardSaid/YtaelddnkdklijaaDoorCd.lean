/- Of each day of an era of 400 years: its year, counted from March, begins no later, and no more than 365 days earlier (asked day by day). -/
namespace Go.Proofs.YtaelddnkdklijaaDoor.Cp
/-- One day of an era, in natural numbers. -/
def chk (d : Nat) : Bool :=
  let y := (d + d / 36524 - d / 1460 - d / 146096) / 365
  decide (365 * y + y / 4 ≤ d + y / 100) && decide (d + y / 100 ≤ 365 * y + y / 4 + 365)

theorem chk_all : (List.range 383).all (fun a => (List.range 382).all (fun b => decide (146097 ≤ 382 * a + b) || chk (382 * a + b))) = true := by decide +kernel

theorem chk_at (d : Nat) (h : d < 146097) : chk d = true := by
  have h1 := List.all_eq_true.1 chk_all (d / 382) (List.mem_range.2 (by omega))
  have h2 := List.all_eq_true.1 h1 (d % 382) (List.mem_range.2 (by omega))
  rw [show 382 * (d / 382) + d % 382 = d from by omega] at h2
  simpa [show ¬ 146097 ≤ d from by omega] using h2

end Go.Proofs.YtaelddnkdklijaaDoor.Cp
