/- The walk of cron's Next. -/
import Derived.Test.YtaelddnkdklijaaDoorPg
set_option linter.unusedVariables false
set_option linter.unusedSimpArgs false
namespace Go.Proofs.YtaelddnkdklijaaDoor.Ph
open Go Go.RowKit Go.Shelf Go.Proofs Go.Proofs.YtaelddnkdklijaaDoor.Jp Go.Proofs.YtaelddnkdklijaaDoor.Jw Go.Proofs.YtaelddnkdklijaaDoor.Cp Go.Proofs.YtaelddnkdklijaaDoor.Ca Go.Proofs.YtaelddnkdklijaaDoor.Cb Go.Proofs.YtaelddnkdklijaaDoor.Pg

/-- From a day and a minute of it on: when it comes. -/
def nextL (r : Rule) : Nat → Nat → Int → Option Int
  | 0, _, _ => none
  | f + 1, D, mi =>
    if D < 376200 then
      if dayF r (splitF (86400 * D)).month (splitF (86400 * D)).day (splitF (86400 * D)).week then
        match withinF r mi with
        | some k => some (86400 * D + 60 * k)
        | none => nextL r f (D + 1) 0
      else nextL r f (D + 1) 0
    else none

theorem withinF_bd (r : Rule) (mn : Int) (hr : Rok r) (h0 : 0 ≤ mn) : ∀ k, withinF r mn = some k → 0 ≤ k ∧ k < 100000000 + 60 * mn := by
  have hA := fromF_bd r.mi (mn % 60) hr.mi (by omega)
  have hB := fromF_bd r.ho (mn / 60 + 1) hr.ho (by omega)
  have hC := fromF_bd r.mi 0 hr.mi (by omega)
  intro k hk
  unfold withinF at hk
  split at hk
  · rename_i x hx
    simp only [Option.some.injEq] at hk
    split at hx
    · have := hA x hx; omega
    · exact absurd hx (by simp)
  · split at hk
    · exact absurd hk (by simp)
    · rename_i y hy
      have h1 := hB y hy
      simp only [Option.some.injEq] at hk
      cases hz : fromF r.mi 0 with
      | none => rw [hz] at hk; simp only [Option.getD_none] at hk; omega
      | some z => have h2 := hC z hz; rw [hz] at hk; simp only [Option.getD_some] at hk; omega

def nextF (r : Rule) (t : Int) : Option Int := nextL r 376201 ((t + 60) / 60 * 60 / 86400).toNat ((t + 60) / 60 * 60 % 86400 / 60)

set_option maxRecDepth 100000 in
theorem next_ok (r : Rule) (t : Int) (w : World) (hr : Rok r) (hc : checkN r = 0) (h0 : -1 ≤ t) (h1 : t < 32503680000) (hT : TabAt 0 Lib.deBruijn64tab w) :
    Calls Tryd.prog 71 #[.agg #[.int .u64 r.mi, .int .u64 r.ho, .int .u64 r.da, .int .u64 r.mo, .int .u64 r.we, .bool r.anyD, .bool r.anyW], .int .i64 t] w fun e w' => e = .returned (.tuple #[.int .i64 ((nextF r t).getD 0), .bool (nextF r t).isSome, .int .i64 0]) ∧ Below w.heap.size w w' := by
  generalize hR' : nextF r t = R
  have hR := Lib.hid hR'
  clear hR'
  have hC := fun W => rcheck_calls r W hr
  rw [hc] at hC
  have HC := Lib.hid hC
  clear hC
  go_enter Tryd.func71, Tryd.ntmps71
  go_wp2_with (go_at_call 106; refine (HC.out _).mono ?_; rintro e w1 ⟨rfl, hb1⟩; have z1 : w.heap.size + 1 ≤ w1.heap.size := (by have h := hb1.size; (try simp at h); omega); have H1 : Below w.heap.size w w1 := (by repeat' (first | (with_reducible exact Below.refl _ _) | (with_reducible assumption) | (with_reducible refine bl_alloc ?_ (Nat.le_refl _) _) | (with_reducible refine bl_drew ?_) | (with_reducible refine bl_drewN ?_ _) | (with_reducible refine bl_setRow ?_ (by first | (simp; done) | (simp; omega) | omega) _) | (with_reducible refine bl_setCell ?_ (by first | (simp; done) | (simp; omega) | omega) _) | (with_reducible refine bl_trans ?_ (Nat.le_refl _) (by assumption)))); have b1 : Blk w1 (w.heap.size) 88 #[.int .u64 r.mi, .int .u64 r.ho, .int .u64 r.da, .int .u64 r.mo, .int .u64 r.we, .bool r.anyD, .bool r.anyW] := (by repeat' (first | (with_reducible exact Blk.new _ _ _) | (with_reducible refine Blk.new' _ _ ?_; simp; done) | (with_reducible assumption) | (with_reducible refine Blk.alloc ?_ _) | (with_reducible refine Blk.drew ?_) | (with_reducible refine Blk.drewN ?_ _) | (with_reducible refine Blk.far ?_ (by first | (simp; done) | (simp; omega) | omega) _) | (with_reducible apply Blk.setTo) | (with_reducible refine Blk.rowFar ?_ (by first | (simp; done) | (simp; omega) | omega) _) | (with_reducible refine Blk.below ?_ hb1 (by first | (simp; done) | (simp; omega) | omega)) | rfl | (simp; done))); have b1q := b1.cell; have b1f := b1.frozen; have b1l := b1.lt; clear hb1)
  have e0 : (t + 60) / 60 * 60 - (t + 60) / 60 * 60 % 86400 = 86400 * (((t + 60) / 60 * 60 / 86400).toNat : Int) := by omega
  have hTB : Hid (∀ W, Below w.heap.size w W → TabAt 0 Lib.deBruijn64tab W) := Lib.hid (fun W hW => TabAt.below hT hW)
  obtain ⟨N, hN⟩ : ∃ N : Int, 376210 ≤ N := ⟨376210, Int.le_refl _⟩
  go_loopw [9, 10] (fun mi at_ wr => ∃ (D f : Nat) (mn x : Int), mi = .int .i64 mn ∧ at_ = .int .i64 x ∧ Hid (x = 86400 * (D : Int)) ∧ 0 ≤ mn ∧ mn < 1440 ∧ (D : Int) ≤ 376201 ∧ (376201 : Int) ≤ (D : Int) + (f : Int) ∧ Hid (nextL r f D mn = R) ∧ Below w.heap.size w wr ∧ Blk wr w.heap.size 88 #[.int .u64 r.mi, .int .u64 r.ho, .int .u64 r.da, .int .u64 r.mo, .int .u64 r.we, .bool r.anyD, .bool r.anyW]) (fun _ at_ _ => (N - intOf at_ / 86400).toNat)
  case atStart => exact ⟨((t + 60) / 60 * 60 / 86400).toNat, 376201, (t + 60) / 60 * 60 % 86400 / 60, (t + 60) / 60 * 60 - (t + 60) / 60 * 60 % 86400, rfl, rfl, Lib.hid e0, by omega, by omega, by omega, by omega, hR, by repeat' (first | (with_reducible exact Below.refl _ _) | (with_reducible assumption) | (with_reducible refine bl_alloc ?_ (Nat.le_refl _) _) | (with_reducible refine bl_drew ?_) | (with_reducible refine bl_drewN ?_ _) | (with_reducible refine bl_setRow ?_ (by first | (simp; done) | (simp; omega) | omega) _) | (with_reducible refine bl_setCell ?_ (by first | (simp; done) | (simp; omega) | omega) _) | (with_reducible refine bl_trans ?_ (Nat.le_refl _) (by assumption))), by repeat' (first | (with_reducible exact Blk.new _ _ _) | (with_reducible refine Blk.new' _ _ ?_; simp; done) | (with_reducible assumption) | (with_reducible refine Blk.alloc ?_ _) | (with_reducible refine Blk.drew ?_) | (with_reducible refine Blk.drewN ?_ _) | (with_reducible refine Blk.far ?_ (by first | (simp; done) | (simp; omega) | omega) _) | (with_reducible apply Blk.setTo) | (with_reducible refine Blk.rowFar ?_ (by first | (simp; done) | (simp; omega) | omega) _) | (with_reducible refine Blk.below ?_ (by assumption) (by first | (simp; done) | (simp; omega) | omega)) | rfl | (simp; done))⟩
  case round =>
    clear e0 b1 b1q b1f b1l H1 hT
    obtain ⟨D, f, mn, x, rfl, rfl, hx, m0, m1, d1, d2, hd, H2, B2⟩ := hrel
    have x0 : 0 ≤ x := by have := hx.out; omega
    have B2q := B2.cell
    have B2l := B2.lt
    by_cases c1 : (D : Int) < 376200
    · have hx' := hx.out
      have x1 : x < 32503680000 := by omega
      have hM := dateM_bd (x / 86400) (by omega) (by omega)
      have hDy := dateD_bd (x / 86400) (by omega) (by omega)
      have HS := Lib.hid (fun W => split_calls x W (by omega) (by omega))
      have hq := hd.out
      obtain ⟨g, rfl⟩ : ∃ g, f = g + 1 := ⟨f - 1, by omega⟩
      simp only [nextL] at hq
      rw [if_pos (by omega), ← hx'] at hq
      have HD := Lib.hid (fun W => day_calls r (splitF x) W hr.mo hr.da hr.we (by simp only [splitF]; omega) (by simp only [splitF]; omega) (by simp only [splitF]; omega) (by simp only [splitF]; omega) (by simp only [splitF]; omega) (by simp only [splitF]; omega))
      have HW := Lib.hid (fun W hW => within_calls r mn W hr.mi hr.ho m0 m1 (hTB.out W hW))
      have hwb := Lib.hid (withinF_bd r mn hr m0)
      generalize splitF x = M at *
      generalize dayF r M.month M.day M.week = dy at *
      generalize withinF r mn = wi at *
      have c1' := c1
      clear hM hDy hd hx' c1 d1
      have HR := Lib.hid hr
      have D2 := Lib.hid (And.intro d2 (And.intro c1' hN))
      clear hr hc d2 hN h0 h1 c1'
      have hQ := Lib.hid hq
      clear hq
      cases dy
      · go_wp2_with (first
          | (go_at_call 107; refine (HS.out _).mono ?_; rintro e w3 ⟨rfl, hb3⟩; have z3 : w.heap.size + 1 ≤ w3.heap.size := (by have h := hb3.size; (try simp at h); omega); have H3 : Below w.heap.size w w3 := (by repeat' (first | (with_reducible exact Below.refl _ _) | (with_reducible assumption) | (with_reducible refine bl_alloc ?_ (Nat.le_refl _) _) | (with_reducible refine bl_drew ?_) | (with_reducible refine bl_drewN ?_ _) | (with_reducible refine bl_setRow ?_ (by first | (simp; done) | (simp; omega) | omega) _) | (with_reducible refine bl_setCell ?_ (by first | (simp; done) | (simp; omega) | omega) _) | (with_reducible refine bl_trans ?_ (Nat.le_refl _) (by assumption)))); have b3 : Blk w3 (w.heap.size) 88 #[.int .u64 r.mi, .int .u64 r.ho, .int .u64 r.da, .int .u64 r.mo, .int .u64 r.we, .bool r.anyD, .bool r.anyW] := (by repeat' (first | (with_reducible exact Blk.new _ _ _) | (with_reducible refine Blk.new' _ _ ?_; simp; done) | (with_reducible assumption) | (with_reducible refine Blk.alloc ?_ _) | (with_reducible refine Blk.drew ?_) | (with_reducible refine Blk.drewN ?_ _) | (with_reducible refine Blk.far ?_ (by first | (simp; done) | (simp; omega) | omega) _) | (with_reducible apply Blk.setTo) | (with_reducible refine Blk.rowFar ?_ (by first | (simp; done) | (simp; omega) | omega) _) | (with_reducible refine Blk.below ?_ hb3 (by first | (simp; done) | (simp; omega) | omega)) | rfl | (simp; done))); have b3q := b3.cell; have b3f := b3.frozen; have b3l := b3.lt; clear hb3)
          | (go_at_call 108; refine (HD.out _).mono ?_; rintro e w4 ⟨rfl, hb4⟩; have z4 : w.heap.size + 1 ≤ w4.heap.size := (by have h := hb4.size; (try simp at h); omega); have H4 : Below w.heap.size w w4 := (by repeat' (first | (with_reducible exact Below.refl _ _) | (with_reducible assumption) | (with_reducible refine bl_alloc ?_ (Nat.le_refl _) _) | (with_reducible refine bl_drew ?_) | (with_reducible refine bl_drewN ?_ _) | (with_reducible refine bl_setRow ?_ (by first | (simp; done) | (simp; omega) | omega) _) | (with_reducible refine bl_setCell ?_ (by first | (simp; done) | (simp; omega) | omega) _) | (with_reducible refine bl_trans ?_ (Nat.le_refl _) (by assumption)))); have b4 : Blk w4 (w.heap.size) 88 #[.int .u64 r.mi, .int .u64 r.ho, .int .u64 r.da, .int .u64 r.mo, .int .u64 r.we, .bool r.anyD, .bool r.anyW] := (by repeat' (first | (with_reducible exact Blk.new _ _ _) | (with_reducible refine Blk.new' _ _ ?_; simp; done) | (with_reducible assumption) | (with_reducible refine Blk.alloc ?_ _) | (with_reducible refine Blk.drew ?_) | (with_reducible refine Blk.drewN ?_ _) | (with_reducible refine Blk.far ?_ (by first | (simp; done) | (simp; omega) | omega) _) | (with_reducible apply Blk.setTo) | (with_reducible refine Blk.rowFar ?_ (by first | (simp; done) | (simp; omega) | omega) _) | (with_reducible refine Blk.below ?_ hb4 (by first | (simp; done) | (simp; omega) | omega)) | rfl | (simp; done))); have b4q := b4.cell; have b4f := b4.frozen; have b4l := b4.lt; clear hb4))
        go_roundw
        case rel => exact ⟨D + 1, g, 0, x + 86400, rfl, rfl, Lib.hid (by have := hx.out; omega), by omega, by omega, by have := D2.out; omega, by have := D2.out; omega, Lib.hid (by simpa using hQ.out), by repeat' (first | (with_reducible exact Below.refl _ _) | (with_reducible assumption) | (with_reducible refine bl_alloc ?_ (Nat.le_refl _) _) | (with_reducible refine bl_drew ?_) | (with_reducible refine bl_drewN ?_ _) | (with_reducible refine bl_setRow ?_ (by first | (simp; done) | (simp; omega) | omega) _) | (with_reducible refine bl_setCell ?_ (by first | (simp; done) | (simp; omega) | omega) _) | (with_reducible refine bl_trans ?_ (Nat.le_refl _) (by assumption))), by repeat' (first | (with_reducible exact Blk.new _ _ _) | (with_reducible refine Blk.new' _ _ ?_; simp; done) | (with_reducible assumption) | (with_reducible refine Blk.alloc ?_ _) | (with_reducible refine Blk.drew ?_) | (with_reducible refine Blk.drewN ?_ _) | (with_reducible refine Blk.far ?_ (by first | (simp; done) | (simp; omega) | omega) _) | (with_reducible apply Blk.setTo) | (with_reducible refine Blk.rowFar ?_ (by first | (simp; done) | (simp; omega) | omega) _) | (with_reducible refine Blk.below ?_ (by assumption) (by first | (simp; done) | (simp; omega) | omega)) | rfl | (simp; done))⟩
        case measure => have := D2.out; simp [intOf]; omega
      · rcases wi with _ | k
        · go_wp2_with (first
            | (go_at_call 107; refine (HS.out _).mono ?_; rintro e w3 ⟨rfl, hb3⟩; have z3 : w.heap.size + 1 ≤ w3.heap.size := (by have h := hb3.size; (try simp at h); omega); have H3 : Below w.heap.size w w3 := (by repeat' (first | (with_reducible exact Below.refl _ _) | (with_reducible assumption) | (with_reducible refine bl_alloc ?_ (Nat.le_refl _) _) | (with_reducible refine bl_drew ?_) | (with_reducible refine bl_drewN ?_ _) | (with_reducible refine bl_setRow ?_ (by first | (simp; done) | (simp; omega) | omega) _) | (with_reducible refine bl_setCell ?_ (by first | (simp; done) | (simp; omega) | omega) _) | (with_reducible refine bl_trans ?_ (Nat.le_refl _) (by assumption)))); have b3 : Blk w3 (w.heap.size) 88 #[.int .u64 r.mi, .int .u64 r.ho, .int .u64 r.da, .int .u64 r.mo, .int .u64 r.we, .bool r.anyD, .bool r.anyW] := (by repeat' (first | (with_reducible exact Blk.new _ _ _) | (with_reducible refine Blk.new' _ _ ?_; simp; done) | (with_reducible assumption) | (with_reducible refine Blk.alloc ?_ _) | (with_reducible refine Blk.drew ?_) | (with_reducible refine Blk.drewN ?_ _) | (with_reducible refine Blk.far ?_ (by first | (simp; done) | (simp; omega) | omega) _) | (with_reducible apply Blk.setTo) | (with_reducible refine Blk.rowFar ?_ (by first | (simp; done) | (simp; omega) | omega) _) | (with_reducible refine Blk.below ?_ hb3 (by first | (simp; done) | (simp; omega) | omega)) | rfl | (simp; done))); have b3q := b3.cell; have b3f := b3.frozen; have b3l := b3.lt; clear hb3)
            | (go_at_call 108; refine (HD.out _).mono ?_; rintro e w4 ⟨rfl, hb4⟩; have z4 : w.heap.size + 1 ≤ w4.heap.size := (by have h := hb4.size; (try simp at h); omega); have H4 : Below w.heap.size w w4 := (by repeat' (first | (with_reducible exact Below.refl _ _) | (with_reducible assumption) | (with_reducible refine bl_alloc ?_ (Nat.le_refl _) _) | (with_reducible refine bl_drew ?_) | (with_reducible refine bl_drewN ?_ _) | (with_reducible refine bl_setRow ?_ (by first | (simp; done) | (simp; omega) | omega) _) | (with_reducible refine bl_setCell ?_ (by first | (simp; done) | (simp; omega) | omega) _) | (with_reducible refine bl_trans ?_ (Nat.le_refl _) (by assumption)))); have b4 : Blk w4 (w.heap.size) 88 #[.int .u64 r.mi, .int .u64 r.ho, .int .u64 r.da, .int .u64 r.mo, .int .u64 r.we, .bool r.anyD, .bool r.anyW] := (by repeat' (first | (with_reducible exact Blk.new _ _ _) | (with_reducible refine Blk.new' _ _ ?_; simp; done) | (with_reducible assumption) | (with_reducible refine Blk.alloc ?_ _) | (with_reducible refine Blk.drew ?_) | (with_reducible refine Blk.drewN ?_ _) | (with_reducible refine Blk.far ?_ (by first | (simp; done) | (simp; omega) | omega) _) | (with_reducible apply Blk.setTo) | (with_reducible refine Blk.rowFar ?_ (by first | (simp; done) | (simp; omega) | omega) _) | (with_reducible refine Blk.below ?_ hb4 (by first | (simp; done) | (simp; omega) | omega)) | rfl | (simp; done))); have b4q := b4.cell; have b4f := b4.frozen; have b4l := b4.lt; clear hb4)
            | (go_at_call 109; refine (HW.out _ (by repeat' (first | (with_reducible exact Below.refl _ _) | (with_reducible assumption) | (with_reducible refine bl_alloc ?_ (Nat.le_refl _) _) | (with_reducible refine bl_drew ?_) | (with_reducible refine bl_drewN ?_ _) | (with_reducible refine bl_setRow ?_ (by first | (simp; done) | (simp; omega) | omega) _) | (with_reducible refine bl_setCell ?_ (by first | (simp; done) | (simp; omega) | omega) _) | (with_reducible refine bl_trans ?_ (Nat.le_refl _) (by assumption))))).mono ?_; rintro e w5 ⟨rfl, hb5⟩; have z5 : w.heap.size + 1 ≤ w5.heap.size := (by have h := hb5.size; (try simp at h); omega); have H5 : Below w.heap.size w w5 := (by repeat' (first | (with_reducible exact Below.refl _ _) | (with_reducible assumption) | (with_reducible refine bl_alloc ?_ (Nat.le_refl _) _) | (with_reducible refine bl_drew ?_) | (with_reducible refine bl_drewN ?_ _) | (with_reducible refine bl_setRow ?_ (by first | (simp; done) | (simp; omega) | omega) _) | (with_reducible refine bl_setCell ?_ (by first | (simp; done) | (simp; omega) | omega) _) | (with_reducible refine bl_trans ?_ (Nat.le_refl _) (by assumption)))); have b5 : Blk w5 (w.heap.size) 88 #[.int .u64 r.mi, .int .u64 r.ho, .int .u64 r.da, .int .u64 r.mo, .int .u64 r.we, .bool r.anyD, .bool r.anyW] := (by repeat' (first | (with_reducible exact Blk.new _ _ _) | (with_reducible refine Blk.new' _ _ ?_; simp; done) | (with_reducible assumption) | (with_reducible refine Blk.alloc ?_ _) | (with_reducible refine Blk.drew ?_) | (with_reducible refine Blk.drewN ?_ _) | (with_reducible refine Blk.far ?_ (by first | (simp; done) | (simp; omega) | omega) _) | (with_reducible apply Blk.setTo) | (with_reducible refine Blk.rowFar ?_ (by first | (simp; done) | (simp; omega) | omega) _) | (with_reducible refine Blk.below ?_ hb5 (by first | (simp; done) | (simp; omega) | omega)) | rfl | (simp; done))); have b5q := b5.cell; have b5f := b5.frozen; have b5l := b5.lt; clear hb5))
          go_roundw
          case rel => exact ⟨D + 1, g, 0, x + 86400, rfl, rfl, Lib.hid (by have := hx.out; omega), by omega, by omega, by have := D2.out; omega, by have := D2.out; omega, Lib.hid (by simpa using hQ.out), by repeat' (first | (with_reducible exact Below.refl _ _) | (with_reducible assumption) | (with_reducible refine bl_alloc ?_ (Nat.le_refl _) _) | (with_reducible refine bl_drew ?_) | (with_reducible refine bl_drewN ?_ _) | (with_reducible refine bl_setRow ?_ (by first | (simp; done) | (simp; omega) | omega) _) | (with_reducible refine bl_setCell ?_ (by first | (simp; done) | (simp; omega) | omega) _) | (with_reducible refine bl_trans ?_ (Nat.le_refl _) (by assumption))), by repeat' (first | (with_reducible exact Blk.new _ _ _) | (with_reducible refine Blk.new' _ _ ?_; simp; done) | (with_reducible assumption) | (with_reducible refine Blk.alloc ?_ _) | (with_reducible refine Blk.drew ?_) | (with_reducible refine Blk.drewN ?_ _) | (with_reducible refine Blk.far ?_ (by first | (simp; done) | (simp; omega) | omega) _) | (with_reducible apply Blk.setTo) | (with_reducible refine Blk.rowFar ?_ (by first | (simp; done) | (simp; omega) | omega) _) | (with_reducible refine Blk.below ?_ (by assumption) (by first | (simp; done) | (simp; omega) | omega)) | rfl | (simp; done))⟩
          case measure => have := D2.out; simp [intOf]; omega
        · obtain ⟨k0, k1⟩ := hwb.out k rfl
          go_wp2_with (first
            | (go_at_call 107; refine (HS.out _).mono ?_; rintro e w3 ⟨rfl, hb3⟩; have z3 : w.heap.size + 1 ≤ w3.heap.size := (by have h := hb3.size; (try simp at h); omega); have H3 : Below w.heap.size w w3 := (by repeat' (first | (with_reducible exact Below.refl _ _) | (with_reducible assumption) | (with_reducible refine bl_alloc ?_ (Nat.le_refl _) _) | (with_reducible refine bl_drew ?_) | (with_reducible refine bl_drewN ?_ _) | (with_reducible refine bl_setRow ?_ (by first | (simp; done) | (simp; omega) | omega) _) | (with_reducible refine bl_setCell ?_ (by first | (simp; done) | (simp; omega) | omega) _) | (with_reducible refine bl_trans ?_ (Nat.le_refl _) (by assumption)))); have b3 : Blk w3 (w.heap.size) 88 #[.int .u64 r.mi, .int .u64 r.ho, .int .u64 r.da, .int .u64 r.mo, .int .u64 r.we, .bool r.anyD, .bool r.anyW] := (by repeat' (first | (with_reducible exact Blk.new _ _ _) | (with_reducible refine Blk.new' _ _ ?_; simp; done) | (with_reducible assumption) | (with_reducible refine Blk.alloc ?_ _) | (with_reducible refine Blk.drew ?_) | (with_reducible refine Blk.drewN ?_ _) | (with_reducible refine Blk.far ?_ (by first | (simp; done) | (simp; omega) | omega) _) | (with_reducible apply Blk.setTo) | (with_reducible refine Blk.rowFar ?_ (by first | (simp; done) | (simp; omega) | omega) _) | (with_reducible refine Blk.below ?_ hb3 (by first | (simp; done) | (simp; omega) | omega)) | rfl | (simp; done))); have b3q := b3.cell; have b3f := b3.frozen; have b3l := b3.lt; clear hb3)
            | (go_at_call 108; refine (HD.out _).mono ?_; rintro e w4 ⟨rfl, hb4⟩; have z4 : w.heap.size + 1 ≤ w4.heap.size := (by have h := hb4.size; (try simp at h); omega); have H4 : Below w.heap.size w w4 := (by repeat' (first | (with_reducible exact Below.refl _ _) | (with_reducible assumption) | (with_reducible refine bl_alloc ?_ (Nat.le_refl _) _) | (with_reducible refine bl_drew ?_) | (with_reducible refine bl_drewN ?_ _) | (with_reducible refine bl_setRow ?_ (by first | (simp; done) | (simp; omega) | omega) _) | (with_reducible refine bl_setCell ?_ (by first | (simp; done) | (simp; omega) | omega) _) | (with_reducible refine bl_trans ?_ (Nat.le_refl _) (by assumption)))); have b4 : Blk w4 (w.heap.size) 88 #[.int .u64 r.mi, .int .u64 r.ho, .int .u64 r.da, .int .u64 r.mo, .int .u64 r.we, .bool r.anyD, .bool r.anyW] := (by repeat' (first | (with_reducible exact Blk.new _ _ _) | (with_reducible refine Blk.new' _ _ ?_; simp; done) | (with_reducible assumption) | (with_reducible refine Blk.alloc ?_ _) | (with_reducible refine Blk.drew ?_) | (with_reducible refine Blk.drewN ?_ _) | (with_reducible refine Blk.far ?_ (by first | (simp; done) | (simp; omega) | omega) _) | (with_reducible apply Blk.setTo) | (with_reducible refine Blk.rowFar ?_ (by first | (simp; done) | (simp; omega) | omega) _) | (with_reducible refine Blk.below ?_ hb4 (by first | (simp; done) | (simp; omega) | omega)) | rfl | (simp; done))); have b4q := b4.cell; have b4f := b4.frozen; have b4l := b4.lt; clear hb4)
            | (go_at_call 109; refine (HW.out _ (by repeat' (first | (with_reducible exact Below.refl _ _) | (with_reducible assumption) | (with_reducible refine bl_alloc ?_ (Nat.le_refl _) _) | (with_reducible refine bl_drew ?_) | (with_reducible refine bl_drewN ?_ _) | (with_reducible refine bl_setRow ?_ (by first | (simp; done) | (simp; omega) | omega) _) | (with_reducible refine bl_setCell ?_ (by first | (simp; done) | (simp; omega) | omega) _) | (with_reducible refine bl_trans ?_ (Nat.le_refl _) (by assumption))))).mono ?_; rintro e w5 ⟨rfl, hb5⟩; have z5 : w.heap.size + 1 ≤ w5.heap.size := (by have h := hb5.size; (try simp at h); omega); have H5 : Below w.heap.size w w5 := (by repeat' (first | (with_reducible exact Below.refl _ _) | (with_reducible assumption) | (with_reducible refine bl_alloc ?_ (Nat.le_refl _) _) | (with_reducible refine bl_drew ?_) | (with_reducible refine bl_drewN ?_ _) | (with_reducible refine bl_setRow ?_ (by first | (simp; done) | (simp; omega) | omega) _) | (with_reducible refine bl_setCell ?_ (by first | (simp; done) | (simp; omega) | omega) _) | (with_reducible refine bl_trans ?_ (Nat.le_refl _) (by assumption)))); have b5 : Blk w5 (w.heap.size) 88 #[.int .u64 r.mi, .int .u64 r.ho, .int .u64 r.da, .int .u64 r.mo, .int .u64 r.we, .bool r.anyD, .bool r.anyW] := (by repeat' (first | (with_reducible exact Blk.new _ _ _) | (with_reducible refine Blk.new' _ _ ?_; simp; done) | (with_reducible assumption) | (with_reducible refine Blk.alloc ?_ _) | (with_reducible refine Blk.drew ?_) | (with_reducible refine Blk.drewN ?_ _) | (with_reducible refine Blk.far ?_ (by first | (simp; done) | (simp; omega) | omega) _) | (with_reducible apply Blk.setTo) | (with_reducible refine Blk.rowFar ?_ (by first | (simp; done) | (simp; omega) | omega) _) | (with_reducible refine Blk.below ?_ hb5 (by first | (simp; done) | (simp; omega) | omega)) | rfl | (simp; done))); have b5q := b5.cell; have b5f := b5.frozen; have b5l := b5.lt; clear hb5))
          go_ret3
          have hq := hQ.out
          simp only [if_true] at hq
          rw [← hq]
          exact ⟨rfl, by repeat' (first | (with_reducible exact Below.refl _ _) | (with_reducible assumption) | (with_reducible refine bl_alloc ?_ (Nat.le_refl _) _) | (with_reducible refine bl_drew ?_) | (with_reducible refine bl_drewN ?_ _) | (with_reducible refine bl_setRow ?_ (by first | (simp; done) | (simp; omega) | omega) _) | (with_reducible refine bl_setCell ?_ (by first | (simp; done) | (simp; omega) | omega) _) | (with_reducible refine bl_trans ?_ (Nat.le_refl _) (by assumption)))⟩
    · have hx' := hx.out
      have x1 : ¬ x < 32503680000 := by omega
      have hq := hd.out
      have hn : R = none := by
        rw [← hq]
        cases f with
        | zero => rfl
        | succ g => simp only [nextL]; rw [if_neg (by omega)]
      have HN := Lib.hid hn
      clear hq hd hn hx' c1 d1 d2 hN h0 h1 hc hr
      go_wp2_with fail
      go_ret3
      rw [HN.out]
      exact ⟨rfl, by repeat' (first | (with_reducible exact Below.refl _ _) | (with_reducible assumption) | (with_reducible refine bl_alloc ?_ (Nat.le_refl _) _) | (with_reducible refine bl_drew ?_) | (with_reducible refine bl_drewN ?_ _) | (with_reducible refine bl_setRow ?_ (by first | (simp; done) | (simp; omega) | omega) _) | (with_reducible refine bl_setCell ?_ (by first | (simp; done) | (simp; omega) | omega) _) | (with_reducible refine bl_trans ?_ (Nat.le_refl _) (by assumption)))⟩

theorem next_bad (r : Rule) (t : Int) (w : World) (hr : Rok r) (hc : (checkN r == 0) = false) : Calls Tryd.prog 71 #[.agg #[.int .u64 r.mi, .int .u64 r.ho, .int .u64 r.da, .int .u64 r.mo, .int .u64 r.we, .bool r.anyD, .bool r.anyW], .int .i64 t] w
    fun e w' => e = .returned (.tuple #[.int .i64 0, .bool false, .int .i64 (checkN r)]) ∧ Below w.heap.size w w' := by
  have HC := Lib.hid (fun W => rcheck_calls r W hr)
  generalize checkN r = c at *
  go_enter Tryd.func71, Tryd.ntmps71
  go_wp2_with (go_at_call 106; refine (HC.out _).mono ?_; rintro e w1 ⟨rfl, hb1⟩; have z1 : w.heap.size + 1 ≤ w1.heap.size := (by have h := hb1.size; (try simp at h); omega); have H1 : Below w.heap.size w w1 := (by repeat' (first | (with_reducible exact Below.refl _ _) | (with_reducible assumption) | (with_reducible refine bl_alloc ?_ (Nat.le_refl _) _) | (with_reducible refine bl_drew ?_) | (with_reducible refine bl_drewN ?_ _) | (with_reducible refine bl_setRow ?_ (by first | (simp; done) | (simp; omega) | omega) _) | (with_reducible refine bl_setCell ?_ (by first | (simp; done) | (simp; omega) | omega) _) | (with_reducible refine bl_trans ?_ (Nat.le_refl _) (by assumption)))); clear hb1)
  go_ret3
  exact ⟨rfl, by repeat' (first | (with_reducible exact Below.refl _ _) | (with_reducible assumption) | (with_reducible refine bl_alloc ?_ (Nat.le_refl _) _) | (with_reducible refine bl_drew ?_) | (with_reducible refine bl_drewN ?_ _) | (with_reducible refine bl_setRow ?_ (by first | (simp; done) | (simp; omega) | omega) _) | (with_reducible refine bl_setCell ?_ (by first | (simp; done) | (simp; omega) | omega) _) | (with_reducible refine bl_trans ?_ (Nat.le_refl _) (by assumption)))⟩

theorem next_range (r : Rule) (t : Int) (w : World) (hr : Rok r) (hc : checkN r = 0) (ht : t < -1 ∨ 32503680000 ≤ t) : Calls Tryd.prog 71 #[.agg #[.int .u64 r.mi, .int .u64 r.ho, .int .u64 r.da, .int .u64 r.mo, .int .u64 r.we, .bool r.anyD, .bool r.anyW], .int .i64 t] w
    fun e w' => e = .returned (.tuple #[.int .i64 0, .bool false, .int .i64 4]) ∧ Below w.heap.size w w' := by
  have hC := fun W => rcheck_calls r W hr
  rw [hc] at hC
  have HC := Lib.hid hC
  clear hC hc
  rcases ht with ht | ht
  all_goals
    go_enter Tryd.func71, Tryd.ntmps71
    go_wp2_with (go_at_call 106; refine (HC.out _).mono ?_; rintro e w1 ⟨rfl, hb1⟩; have z1 : w.heap.size + 1 ≤ w1.heap.size := (by have h := hb1.size; (try simp at h); omega); have H1 : Below w.heap.size w w1 := (by repeat' (first | (with_reducible exact Below.refl _ _) | (with_reducible assumption) | (with_reducible refine bl_alloc ?_ (Nat.le_refl _) _) | (with_reducible refine bl_drew ?_) | (with_reducible refine bl_drewN ?_ _) | (with_reducible refine bl_setRow ?_ (by first | (simp; done) | (simp; omega) | omega) _) | (with_reducible refine bl_setCell ?_ (by first | (simp; done) | (simp; omega) | omega) _) | (with_reducible refine bl_trans ?_ (Nat.le_refl _) (by assumption)))); clear hb1)
    go_ret3
    exact ⟨rfl, by repeat' (first | (with_reducible exact Below.refl _ _) | (with_reducible assumption) | (with_reducible refine bl_alloc ?_ (Nat.le_refl _) _) | (with_reducible refine bl_drew ?_) | (with_reducible refine bl_drewN ?_ _) | (with_reducible refine bl_setRow ?_ (by first | (simp; done) | (simp; omega) | omega) _) | (with_reducible refine bl_setCell ?_ (by first | (simp; done) | (simp; omega) | omega) _) | (with_reducible refine bl_trans ?_ (Nat.le_refl _) (by assumption)))⟩

/-- When a rule comes next: the second, does it, an error's number. -/
def nextA (r : Rule) (t : Int) : Int × Bool × Int :=
  if checkN r = 0 then (if t < -1 ∨ 32503680000 ≤ t then (0, false, 4) else ((nextF r t).getD 0, (nextF r t).isSome, 0)) else (0, false, checkN r)

theorem next_calls (r : Rule) (t : Int) (w : World) (hr : Rok r) (hT : TabAt 0 Lib.deBruijn64tab w) : Calls Tryd.prog 71 #[.agg #[.int .u64 r.mi, .int .u64 r.ho, .int .u64 r.da, .int .u64 r.mo, .int .u64 r.we, .bool r.anyD, .bool r.anyW], .int .i64 t] w
    fun e w' => e = .returned (.tuple #[.int .i64 (nextA r t).1, .bool (nextA r t).2.1, .int .i64 (nextA r t).2.2]) ∧ Below w.heap.size w w' := by
  unfold nextA
  by_cases h1 : checkN r = 0
  · rw [if_pos h1]
    by_cases h2 : t < -1 ∨ 32503680000 ≤ t
    · rw [if_pos h2]; exact next_range r t w hr h1 h2
    · rw [if_neg h2]; exact next_ok r t w hr h1 (by omega) (by omega) hT
  · rw [if_neg h1]; exact next_bad r t w hr (beq_eq_false_iff_ne.2 h1)
end Go.Proofs.YtaelddnkdklijaaDoor.Ph
