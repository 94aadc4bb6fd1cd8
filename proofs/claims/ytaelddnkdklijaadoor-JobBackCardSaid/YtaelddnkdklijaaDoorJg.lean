/- The walks of layer 19's example and of JobDies. -/
import Derived.Test.YtaelddnkdklijaaDoorJf
set_option linter.unusedSimpArgs false
set_option linter.unusedVariables false
namespace Go.Proofs.YtaelddnkdklijaaDoor.Ja
open Go.RowKit Go.Proofs.YtaelddnkdklijaaDoor.Jp Go.Proofs.YtaelddnkdklijaaDoor.Jw

theorem e_size : (⟨#[]⟩ : ByteArray).size = 0 := rfl
theorem e_list : (⟨#[]⟩ : ByteArray).toList = [] := by kernel_rfl

def pe0 : ByteArray → Int := fun _ => 0
def rv0 : ByteArray → Rl := fun _ => ⟨0, 0, 0, 0, 0, false, false⟩

theorem noRule {pe : ByteArray → Int} {rv : ByteArray → Rl} {s : ByteArray} {w : World} (h : s.toList.isEmpty = true) : s.toList.isEmpty = false → ParseC pe rv s w := fun h' => by rw [h] at h'; cases h'

theorem delay0 : delayF ⟨3, 9, 4⟩ (min (0 + 1) 16 - 1) = 3 := by decide

set_option maxRecDepth 100000 in
theorem alive_calls (w : World) : Calls Tryd.prog 9 #[] w fun e w' => e = .returned (.bool true) ∧ Below w.heap.size w w' := by
  have hF := fun W => fail_a pe0 rv0 1 ⟨#[]⟩ ⟨#[]⟩ ⟨#[]⟩ 2 0 0 1 1 20 3 9 4 10 W (noRule (by rw [e_list]; rfl)) (by simp [jobOk, sizesOk, statusOk, ruleOk, holderMay, within, e_size, e_list]) (by decide) rfl (by decide) (by decide) (by decide) (by decide) (by decide) (by decide) (by decide)
  rw [delay0] at hF
  have HF := Lib.hid hF
  clear hF
  go_enter Tryd.func9, Tryd.ntmps9
  go_wp2_with (first
    | (go_at_call 16; refine (HF.out _).mono ?_; rintro e w2 ⟨rfl, hb2⟩; have z2 : w.heap.size + 1 ≤ w2.heap.size := (by have h := hb2.size; (try simp at h); omega); have H2 : Below w.heap.size w w2 := (by repeat' (first | (with_reducible exact Below.refl _ _) | (with_reducible assumption) | (with_reducible refine bl_alloc ?_ (Nat.le_refl _) _) | (with_reducible refine bl_drew ?_) | (with_reducible refine bl_drewN ?_ _) | (with_reducible refine bl_setRow ?_ (by first | (simp; done) | (simp; omega) | omega) _) | (with_reducible refine bl_setCell ?_ (by first | (simp; done) | (simp; omega) | omega) _) | (with_reducible refine bl_trans ?_ (Nat.le_refl _) (by assumption)))); clear hb2)
    | (go_at_call 12; refine (num_calls _ _).mono ?_; rintro e w' ⟨rfl, rfl⟩))
  go_ret
  exact ⟨rfl, by repeat' (first | (with_reducible exact Below.refl _ _) | (with_reducible assumption) | (with_reducible refine bl_alloc ?_ (Nat.le_refl _) _) | (with_reducible refine bl_drew ?_) | (with_reducible refine bl_drewN ?_ _) | (with_reducible refine bl_setRow ?_ (by first | (simp; done) | (simp; omega) | omega) _) | (with_reducible refine bl_setCell ?_ (by first | (simp; done) | (simp; omega) | omega) _) | (with_reducible refine bl_trans ?_ (Nat.le_refl _) (by assumption)))⟩

/-- The job that is leased, failed again and again. -/
def dj (p : ByteArray) (st du tr : Int) : Job := ⟨7, ⟨#[]⟩, ⟨#[]⟩, p, st, du, tr, 0, 0, 0⟩

theorem dj_ok (p : ByteArray) (du tr : Int) (hp : (p.size : Int) ≤ 200) (h0 : 0 ≤ du) (h1 : du ≤ 32503680000) (h2 : 0 ≤ tr) (h3 : tr ≤ 16) : jobOk pe0 ⟨7, ⟨#[]⟩, ⟨#[]⟩, p, 1, du, tr, 0, 0, 0⟩ = true := by
  simp [jobOk, sizesOk, statusOk, ruleOk, noHolder, within, e_size, e_list, *]

theorem dk_ok (p : ByteArray) (tr tk ti : Int) (hp : (p.size : Int) ≤ 200) (h2 : 0 ≤ tr) (h3 : tr ≤ 16) (h4 : 1 ≤ tk) (h5 : tk ≤ 16) (h6 : 0 ≤ ti) (h7 : ti ≤ 1000000) : jobOk pe0 ⟨7, ⟨#[]⟩, ⟨#[]⟩, p, 2, 0, tr, 1, tk, ti⟩ = true := by
  simp [jobOk, sizesOk, statusOk, ruleOk, holderMay, within, e_size, e_list, *]
  omega

set_option maxHeartbeats 1000000 in
set_option maxRecDepth 100000 in
theorem dies_bad (b c t now : Int) (p : ByteArray) (w : World) (h : limOk ⟨b, c, t⟩ = false) :
    Calls Tryd.prog 4 #[.agg #[.int .i64 b, .int .i64 c, .int .i64 t], .int .i64 now, .string p] w fun e w' => e = .returned (.bool true) ∧ Below w.heap.size w w' := by
  have hA := fun W => refCheck_calls b c t W
  have hB := fun W => limCheck_calls b c t W
  rw [h] at hA hB
  simp only [Bool.false_eq_true, if_false] at hA hB
  have HA := Lib.hid hA
  have HB := Lib.hid hB
  clear hA hB h
  go_enter Tryd.func4, Tryd.ntmps4
  go_wp2_with (first
    | (go_at_call 9; refine (alive_calls _).mono ?_; rintro e w1 ⟨rfl, hb1⟩; have z1 : w.heap.size + 1 ≤ w1.heap.size := (by have h := hb1.size; (try simp at h); omega); have H1 : Below w.heap.size w w1 := (by repeat' (first | (with_reducible exact Below.refl _ _) | (with_reducible assumption) | (with_reducible refine bl_alloc ?_ (Nat.le_refl _) _) | (with_reducible refine bl_drew ?_) | (with_reducible refine bl_drewN ?_ _) | (with_reducible refine bl_setRow ?_ (by first | (simp; done) | (simp; omega) | omega) _) | (with_reducible refine bl_setCell ?_ (by first | (simp; done) | (simp; omega) | omega) _) | (with_reducible refine bl_trans ?_ (Nat.le_refl _) (by assumption)))); have b1 : Blk w1 (w.heap.size) 23 #[.int .i64 b, .int .i64 c, .int .i64 t] := (by repeat' (first | (with_reducible exact Blk.new _ _ _) | (with_reducible refine Blk.new' _ _ ?_; simp; done) | (with_reducible assumption) | (with_reducible refine Blk.alloc ?_ _) | (with_reducible refine Blk.drew ?_) | (with_reducible refine Blk.drewN ?_ _) | (with_reducible refine Blk.far ?_ (by first | (simp; done) | (simp; omega) | omega) _) | (with_reducible apply Blk.setTo) | (with_reducible refine Blk.rowFar ?_ (by first | (simp; done) | (simp; omega) | omega) _) | (with_reducible refine Blk.below ?_ hb1 (by first | (simp; done) | (simp; omega) | omega)) | rfl | (simp; done))); have b1q := b1.cell; have b1f := b1.frozen; have b1l := b1.lt; clear hb1)
    | (go_at_call 11; refine (HA.out _).mono ?_; rintro e w2 ⟨rfl, hb2⟩; have z2 : w.heap.size + 1 ≤ w2.heap.size := (by have h := hb2.size; (try simp at h); omega); have H2 : Below w.heap.size w w2 := (by repeat' (first | (with_reducible exact Below.refl _ _) | (with_reducible assumption) | (with_reducible refine bl_alloc ?_ (Nat.le_refl _) _) | (with_reducible refine bl_drew ?_) | (with_reducible refine bl_drewN ?_ _) | (with_reducible refine bl_setRow ?_ (by first | (simp; done) | (simp; omega) | omega) _) | (with_reducible refine bl_setCell ?_ (by first | (simp; done) | (simp; omega) | omega) _) | (with_reducible refine bl_trans ?_ (Nat.le_refl _) (by assumption)))); have b2 : Blk w2 (w.heap.size) 23 #[.int .i64 b, .int .i64 c, .int .i64 t] := (by repeat' (first | (with_reducible exact Blk.new _ _ _) | (with_reducible refine Blk.new' _ _ ?_; simp; done) | (with_reducible assumption) | (with_reducible refine Blk.alloc ?_ _) | (with_reducible refine Blk.drew ?_) | (with_reducible refine Blk.drewN ?_ _) | (with_reducible refine Blk.far ?_ (by first | (simp; done) | (simp; omega) | omega) _) | (with_reducible apply Blk.setTo) | (with_reducible refine Blk.rowFar ?_ (by first | (simp; done) | (simp; omega) | omega) _) | (with_reducible refine Blk.below ?_ hb2 (by first | (simp; done) | (simp; omega) | omega)) | rfl | (simp; done))); have b2q := b2.cell; have b2f := b2.frozen; have b2l := b2.lt; clear hb2)
    | (go_at_call 17; refine (HB.out _).mono ?_; rintro e w3 ⟨rfl, hb3⟩; have z3 : w.heap.size + 1 ≤ w3.heap.size := (by have h := hb3.size; (try simp at h); omega); have H3 : Below w.heap.size w w3 := (by repeat' (first | (with_reducible exact Below.refl _ _) | (with_reducible assumption) | (with_reducible refine bl_alloc ?_ (Nat.le_refl _) _) | (with_reducible refine bl_drew ?_) | (with_reducible refine bl_drewN ?_ _) | (with_reducible refine bl_setRow ?_ (by first | (simp; done) | (simp; omega) | omega) _) | (with_reducible refine bl_setCell ?_ (by first | (simp; done) | (simp; omega) | omega) _) | (with_reducible refine bl_trans ?_ (Nat.le_refl _) (by assumption)))); clear hb3)
    | (go_at_call 12; refine (num_calls _ _).mono ?_; rintro e w' ⟨rfl, rfl⟩))
  go_ret
  exact ⟨rfl, by repeat' (first | (with_reducible exact Below.refl _ _) | (with_reducible assumption) | (with_reducible refine bl_alloc ?_ (Nat.le_refl _) _) | (with_reducible refine bl_drew ?_) | (with_reducible refine bl_drewN ?_ _) | (with_reducible refine bl_setRow ?_ (by first | (simp; done) | (simp; omega) | omega) _) | (with_reducible refine bl_setCell ?_ (by first | (simp; done) | (simp; omega) | omega) _) | (with_reducible refine bl_trans ?_ (Nat.le_refl _) (by assumption)))⟩

end Go.Proofs.YtaelddnkdklijaaDoor.Ja
