/- The walks of cron's reading: spread, item. -/
import Derived.Test.YtaelddnkdklijaaDoorPa
set_option linter.unusedSimpArgs false
set_option linter.unusedVariables false
namespace Go.Proofs.YtaelddnkdklijaaDoor.Pb
open Go.RowKit Go.Shelf Go.Proofs Go.Proofs.YtaelddnkdklijaaDoor.Jp Go.Proofs.YtaelddnkdklijaaDoor.Jw Go.Proofs.YtaelddnkdklijaaDoor.Cp Go.Proofs.YtaelddnkdklijaaDoor.Ca Go.Proofs.YtaelddnkdklijaaDoor.Pa

theorem res_row_tmp2 {P : Program} {fn : Func} {p u x : Tmp} {ty : TypeId} {tmps : Array Value} {w : World} {g : Nat} {t : TypeId} {cs : Array Value} {d : TypeDesc} (h : fn.results = #[.cell p ty, .tmp u, .tmp x])
    (hp : tmps.getD p undef = .pointer (some ⟨g, 0, none⟩)) (hg : Blk w g t cs) (hu : P.underlying ty = some d) (hd : (match d with | .struct _ | .array _ _ => true | _ => false) = true) (hi : (P.info? ty).map (·.size) = some cs.size) :
    (results fn tmps).run P w = .ok (.tuple #[.agg cs, tmps.getD u undef, tmps.getD x undef]) w := by
  have hp' : tmps[p]?.getD undef = .pointer (some ⟨g, 0, none⟩) := by simpa using hp
  have e : (results fn tmps).run P w = ((asAddr (tmps.getD p undef)).run P w).andThen fun a w₁ => ((loadVar ty a).run P w₁).andThen fun v w₂ => .ok (.tuple #[v, tmps.getD u undef, tmps.getD x undef]) w₂ := by
    simp only [results, h]
    simp [Sem.run_bind, Result.andThen]
  rw [e]
  simp [hp', asAddr, run_loadVar_row w g t ty cs (0, 0) d hg hu hd hi]

theorem ret_abb {cs : Array Value} {v : Value} {b b' : Bool} (h : b = b') : Ending.returned (.tuple #[.agg cs, v, .bool b]) = .returned (.tuple #[.agg cs, v, .bool b']) := by rw [h]
theorem scopeSize : (Tryd.prog.info? 141).map (·.size) = some 2 := by kernel_rfl

def spreadF (lo hi : Int) (s : List UInt8) : Int × Int × Bool × Bool :=
  if s = [42] then (lo, hi, true, true)
  else
    let c := Lib.cut s [45]
    let b := if c.2.2 then c.2.1 else c.1
    let x : Int := ((numF c.1).getD 0 : Nat)
    let y : Int := ((numF b).getD 0 : Nat)
    (x, y, c.2.2, (numF c.1).isSome && (numF b).isSome && decide (lo ≤ x) && decide (y ≤ hi) && decide (x ≤ y))

theorem spread_star (lo hi : Int) (s : ByteArray) (w : World) (h : (s.toList == [42]) = true) : Calls Tryd.prog 132 #[.agg #[.int .i64 lo, .int .i64 hi], .string s] w fun e w' => e = .returned (.tuple #[.agg #[.int .i64 lo, .int .i64 hi], .bool true, .bool true]) ∧ Below w.heap.size w w' := by
  go_enter Tryd.func132, Tryd.ntmps132
  go_wp2_with fail
  have b : Blk ((w.alloc (Obj.cells #[.int .i64 lo, .int .i64 hi] 141)).alloc (Obj.cells #[.int .i64 lo, .int .i64 hi] 141)) (w.heap.size + 1) 141 #[.int .i64 lo, .int .i64 hi] := by refine Blk.new' _ _ ?_; simp
  exact bodyPost_ret (res_row_tmp2 rfl rfl b Tryd.underlying141 rfl scopeSize) rfl ⟨rfl, by repeat' (first | (with_reducible exact Below.refl _ _) | (with_reducible assumption) | (with_reducible refine bl_alloc ?_ (Nat.le_refl _) _) | (with_reducible refine bl_drew ?_) | (with_reducible refine bl_drewN ?_ _) | (with_reducible refine bl_setRow ?_ (by first | (simp; done) | (simp; omega) | omega) _) | (with_reducible refine bl_setCell ?_ (by first | (simp; done) | (simp; omega) | omega) _) | (with_reducible refine bl_trans ?_ (Nat.le_refl _) (by assumption)))⟩

set_option maxRecDepth 100000 in
theorem spread_walk (lo hi : Int) (s a b : ByteArray) (x y : Int) (xs ys v : Bool) (w : World) (h : (s.toList == [42]) = false) (cv : ByteArray) (hb : (if v then cv else a) = b)
    (hC : ∀ W, Below w.heap.size w W → Calls Tryd.prog 130 #[.string s, .string ⟨#[45]⟩] W fun e w' => e = .returned (.tuple #[.string a, .string cv, .bool v]) ∧ ∃ n, w' = W.drewN n)
    (hX : ∀ W, Calls Tryd.prog 131 #[.string a] W fun e w' => e = .returned (.tuple #[.int .i64 x, .bool xs]) ∧ Below W.heap.size W w')
    (hY : ∀ W, Calls Tryd.prog 131 #[.string b] W fun e w' => e = .returned (.tuple #[.int .i64 y, .bool ys]) ∧ Below W.heap.size W w') :
    Calls Tryd.prog 132 #[.agg #[.int .i64 lo, .int .i64 hi], .string s] w fun e w' => e = .returned (.tuple #[.agg #[.int .i64 x, .int .i64 y], .bool v, .bool (xs && ys && decide (lo ≤ x) && decide (y ≤ hi) && decide (x ≤ y))]) ∧ Below w.heap.size w w' := by
  have HC := Lib.hid hC
  have HX := Lib.hid hX
  have HY := Lib.hid hY
  clear hC hX hY
  cases v
  all_goals
    simp only [if_true, if_false, Bool.false_eq_true] at hb
    subst hb
    go_enter Tryd.func132, Tryd.ntmps132
    go_wp2_with (first
      | (go_at_call 130; refine (HC.out _ (by repeat' (first | (with_reducible exact Below.refl _ _) | (with_reducible assumption) | (with_reducible refine bl_alloc ?_ (Nat.le_refl _) _) | (with_reducible refine bl_drew ?_) | (with_reducible refine bl_drewN ?_ _) | (with_reducible refine bl_setRow ?_ (by first | (simp; done) | (simp; omega) | omega) _) | (with_reducible refine bl_setCell ?_ (by first | (simp; done) | (simp; omega) | omega) _) | (with_reducible refine bl_trans ?_ (Nat.le_refl _) (by assumption))))).mono ?_; rintro e w1 ⟨rfl, n1, rfl⟩)
      | (go_at_call 131; refine (HX.out _).mono ?_; rintro e w2 ⟨rfl, hb2⟩; have z2 : w.heap.size + 2 ≤ w2.heap.size := (by have h := hb2.size; (try simp at h); omega); have H2 : Below w.heap.size w w2 := (by repeat' (first | (with_reducible exact Below.refl _ _) | (with_reducible assumption) | (with_reducible refine bl_alloc ?_ (Nat.le_refl _) _) | (with_reducible refine bl_drew ?_) | (with_reducible refine bl_drewN ?_ _) | (with_reducible refine bl_setRow ?_ (by first | (simp; done) | (simp; omega) | omega) _) | (with_reducible refine bl_setCell ?_ (by first | (simp; done) | (simp; omega) | omega) _) | (with_reducible refine bl_trans ?_ (Nat.le_refl _) (by assumption)))); clear HX; have p2 : Blk w2 (w.heap.size) 141 #[.int .i64 lo, .int .i64 hi] := (by repeat' (first | (with_reducible exact Blk.new _ _ _) | (with_reducible refine Blk.new' _ _ ?_; simp; done) | (with_reducible assumption) | (with_reducible refine Blk.alloc ?_ _) | (with_reducible refine Blk.drew ?_) | (with_reducible refine Blk.drewN ?_ _) | (with_reducible refine Blk.far ?_ (by first | (simp; done) | (simp; omega) | omega) _) | (with_reducible apply Blk.setTo) | (with_reducible refine Blk.rowFar ?_ (by first | (simp; done) | (simp; omega) | omega) _) | (with_reducible refine Blk.below ?_ hb2 (by first | (simp; done) | (simp; omega) | omega)) | rfl)); have p2q := p2.cell; have p2f := p2.frozen; have p2l := p2.lt; have r2 : Blk w2 (w.heap.size + 1) 141 #[.int .i64 0, .int .i64 0] := (by repeat' (first | (with_reducible exact Blk.new _ _ _) | (with_reducible refine Blk.new' _ _ ?_; simp; done) | (with_reducible assumption) | (with_reducible refine Blk.alloc ?_ _) | (with_reducible refine Blk.drew ?_) | (with_reducible refine Blk.drewN ?_ _) | (with_reducible refine Blk.far ?_ (by first | (simp; done) | (simp; omega) | omega) _) | (with_reducible apply Blk.setTo) | (with_reducible refine Blk.rowFar ?_ (by first | (simp; done) | (simp; omega) | omega) _) | (with_reducible refine Blk.below ?_ hb2 (by first | (simp; done) | (simp; omega) | omega)) | rfl)); have r2q := r2.cell; have r2f := r2.frozen; have r2l := r2.lt; clear hb2)
      | (go_at_call 131; refine (HY.out _).mono ?_; rintro e w3 ⟨rfl, hb3⟩; have z3 : w.heap.size + 2 ≤ w3.heap.size := (by have h := hb3.size; (try simp at h); omega); have H3 : Below w.heap.size w w3 := (by repeat' (first | (with_reducible exact Below.refl _ _) | (with_reducible assumption) | (with_reducible refine bl_alloc ?_ (Nat.le_refl _) _) | (with_reducible refine bl_drew ?_) | (with_reducible refine bl_drewN ?_ _) | (with_reducible refine bl_setRow ?_ (by first | (simp; done) | (simp; omega) | omega) _) | (with_reducible refine bl_setCell ?_ (by first | (simp; done) | (simp; omega) | omega) _) | (with_reducible refine bl_trans ?_ (Nat.le_refl _) (by assumption)))); have p3 : Blk w3 (w.heap.size) 141 #[.int .i64 lo, .int .i64 hi] := (by repeat' (first | (with_reducible exact Blk.new _ _ _) | (with_reducible refine Blk.new' _ _ ?_; simp; done) | (with_reducible assumption) | (with_reducible refine Blk.alloc ?_ _) | (with_reducible refine Blk.drew ?_) | (with_reducible refine Blk.drewN ?_ _) | (with_reducible refine Blk.far ?_ (by first | (simp; done) | (simp; omega) | omega) _) | (with_reducible apply Blk.setTo) | (with_reducible refine Blk.rowFar ?_ (by first | (simp; done) | (simp; omega) | omega) _) | (with_reducible refine Blk.below ?_ hb3 (by first | (simp; done) | (simp; omega) | omega)) | rfl)); have p3q := p3.cell; have p3f := p3.frozen; have p3l := p3.lt; have r3 : Blk w3 (w.heap.size + 1) 141 #[.int .i64 0, .int .i64 0] := (by repeat' (first | (with_reducible exact Blk.new _ _ _) | (with_reducible refine Blk.new' _ _ ?_; simp; done) | (with_reducible assumption) | (with_reducible refine Blk.alloc ?_ _) | (with_reducible refine Blk.drew ?_) | (with_reducible refine Blk.drewN ?_ _) | (with_reducible refine Blk.far ?_ (by first | (simp; done) | (simp; omega) | omega) _) | (with_reducible apply Blk.setTo) | (with_reducible refine Blk.rowFar ?_ (by first | (simp; done) | (simp; omega) | omega) _) | (with_reducible refine Blk.below ?_ hb3 (by first | (simp; done) | (simp; omega) | omega)) | rfl)); have r3q := r3.cell; have r3f := r3.frozen; have r3l := r3.lt; clear hb3))
    all_goals
      refine bodyPost_ret (res_row_tmp2 (cs := #[.int .i64 x, .int .i64 y]) rfl rfl (by repeat' (first | (with_reducible exact Blk.new _ _ _) | (with_reducible refine Blk.new' _ _ ?_; simp; done) | (with_reducible assumption) | (with_reducible refine Blk.alloc ?_ _) | (with_reducible refine Blk.drew ?_) | (with_reducible refine Blk.drewN ?_ _) | (with_reducible refine Blk.far ?_ (by first | (simp; done) | (simp; omega) | omega) _) | (with_reducible apply Blk.setTo) | (with_reducible refine Blk.rowFar ?_ (by first | (simp; done) | (simp; omega) | omega) _) | (with_reducible refine Blk.below ?_ (by assumption) (by first | (simp; done) | (simp; omega) | omega)) | rfl)) Tryd.underlying141 rfl scopeSize) rfl ⟨ret_abb ?_, by repeat' (first | (with_reducible exact Below.refl _ _) | (with_reducible assumption) | (with_reducible refine bl_alloc ?_ (Nat.le_refl _) _) | (with_reducible refine bl_drew ?_) | (with_reducible refine bl_drewN ?_ _) | (with_reducible refine bl_setRow ?_ (by first | (simp; done) | (simp; omega) | omega) _) | (with_reducible refine bl_setCell ?_ (by first | (simp; done) | (simp; omega) | omega) _) | (with_reducible refine bl_trans ?_ (Nat.le_refl _) (by assumption)))⟩
      go_light
      first
        | rfl
        | (simp [*]; done)
        | (simp [*]; omega)

theorem cut_len (s sep : List UInt8) : (Lib.cut s sep).1.length ≤ s.length ∧ (Lib.cut s sep).2.1.length ≤ s.length := by
  unfold Lib.cut
  split <;> simp <;> omega

theorem spread_calls (lo hi m : Int) (s : ByteArray) (w : World) (hs : s.size < 4294967281) (hm : w.cell? ⟨3, 0, none⟩ = some (.int .i64 m)) : Calls Tryd.prog 132 #[.agg #[.int .i64 lo, .int .i64 hi], .string s] w
    fun e w' => e = .returned (.tuple #[.agg #[.int .i64 (spreadF lo hi s.toList).1, .int .i64 (spreadF lo hi s.toList).2.1], .bool (spreadF lo hi s.toList).2.2.1, .bool (spreadF lo hi s.toList).2.2.2]) ∧ Below w.heap.size w w' := by
  unfold spreadF
  by_cases h : s.toList = [42]
  · rw [if_pos h]
    exact spread_star lo hi s w (by simp [h])
  · rw [if_neg h]
    dsimp only
    have hl : s.toList.length = s.size := by rw [ByteArray.toList_eq]; simp
    have hd : s.data.toList = s.toList := (ByteArray.toList_eq s).symm
    have hc := cut_len s.toList [45]
    have hw : 3 < w.heap.size := World.block_lt_of_cell? w _ hm
    have hC := fun W (hB : Below w.heap.size w W) => Tryd.strings_Cut s ⟨#[45]⟩ m W hs ((hB.cell (p := ⟨3, 0, none⟩) hw).trans hm)
    rw [hd] at hC
    have e45 : (⟨#[45]⟩ : ByteArray).data.toList = [45] := rfl
    rw [e45] at hC
    generalize hA : (Lib.cut s.toList [45]).1 = A at *
    generalize hB : (Lib.cut s.toList [45]).2.1 = B at *
    generalize hV : (Lib.cut s.toList [45]).2.2 = V at *
    have hX := fun W => number_calls ⟨A.toArray⟩ W (by show A.length < _; omega)
    have hz : (if V then (⟨B.toArray⟩ : ByteArray) else ⟨A.toArray⟩).size < 9223372036854775808 := by
      split
      · show B.length < _; omega
      · show A.length < _; omega
    have hY := fun W => number_calls (if V then ⟨B.toArray⟩ else ⟨A.toArray⟩) W hz
    have e1 : (⟨A.toArray⟩ : ByteArray).toList = A := by simp [ByteArray.toList_eq]
    have e2 : (if V then (⟨B.toArray⟩ : ByteArray) else ⟨A.toArray⟩).toList = (if V then B else A) := by split <;> simp [ByteArray.toList_eq]
    rw [e1] at hX
    rw [e2] at hY
    exact spread_walk lo hi s ⟨A.toArray⟩ _ _ _ _ _ V w (by simpa using h) ⟨B.toArray⟩ rfl hC hX hY
end Go.Proofs.YtaelddnkdklijaaDoor.Pb
