/- The walk of cron's field: a range over strings.SplitSeq. -/
import Derived.Test.YtaelddnkdklijaaDoorPd
set_option linter.unusedVariables false
set_option linter.unusedSimpArgs false
namespace Go.Proofs.YtaelddnkdklijaaDoor.Pe
open Go Go.RowKit Go.Shelf Go.Proofs Go.Proofs.YtaelddnkdklijaaDoor.Jw Go.Proofs.YtaelddnkdklijaaDoor.Rf Go.Proofs.YtaelddnkdklijaaDoor.Pa Go.Proofs.YtaelddnkdklijaaDoor.Pb Go.Proofs.YtaelddnkdklijaaDoor.Pc Go.Proofs.YtaelddnkdklijaaDoor.Pd

def seqW (w : World) (s : ByteArray) : World := ((w.alloc (.cells #[.string s] 9)).alloc (.cells #[.string ⟨#[44]⟩] 9)).alloc (.cells #[.int .i64 0] 3)
def seqV (g : Nat) : Value := .func (.func 154) #[] #[.pointer (some ⟨g + 1, 0, none⟩), .pointer (some ⟨g, 0, none⟩), .pointer (some ⟨g + 2, 0, none⟩)]

theorem splitSeq_calls (s : ByteArray) (w : World) : Calls Tryd.prog 129 #[.string s, .string ⟨#[44]⟩, .int .i64 0] w fun e w' => e = .returned (seqV w.heap.size) ∧ w' = seqW w s := by
  go_enter Tryd.func129, Tryd.ntmps129
  go_wp2_with fail
  go_ret
  exact ⟨rfl, rfl⟩

theorem SplitSeq_calls (s : ByteArray) (w : World) : Calls Tryd.prog 102 #[.string s, .string ⟨#[44]⟩] w fun e w' => e = .returned (seqV w.heap.size) ∧ w' = seqW w s := by
  go_enter Tryd.func102, Tryd.ntmps102
  go_wp2_with (go_at_call 129; refine (splitSeq_calls _ _).mono ?_; rintro e w' ⟨rfl, rfl⟩)
  go_ret
  exact ⟨rfl, rfl⟩

def pieces (s : ByteArray) : List ByteArray := (splitG s.size s.toList).map (fun x => (⟨x.toArray⟩ : ByteArray))

theorem split_seq (n sb : Nat) (s0 : ByteArray) (w : World) (hs0 : s0.size < 4294967281) (hb1 : Blk w sb 9 #[.string s0]) (hb2 : Blk w (sb + 1) 9 #[.string ⟨#[44]⟩]) (hb3 : Blk w (sb + 2) 3 #[.int .i64 0]) :
    SeqBox Fence.wide n Tryd.prog 154 #[.pointer (some ⟨sb + 1, 0, none⟩), .pointer (some ⟨sb, 0, none⟩), .pointer (some ⟨sb + 2, 0, none⟩)] Value.string (fun x => x.size ≤ s0.size) sb sb (fun xs => xs = pieces s0) (fun pre => pre <+: pieces s0) w :=
  fun l J Jx W hW hJ hJx hY h0 => split1_in n sb l s0 J Jx hs0 hJ hJx hY W (hb1.below hW hb1.lt) (hb2.below hW hb2.lt) (hb3.below hW hb3.lt) h0

def joinF (lo hi : Nat) : List ByteArray → Option Nat
  | [] => some 0
  | x :: t => match joinF lo hi t, itemF lo hi x.toList with
    | some a, some b => some (a ||| b)
    | _, _ => none

/-- What has come so far, the newest first. -/
def soFar (lo hi : Nat) (pre : List ByteArray) : Option Nat := joinF lo hi pre.reverse
def fieldF (lo hi : Nat) (s : ByteArray) : Option Nat := soFar lo hi (pieces s)

theorem soFar_snoc (lo hi : Nat) (pre : List ByteArray) (x : ByteArray) : soFar lo hi (pre ++ [x]) = match soFar lo hi pre, itemF lo hi x.toList with
    | some a, some b => some (a ||| b)
    | _, _ => none := by
  unfold soFar
  rw [List.reverse_append]
  rfl

theorem joinF_none (lo hi : Nat) (b : List ByteArray) (h : joinF lo hi b = none) : ∀ a, joinF lo hi (a ++ b) = none
  | [] => h
  | x :: t => by simp only [List.cons_append, joinF, joinF_none lo hi b h t]
theorem soFar_none (lo hi : Nat) (pre xs : List ByteArray) (h : soFar lo hi pre = none) (hp : pre <+: xs) : soFar lo hi xs = none := by
  obtain ⟨t, rfl⟩ := hp
  unfold soFar at *
  rw [List.reverse_append]
  exact joinF_none lo hi _ h _

theorem orSteps_lt : ∀ (f i hi st acc : Nat), hi < 64 → acc < 18446744073709551616 → orSteps f i hi st acc < 18446744073709551616
  | 0, _, _, _, _, _, ha => ha
  | f + 1, i, hi, st, acc, hh, ha => by
    simp only [orSteps]
    split
    · exact orSteps_lt f (i + st) hi st _ hh (Nat.or_lt_two_pow (n := 64) ha (Nat.pow_lt_pow_right (by omega) (by omega)))
    · exact ha

theorem itemF_lt (lo hi : Nat) (s : List UInt8) (v : Nat) (hl : lo ≤ hi) (hh : hi < 64) (h : itemF lo hi s = some v) : v < 18446744073709551616 := by
  unfold itemF at h
  split at h
  · rename_i hc
    have b := spread_bd lo hi (Lib.cut s [47]).1 hl hc.2
    simp only [Option.some.injEq] at h
    rw [← h]
    exact orSteps_lt _ _ _ _ _ (by omega) (by omega)
  · exact absurd h (by simp)

theorem _root_.Go.Proofs.YtaelddnkdklijaaDoor.Rf.Up.ofBelow {B : Nat} {W U : World} (h : Below W.heap.size W U) : Up B W U := ⟨h.size, fun k _ hk => h.block k hk⟩
theorem _root_.Go.Proofs.YtaelddnkdklijaaDoor.Rf.Up.setCell {B : Nat} {W U : World} (h : Up B W U) {p : Addr} (hp : p.block < B) (u : Value) : Up B W (U.setCell p u) :=
  ⟨by simpa using h.1, fun k hk hl => (Below.heap_setCell U p u k (by omega)).trans (h.2 k hk hl)⟩
attribute [local go_sem] Oper.semAt_some
set_option maxRecDepth 100000 in
theorem field_calls (lo hi : Nat) (m : Int) (s : ByteArray) (w : World) (hl : lo ≤ hi) (hh : hi < 64) (hs : s.size < 4294967281) (hm : w.cell? ⟨3, 0, none⟩ = some (.int .i64 m)) : Calls Tryd.prog 67 #[.agg #[.int .i64 lo, .int .i64 hi], .string s] w
    fun e w' => e = .returned (.tuple #[.int .u64 ((fieldF lo hi s).getD 0 : Nat), .bool (fieldF lo hi s).isSome]) ∧ Below w.heap.size w w' := by
  have hw : 3 < w.heap.size := World.block_lt_of_cell? w _ hm
  refine (callsIn_wide (n := 5)).1 ?_
  refine callsIn_of_wp_marks Tryd.func67 rfl trivial ?_
  simp only [Tryd.ntmps67, List.size_toArray, List.length_cons, List.length_nil, Nat.reduceAdd, Nat.reduceSub, Array.replicate_succ, Array.replicate_zero, List.push_toArray, List.append_toArray, List.nil_append, List.cons_append]
  have hdp : Fence.wide.depth.isSome = true → 1 ≤ 5 := fun _ => by omega
  gi_wp2_with (refine ⟨trivial, ?_⟩; gi_at_call 102; refine (callsIn_wide.2 (SplitSeq_calls _ _)).mono ?_; rintro e w' ⟨rfl, rfl⟩)
  obtain ⟨g, hg⟩ : ∃ g, w.heap.size = g := ⟨_, rfl⟩
  obtain ⟨W0, hW0⟩ : ∃ W0, seqW (((w.alloc (Obj.cells #[.int .i64 lo, .int .i64 hi] 141)).alloc (Obj.cells #[.int .u64 0] 25)).alloc (Obj.cells #[.bool false] 4)) s = W0 := ⟨_, rfl⟩
  have hB0 : Below g w W0 := by rw [← hW0, ← hg]; unfold seqW; repeat' (first | (with_reducible exact Below.refl _ _) | (with_reducible assumption) | (with_reducible refine bl_alloc ?_ (Nat.le_refl _) _) | (with_reducible refine bl_drew ?_) | (with_reducible refine bl_drewN ?_ _) | (with_reducible refine bl_setRow ?_ (by first | (simp; done) | (simp; omega) | omega) _) | (with_reducible refine bl_setCell ?_ (by first | (simp; done) | (simp; omega) | omega) _) | (with_reducible refine bl_trans ?_ (Nat.le_refl _) (by assumption)))
  have hz : W0.heap.size = g + 6 := by rw [← hW0, ← hg]; simp [seqW]
  have b1 : Blk W0 g 141 #[.int .i64 lo, .int .i64 hi] := by rw [← hW0, ← hg]; unfold seqW; repeat' (first | (with_reducible exact Blk.new _ _ _) | (with_reducible refine Blk.new' _ _ ?_; simp; done) | (with_reducible assumption) | (with_reducible refine Blk.alloc ?_ _) | (with_reducible refine Blk.drew ?_) | (with_reducible refine Blk.drewN ?_ _) | (with_reducible refine Blk.far ?_ (by first | (simp; done) | (simp; omega) | omega) _) | (with_reducible apply Blk.setTo) | (with_reducible refine Blk.rowFar ?_ (by first | (simp; done) | (simp; omega) | omega) _) | (with_reducible refine Blk.below ?_ (by assumption) (by first | (simp; done) | (simp; omega) | omega)) | rfl | (simp; done))
  have b2 : Blk W0 (g + 1) 25 #[.int .u64 0] := by rw [← hW0, ← hg]; unfold seqW; repeat' (first | (with_reducible exact Blk.new _ _ _) | (with_reducible refine Blk.new' _ _ ?_; simp; done) | (with_reducible assumption) | (with_reducible refine Blk.alloc ?_ _) | (with_reducible refine Blk.drew ?_) | (with_reducible refine Blk.drewN ?_ _) | (with_reducible refine Blk.far ?_ (by first | (simp; done) | (simp; omega) | omega) _) | (with_reducible apply Blk.setTo) | (with_reducible refine Blk.rowFar ?_ (by first | (simp; done) | (simp; omega) | omega) _) | (with_reducible refine Blk.below ?_ (by assumption) (by first | (simp; done) | (simp; omega) | omega)) | rfl | (simp; done))
  have b3 : Blk W0 (g + 2) 4 #[.bool false] := by rw [← hW0, ← hg]; unfold seqW; repeat' (first | (with_reducible exact Blk.new _ _ _) | (with_reducible refine Blk.new' _ _ ?_; simp; done) | (with_reducible assumption) | (with_reducible refine Blk.alloc ?_ _) | (with_reducible refine Blk.drew ?_) | (with_reducible refine Blk.drewN ?_ _) | (with_reducible refine Blk.far ?_ (by first | (simp; done) | (simp; omega) | omega) _) | (with_reducible apply Blk.setTo) | (with_reducible refine Blk.rowFar ?_ (by first | (simp; done) | (simp; omega) | omega) _) | (with_reducible refine Blk.below ?_ (by assumption) (by first | (simp; done) | (simp; omega) | omega)) | rfl | (simp; done))
  have b4 : Blk W0 (g + 3) 9 #[.string s] := by rw [← hW0, ← hg]; unfold seqW; repeat' (first | (with_reducible exact Blk.new _ _ _) | (with_reducible refine Blk.new' _ _ ?_; simp; done) | (with_reducible assumption) | (with_reducible refine Blk.alloc ?_ _) | (with_reducible refine Blk.drew ?_) | (with_reducible refine Blk.drewN ?_ _) | (with_reducible refine Blk.far ?_ (by first | (simp; done) | (simp; omega) | omega) _) | (with_reducible apply Blk.setTo) | (with_reducible refine Blk.rowFar ?_ (by first | (simp; done) | (simp; omega) | omega) _) | (with_reducible refine Blk.below ?_ (by assumption) (by first | (simp; done) | (simp; omega) | omega)) | rfl | (simp; done))
  have b5 : Blk W0 (g + 3 + 1) 9 #[.string ⟨#[44]⟩] := by rw [← hW0, ← hg]; unfold seqW; repeat' (first | (with_reducible exact Blk.new _ _ _) | (with_reducible refine Blk.new' _ _ ?_; simp; done) | (with_reducible assumption) | (with_reducible refine Blk.alloc ?_ _) | (with_reducible refine Blk.drew ?_) | (with_reducible refine Blk.drewN ?_ _) | (with_reducible refine Blk.far ?_ (by first | (simp; done) | (simp; omega) | omega) _) | (with_reducible apply Blk.setTo) | (with_reducible refine Blk.rowFar ?_ (by first | (simp; done) | (simp; omega) | omega) _) | (with_reducible refine Blk.below ?_ (by assumption) (by first | (simp; done) | (simp; omega) | omega)) | rfl | (simp; done))
  have b6 : Blk W0 (g + 3 + 2) 3 #[.int .i64 0] := by rw [← hW0, ← hg]; unfold seqW; repeat' (first | (with_reducible exact Blk.new _ _ _) | (with_reducible refine Blk.new' _ _ ?_; simp; done) | (with_reducible assumption) | (with_reducible refine Blk.alloc ?_ _) | (with_reducible refine Blk.drew ?_) | (with_reducible refine Blk.drewN ?_ _) | (with_reducible refine Blk.far ?_ (by first | (simp; done) | (simp; omega) | omega) _) | (with_reducible apply Blk.setTo) | (with_reducible refine Blk.rowFar ?_ (by first | (simp; done) | (simp; omega) | omega) _) | (with_reducible refine Blk.below ?_ (by assumption) (by first | (simp; done) | (simp; omega) | omega)) | rfl | (simp; done))
  rw [hW0, hg]
  refine wpIn_rangeFunc_box (α := ByteArray) rfl (by omega) (gf := 154) (lb := #[.pointer (some ⟨g + 3 + 1, 0, none⟩), .pointer (some ⟨g + 3, 0, none⟩), .pointer (some ⟨g + 3 + 2, 0, none⟩)]) rfl trivial (enters_of Tryd.func154 (by kernel_rfl) rfl) (B := g + 3) (sb := g + 3) (Nat.le_refl _) (by omega)
    (split_seq 4 (g + 3) s W0 hs b4 b5 b6) (Below.refl _ _) rfl
    (fun pre W => ∃ acc, Aside (soFar lo hi pre = some acc) ∧ acc < 18446744073709551616 ∧ Blk W g 141 #[.int .i64 lo, .int .i64 hi] ∧ Blk W (g + 1) 25 #[.int .u64 acc] ∧ Blk W (g + 2) 4 #[.bool false] ∧ Below g w W)
    (fun c pre W => c = .ret ∧ Aside (soFar lo hi pre = none) ∧ Blk W (g + 1) 25 #[.int .u64 0] ∧ Blk W (g + 2) 4 #[.bool false] ∧ Below g w W)
    ?hI ?hIx ⟨0, rfl, by omega, b1, b2, b3, hB0⟩
    (fun x => { tmps := #[.agg #[.int .i64 lo, .int .i64 hi], .string s, .pointer (some ⟨g, 0, none⟩), undef, .pointer (some ⟨g + 1, 0, none⟩), .pointer (some ⟨g + 1 + 1, 0, none⟩), .string x, undef, undef, .string s, seqV (g + 1 + 1 + 1), .string x, undef, undef, undef, undef, undef, undef, undef, undef, undef, undef, undef, undef], defers := [] }) ?assign ?body ?done ?stop
  case hI =>
    rintro pre W W' ⟨acc, h1, h2, h3, h4, h5, h6⟩ hb
    exact ⟨acc, h1, h2, h3.below hb (by omega), h4.below hb (by omega), h5.below hb (by omega), h6.trans (hb.mono (by omega))⟩
  case hIx =>
    rintro c pre W W' ⟨h1, h2, h4, h5, h6⟩ hb
    exact ⟨h1, h2, h4.below hb (by omega), h5.below hb (by omega), h6.trans (hb.mono (by omega))⟩
  case assign =>
    intro l x W K hK
    gi_wp2
    exact hK
  case body =>
    rintro l pre x W hx ⟨acc, h1, h2, h3, h4, h5, h6⟩ hz2
    have hdr : (Fence.wide.inRound l).depth.isSome = true → 1 ≤ 5 - 1 - 1 := fun _ => by omega
    have hI := item_calls lo hi m x W hl hh (by omega) ((h6.cell (p := ⟨3, 0, none⟩) (by show 3 < g; omega)).trans hm)
    have hs2 := soFar_snoc lo hi pre x
    rw [h1.out] at hs2
    have c1 := h3.cell
    have gW : g + 3 ≤ W.heap.size := by omega
    have hIx := fun v => itemF_lt lo hi x.toList v hl hh
    generalize itemF lo hi x.toList = r at *
    have HI := Lib.hid hI
    clear hI hW0 hB0 b1 b2 b3 b4 b5 b6
    rcases r with _ | v
    · have HS : Aside (soFar lo hi (pre ++ [x]) = none) := hs2
      clear hs2
      gi_wp2_with (refine ⟨trivial, ?_⟩; refine (CallsIn.inRound l (callsIn_wide.2 HI.out)).mono ?_; rintro e w3 ⟨rfl, hb3⟩; have d1 := h3.below hb3 (by omega); have d2 := h4.below hb3 (by omega); have d3 := h5.below hb3 (by omega); have e1 := d2.cell; have e2 := d3.cell; have f1 := d2.frozen; have f2 := d3.frozen)
      exact ⟨((Up.ofBelow hb3).setCell (by show g + 1 < g + 3; omega) _).setCell (by show g + 2 < g + 3; omega) _, rfl, HS, (d2.setTo rfl).far (by simp) _, (d3.far (by simp) _).setTo rfl,
        ((h6.trans (hb3.mono (by omega))).setCell (p := ⟨g + 1, 0, none⟩) (by show g ≤ g + 1; omega) _).setCell (p := ⟨g + 2, 0, none⟩) (by show g ≤ g + 2; omega) _⟩
    · have HS : Aside (soFar lo hi (pre ++ [x]) = some (acc ||| v)) := hs2
      have hv := hIx v rfl
      have ho := bits_or_u64_nat acc v h2 hv
      clear hs2
      gi_wp2_with (refine ⟨trivial, ?_⟩; refine (CallsIn.inRound l (callsIn_wide.2 HI.out)).mono ?_; rintro e w3 ⟨rfl, hb3⟩; have d1 := h3.below hb3 (by omega); have d2 := h4.below hb3 (by omega); have d3 := h5.below hb3 (by omega); have e1 := d2.cell; have e2 := d3.cell; have f1 := d2.frozen; have f2 := d3.frozen)
      exact ⟨(Up.ofBelow hb3).setCell (by show g + 1 < g + 3; omega) _, acc ||| v, HS, Nat.or_lt_two_pow (n := 64) h2 hv, d1.far (by simp) _, d2.setTo rfl, d3.far (by simp) _, (h6.trans (hb3.mono (by omega))).setCell (p := ⟨g + 1, 0, none⟩) (by show g ≤ g + 1; omega) _⟩
  case done =>
    rintro D xs W hD rfl ⟨acc, h1, h2, h3, h4, h5, h6⟩ hK
    have e1 := h4.cell
    have e2 := h5.cell
    have f1 := h4.frozen
    have f2 := h5.frozen
    have H1 := Lib.hid h1.out
    clear hW0 hB0 b1 b2 b3 b4 b5 b6 h1
    gi_wp2
    obtain ⟨W2, hW2⟩ : ∃ W2, (W.setCell ⟨g + 1, 0, none⟩ (.int .u64 acc)).setCell ⟨g + 1 + 1, 0, none⟩ (.bool true) = W2 := ⟨_, rfl⟩
    have k1 : Blk W2 (g + 1) 25 #[.int .u64 acc] := by rw [← hW2]; exact (h4.setTo rfl).far (by simp) _
    have k2 : Blk W2 (g + 2) 4 #[.bool true] := by rw [← hW2]; exact (h5.far (by simp) _).setTo rfl
    have kD : W2.heap[D]? = some (.deferred (some [])) := by
      rw [← hW2]
      exact (Below.heap_setCell _ _ _ D (by simp; omega)).trans ((Below.heap_setCell _ _ _ D (by simp; omega)).trans hK)
    have kB : Below g w W2 := by rw [← hW2]; exact (h6.setCell (p := ⟨g + 1, 0, none⟩) (by show g ≤ g + 1; omega) _).setCell (p := ⟨g + 1 + 1, 0, none⟩) (by show g ≤ g + 1 + 1; omega) _
    rw [hW2]
    refine ⟨by simp, .inl ⟨_, _, rfl, run_takeDeferred kD, ?_⟩⟩
    have k1' : Blk (W2.putObj D (.deferred none)) (g + 1) 25 #[.int .u64 acc] := (World.putObj_heap_other (by omega)).trans k1
    have k2' : Blk (W2.putObj D (.deferred none)) (g + 1 + 1) 4 #[.bool true] := (World.putObj_heap_other (by omega)).trans k2
    have x1 := k1'.cell 0
    have x2 := k2'.cell 0
    have hF : fieldF lo hi s = some acc := H1.out
    rw [hF]
    refine ⟨_, ?_, rfl, ?_⟩
    · simp [results, Tryd.results67, go_sem, x1, x2]
    · rw [hg]; exact kB.trans (below_put (by omega) _)
  case stop =>
    rintro D c pre W hD hpre ⟨rfl, h2, h4, h5, h6⟩ hK
    have HF := Lib.hid (soFar_none lo hi pre (pieces s) h2.out hpre)
    clear hW0 hB0 b1 b2 b3 b4 b5 b6 h2
    gi_wp2
    refine ⟨by simp, .inl ⟨_, _, rfl, run_takeDeferred hK, ?_⟩⟩
    have k1' : Blk (W.putObj D (.deferred none)) (g + 1) 25 #[.int .u64 0] := (World.putObj_heap_other (by omega)).trans h4
    have k2' : Blk (W.putObj D (.deferred none)) (g + 1 + 1) 4 #[.bool false] := (World.putObj_heap_other (by omega)).trans h5
    have x1 := k1'.cell 0
    have x2 := k2'.cell 0
    have hF : fieldF lo hi s = none := HF.out
    rw [hF]
    refine ⟨_, ?_, rfl, ?_⟩
    · simp [results, Tryd.results67, go_sem, x1, x2]
    · rw [hg]; exact h6.trans (below_put (by omega) _)
end Go.Proofs.YtaelddnkdklijaaDoor.Pe
