/- The walk of job.Encode. -/
import Derived.Test.YtaelddnkdklijaaDoorVd
import Derived.Lib.AppendStr
set_option linter.unusedVariables false
set_option linter.unusedSimpArgs false
namespace Go.Proofs.YtaelddnkdklijaaDoor.Ve
open Go Go.RowKit Go.Shelf Go.Proofs Go.Proofs.YtaelddnkdklijaaDoor.Jp Go.Proofs.YtaelddnkdklijaaDoor.Jw Go.Proofs.YtaelddnkdklijaaDoor.Ja Go.Proofs.YtaelddnkdklijaaDoor.Jk Go.Proofs.YtaelddnkdklijaaDoor.Vw Go.Proofs.YtaelddnkdklijaaDoor.Vp Go.Proofs.YtaelddnkdklijaaDoor.Va Go.Proofs.YtaelddnkdklijaaDoor.Vb Go.Proofs.YtaelddnkdklijaaDoor.Vc Go.Proofs.YtaelddnkdklijaaDoor.Vd

def ivs (l : List Nat) : List Value := l.map fun x => Value.int .u8 (x : Nat)
theorem infoB : (Tryd.prog.info? 5).map (fun i => (i.zero, i.size, i.bytes)) = some (some (.int .u8 0), 1, 1) := by kernel_rfl
theorem one_bytes (l : List Nat) : ∀ u ∈ ivs l, u.oneCell' = true := by
  intro u hu
  obtain ⟨x, _, rfl⟩ := List.mem_map.1 hu
  rfl

/-- What Encode holds: octets of its own in v, the job in the first block. -/
structure EInv (w W : World) (v : Value) (l : List Nat) (cs : Array Value) : Prop where
  own : W.ownsRow (w.heap.size + 1) 5 1 v l.length (ivs l)
  job : Blk W w.heap.size 35 cs
  bel : Below w.heap.size w W
  base : w.heap.size + 1 ≤ W.heap.size

theorem own_block_lt {W : World} {B e n : Nat} {v : Value} {xs : List Value} (h : W.ownsRow B e 1 v n xs) : ∀ g, v.ownBlock = some g → B ≤ g ∧ g < W.heap.size := by
  intro g hg
  rcases h.2 with ⟨rfl, _⟩ | ⟨g', cap, cur, rfl, hb, hh, _⟩
  · simp [Value.ownBlock] at hg
  · simp only [Value.ownBlock, Option.some.injEq] at hg
    subst hg
    exact ⟨hb, (Array.getElem?_eq_some_iff.1 hh).1⟩

theorem EInv.put {w W W' : World} {v : Value} {l : List Nat} {cs : Array Value} (h : EInv w W v l cs) (hb : Below W.heap.size W W') : EInv w W' v l cs :=
  ⟨h.own.kept (gb_below (World.grownBy.refl W none) hb) (by cases hv : v.ownBlock <;> simp), h.job.below hb h.job.lt, bl_trans h.bel (Nat.le_refl _) ⟨hb.os, hb.tape, hb.output, hb.size, hb.block⟩, Nat.le_trans h.base hb.size⟩

theorem EInv.app {w W W' : World} {v v' : Value} {l l2 : List Nat} {m : Nat} {cs : Array Value} (h : EInv w W v l cs) (ho : W'.ownsRow (w.heap.size + 1) 5 1 v' (l.length + m) (ivs l ++ ivs l2)) (hm : m = l2.length) (hg : W.grownBy W' v.ownBlock) : EInv w W' v' (l ++ l2) cs := by
  subst hm
  have hne : some w.heap.size ≠ v.ownBlock := fun e => by
    have := own_block_lt h.own w.heap.size e.symm
    omega
  refine ⟨by rw [List.length_append]; unfold ivs at *; rw [List.map_append]; exact ho, blk_gb h.job hg hne, h.bel.grown hg h.bel.size (fun k hk => ?_), Nat.le_trans h.base hg.size⟩
  have := own_block_lt h.own k hk
  omega

theorem put_own {W : World} {B n : Nat} {v : Value} (h : W.ownsRow B 5 1 v (sizeV n) (ivs (putV n))) : ∃ g c, v = .slice (some ⟨g, 0, none⟩) (sizeV n) c ∧ W.ownsRow B 5 1 (.slice (some ⟨g, 0, none⟩) (sizeV n) c) (sizeV n) (ivs (putV n)) := by
  obtain ⟨g, c, rfl, _⟩ := h.form (by have := size_19 n; omega)
  exact ⟨g, c, rfl, h⟩

theorem put_len (n : Nat) (h : n < 18446744073709551616) : (putV n).length = sizeV n ∧ (putV n).length ≤ 9 := by
  obtain ⟨_, h1, _, h2⟩ := put_get n [] h
  exact ⟨h1, by omega⟩

theorem EInv.appn {w W W' : World} {v v' : Value} {l l2 : List Nat} {m : Nat} {cs : Array Value} (h : EInv w W v l cs) (ho : W'.ownsRow (w.heap.size + 1) 5 1 v' (l.length + m) (ivs l ++ ivs l2)) (hm : m = l2.length) (hg : W.grownBy W' v.ownBlock) (N : Nat) (hN : l.length ≤ N) (h9 : l2.length ≤ 9) :
    ∃ L, Hid (L = l ++ l2) ∧ L.length ≤ N + 9 ∧ EInv w W' v' L cs :=
  ⟨_, Lib.hid rfl, by simp; omega, h.app ho hm hg⟩

theorem EInv.apps {w W W' : World} {v v' : Value} {l : List Nat} {cs : Array Value} (s : ByteArray) (h : EInv w W v l cs) (ho : W'.ownsRow (w.heap.size + 1) 5 1 v' (l.length + s.size) (ivs l ++ Lib.strCells s)) (hg : W.grownBy W' v.ownBlock) (N : Nat) (hN : l.length ≤ N) :
    ∃ L, Hid (L = l ++ octs s) ∧ L.length ≤ N + s.size ∧ EInv w W' v' L cs := by
  have e : Lib.strCells s = ivs (octs s) := by
    unfold Lib.strCells ivs octs
    rw [List.map_map]
    rfl
  have hl : (octs s).length = s.size := by unfold octs; simp
  rw [e] at ho
  exact ⟨_, Lib.hid rfl, by simp [hl]; omega, h.app ho hl.symm hg⟩

theorem own_string {W : World} {B : Nat} {v : Value} {l : List Nat} (hl : ∀ x ∈ l, x < 256) (h : W.ownsRow B 5 1 v l.length (ivs l)) : (convert 107 9 v).run Tryd.prog W = .ok (.string (strOf l)) W := by
  rcases Nat.eq_zero_or_pos l.length with h0 | h0
  · obtain rfl := List.eq_nil_of_length_eq_zero h0
    rcases h.2 with ⟨rfl, _⟩ | ⟨g, cap, cur, rfl, _⟩
    · exact run_convert_bytes_nil W 107 5 Tryd.underlying107 Tryd.underlying5 0 0 9 Tryd.underlying9
    · exact rs_string (o := 0) (c := cap) (n := 0) (l := []) hl (fun i x hx => by simp at hx) (Nat.le_refl _)
  · obtain ⟨g, cap, rfl, _⟩ := h.form h0
    have hc : ∀ i x, l[i]? = some x → W.cell? ⟨g, 0 + i, none⟩ = some (.int .u8 (x : Nat)) := fun i x hx => by
      have hi : i < l.length := (List.getElem?_eq_some_iff.1 hx).1
      rw [Nat.zero_add, h.cellAt i (by omega)]
      unfold ivs
      rw [List.getElem?_map, hx]
      rfl
    have := rs_string (o := 0) (c := cap) (n := l.length) hl hc (Nat.le_refl _)
    rw [List.take_length] at this
    exact this

/-- A job's octets. -/
def encL (a1 a2 a3 a4 a5 a6 a7 : Nat) (name rule payload : ByteArray) : List Nat :=
  putV a1 ++ (putV a2 ++ (putV a3 ++ (putV a4 ++ (putV a5 ++ (putV a6 ++ (putV a7 ++ (putV name.size ++ (octs name ++ (putV rule.size ++ (octs rule ++ (putV payload.size ++ octs payload)))))))))))

theorem put_lt (n : Nat) (h : n < 18446744073709551616) : ∀ x ∈ putV n, x < 256 := by
  rcases size_19 n with k | k | k | k | k | k | k | k | k
  all_goals
    have hn := sizeV_lt n k
    simp only [Nat.reduceMul, Nat.reducePow] at hn
    simp only [putV, k, beV, maskV, Nat.reduceAdd, Nat.reduceSub, Nat.reducePow, List.mem_cons, List.not_mem_nil, or_false, forall_eq_or_imp, forall_eq]
    omega
theorem encL_lt (a1 a2 a3 a4 a5 a6 a7 : Nat) (name rule payload : ByteArray) (b1 : a1 < 18446744073709551616) (b2 : a2 < 18446744073709551616) (b3 : a3 < 18446744073709551616) (b4 : a4 < 18446744073709551616) (b5 : a5 < 18446744073709551616) (b6 : a6 < 18446744073709551616) (b7 : a7 < 18446744073709551616)
    (z1 : name.size < 18446744073709551616) (z2 : rule.size < 18446744073709551616) (z3 : payload.size < 18446744073709551616) : ∀ x ∈ encL a1 a2 a3 a4 a5 a6 a7 name rule payload, x < 256 := by
  intro x hx
  unfold encL at hx
  simp only [List.mem_append] at hx
  rcases hx with h | h | h | h | h | h | h | h | h | h | h | h | h
  · exact put_lt a1 b1 x h
  · exact put_lt a2 b2 x h
  · exact put_lt a3 b3 x h
  · exact put_lt a4 b4 x h
  · exact put_lt a5 b5 x h
  · exact put_lt a6 b6 x h
  · exact put_lt a7 b7 x h
  · exact put_lt _ z1 x h
  · exact octs_lt _ x h
  · exact put_lt _ z2 x h
  · exact octs_lt _ x h
  · exact put_lt _ z3 x h
  · exact octs_lt _ x h

set_option maxRecDepth 100000 in
set_option maxHeartbeats 4000000 in
theorem enc_walk (a1 a2 a3 a4 a5 a6 a7 : Nat) (name rule payload : ByteArray) (w : World) (b1 : (a1 : Int) ≤ 9223372036854775807) (b2 : (a2 : Int) ≤ 9223372036854775807) (b3 : (a3 : Int) ≤ 9223372036854775807) (b4 : (a4 : Int) ≤ 9223372036854775807) (b5 : (a5 : Int) ≤ 9223372036854775807) (b6 : (a6 : Int) ≤ 9223372036854775807) (b7 : (a7 : Int) ≤ 9223372036854775807) (z1 : (name.size : Int) ≤ 1000000) (z2 : (rule.size : Int) ≤ 1000000) (z3 : (payload.size : Int) ≤ 1000000)
    (hK : ∀ W, Below w.heap.size w W → Calls Tryd.prog 13 #[.agg #[.int .i64 (a1 : Nat), .string name, .string rule, .string payload, .int .i64 (a2 : Nat), .int .i64 (a3 : Nat), .int .i64 (a4 : Nat), .int .i64 (a5 : Nat), .int .i64 (a6 : Nat), .int .i64 (a7 : Nat)]] W fun e w' => e = .returned (.int .i64 0) ∧ Below W.heap.size W w') : Calls Tryd.prog 20 #[.agg #[.int .i64 (a1 : Nat), .string name, .string rule, .string payload, .int .i64 (a2 : Nat), .int .i64 (a3 : Nat), .int .i64 (a4 : Nat), .int .i64 (a5 : Nat), .int .i64 (a6 : Nat), .int .i64 (a7 : Nat)]] w fun e w' => e = .returned (.tuple #[.string (strOf (encL a1 a2 a3 a4 a5 a6 a7 name rule payload)), .int .i64 0]) ∧ Below w.heap.size w w' := by
  have HK := Lib.hid hK
  clear hK
  obtain ⟨ib, hib, hiz, his, hiby⟩ := info_parts infoB
  have i0 : ∀ W, (Instr.index 108 (.agg #[.int .i64 (a1 : Nat), .int .i64 (a2 : Nat), .int .i64 (a3 : Nat), .int .i64 (a4 : Nat), .int .i64 (a5 : Nat), .int .i64 (a6 : Nat), .int .i64 (a7 : Nat)]) (.int .i64 0)).run Tryd.prog W = .ok (.int .i64 (a1 : Nat)) W := fun _ => by kernel_rfl
  have i1 : ∀ W, (Instr.index 108 (.agg #[.int .i64 (a1 : Nat), .int .i64 (a2 : Nat), .int .i64 (a3 : Nat), .int .i64 (a4 : Nat), .int .i64 (a5 : Nat), .int .i64 (a6 : Nat), .int .i64 (a7 : Nat)]) (.int .i64 1)).run Tryd.prog W = .ok (.int .i64 (a2 : Nat)) W := fun _ => by kernel_rfl
  have i2 : ∀ W, (Instr.index 108 (.agg #[.int .i64 (a1 : Nat), .int .i64 (a2 : Nat), .int .i64 (a3 : Nat), .int .i64 (a4 : Nat), .int .i64 (a5 : Nat), .int .i64 (a6 : Nat), .int .i64 (a7 : Nat)]) (.int .i64 2)).run Tryd.prog W = .ok (.int .i64 (a3 : Nat)) W := fun _ => by kernel_rfl
  have i3 : ∀ W, (Instr.index 108 (.agg #[.int .i64 (a1 : Nat), .int .i64 (a2 : Nat), .int .i64 (a3 : Nat), .int .i64 (a4 : Nat), .int .i64 (a5 : Nat), .int .i64 (a6 : Nat), .int .i64 (a7 : Nat)]) (.int .i64 3)).run Tryd.prog W = .ok (.int .i64 (a4 : Nat)) W := fun _ => by kernel_rfl
  have i4 : ∀ W, (Instr.index 108 (.agg #[.int .i64 (a1 : Nat), .int .i64 (a2 : Nat), .int .i64 (a3 : Nat), .int .i64 (a4 : Nat), .int .i64 (a5 : Nat), .int .i64 (a6 : Nat), .int .i64 (a7 : Nat)]) (.int .i64 4)).run Tryd.prog W = .ok (.int .i64 (a5 : Nat)) W := fun _ => by kernel_rfl
  have i5 : ∀ W, (Instr.index 108 (.agg #[.int .i64 (a1 : Nat), .int .i64 (a2 : Nat), .int .i64 (a3 : Nat), .int .i64 (a4 : Nat), .int .i64 (a5 : Nat), .int .i64 (a6 : Nat), .int .i64 (a7 : Nat)]) (.int .i64 5)).run Tryd.prog W = .ok (.int .i64 (a6 : Nat)) W := fun _ => by kernel_rfl
  have i6 : ∀ W, (Instr.index 108 (.agg #[.int .i64 (a1 : Nat), .int .i64 (a2 : Nat), .int .i64 (a3 : Nat), .int .i64 (a4 : Nat), .int .i64 (a5 : Nat), .int .i64 (a6 : Nat), .int .i64 (a7 : Nat)]) (.int .i64 6)).run Tryd.prog W = .ok (.int .i64 (a7 : Nat)) W := fun _ => by kernel_rfl
  have k0 : ∀ W, (Instr.index 110 (.agg #[.string name, .string rule, .string payload]) (.int .i64 0)).run Tryd.prog W = .ok (.string name) W := fun _ => by kernel_rfl
  have k1 : ∀ W, (Instr.index 110 (.agg #[.string name, .string rule, .string payload]) (.int .i64 1)).run Tryd.prog W = .ok (.string rule) W := fun _ => by kernel_rfl
  have k2 : ∀ W, (Instr.index 110 (.agg #[.string name, .string rule, .string payload]) (.int .i64 2)).run Tryd.prog W = .ok (.string payload) W := fun _ => by kernel_rfl
  go_enter Tryd.func20, Tryd.ntmps20
  go_wp2_with (go_at_call 13; refine (HK.out _ (by repeat' (first | (with_reducible exact Below.refl _ _) | (with_reducible assumption) | (with_reducible refine bl_alloc ?_ (Nat.le_refl _) _) | (with_reducible refine bl_drew ?_) | (with_reducible refine bl_drewN ?_ _) | (with_reducible refine bl_setRow ?_ (by first | (simp; done) | (simp; omega) | omega) _) | (with_reducible refine bl_setCell ?_ (by first | (simp; done) | (simp; omega) | omega) _) | (with_reducible refine bl_trans ?_ (Nat.le_refl _) (by assumption))))).mono ?_; rintro e w0 ⟨rfl, hb0⟩; have H0 : Below w.heap.size w w0 := (by repeat' (first | (with_reducible exact Below.refl _ _) | (with_reducible assumption) | (with_reducible refine bl_alloc ?_ (Nat.le_refl _) _) | (with_reducible refine bl_drew ?_) | (with_reducible refine bl_drewN ?_ _) | (with_reducible refine bl_setRow ?_ (by first | (simp; done) | (simp; omega) | omega) _) | (with_reducible refine bl_setCell ?_ (by first | (simp; done) | (simp; omega) | omega) _) | (with_reducible refine bl_trans ?_ (Nat.le_refl _) (by assumption)))); obtain ⟨L0, hL0, lb0, Y0⟩ : ∃ L0 : List Nat, Hid (L0 = []) ∧ L0.length ≤ 0 ∧ EInv w w0 (.slice none 0 0) L0 #[.int .i64 (a1 : Nat), .string name, .string rule, .string payload, .int .i64 (a2 : Nat), .int .i64 (a3 : Nat), .int .i64 (a4 : Nat), .int .i64 (a5 : Nat), .int .i64 (a6 : Nat), .int .i64 (a7 : Nat)] := ⟨[], Lib.hid rfl, Nat.le_refl _, ⟨rfl, .inl ⟨rfl, rfl⟩⟩, (Blk.new w _ _).below hb0 (by simp), H0, by have h := hb0.size; simp at h; omega⟩; have jq := Y0.job.cell; clear hb0 H0)
  refine wp_loop_rounds 8 ?_
  rw [rounds_succ]
  go_wp2_with (first
    | (go_at_call 46; refine (put_calls a1 _ (by omega)).mono ?_; rintro e wp ⟨vp, rfl, hO, hbp⟩; have X1 := Y0.put hbp; obtain ⟨gp, kp, rfl, hP⟩ := put_own hO; have s9 := (put_len a1 (by omega)).2; rw [(put_len a1 (by omega)).1] at s9; have jq := X1.job.cell; clear hO hbp)
    | (at_builtin; refine wpList_append_any _ rfl _ _ 107 rfl (w.heap.size + 1) 5 ib (.int .u8 0) 1 1 Tryd.underlying107 hib hiz his hiby rfl (by decide) _ _ _ rfl (X1).own _ _ _ _ _ rfl (Reads.of_own hP) (one_bytes _) (by unfold maxLen; omega) (by omega) (X1).base ?_; intro v' w' ho hg _; obtain ⟨L1, hL1, lb1, Y1⟩ := (X1).appn ho (put_len _ (by omega)).1.symm hg 0 (by first | omega | exact Nat.le_refl _) (put_len _ (by omega)).2; have jq := Y1.job.cell; clear ho hg hP))
  clear X1 Y0
  rw [rounds_succ]
  go_wp2_with (first
    | (go_at_call 46; refine (put_calls a2 _ (by omega)).mono ?_; rintro e wp ⟨vp, rfl, hO, hbp⟩; have X2 := Y1.put hbp; obtain ⟨gp, kp, rfl, hP⟩ := put_own hO; have s9 := (put_len a2 (by omega)).2; rw [(put_len a2 (by omega)).1] at s9; have jq := X2.job.cell; clear hO hbp)
    | (at_builtin; refine wpList_append_any _ rfl _ _ 107 rfl (w.heap.size + 1) 5 ib (.int .u8 0) 1 1 Tryd.underlying107 hib hiz his hiby rfl (by decide) _ _ _ rfl (X2).own _ _ _ _ _ rfl (Reads.of_own hP) (one_bytes _) (by unfold maxLen; omega) (by omega) (X2).base ?_; intro v' w' ho hg _; obtain ⟨L2, hL2, lb2, Y2⟩ := (X2).appn ho (put_len _ (by omega)).1.symm hg 9 (by first | omega | exact Nat.le_refl _) (put_len _ (by omega)).2; have jq := Y2.job.cell; clear ho hg hP))
  clear X2 Y1
  rw [rounds_succ]
  go_wp2_with (first
    | (go_at_call 46; refine (put_calls a3 _ (by omega)).mono ?_; rintro e wp ⟨vp, rfl, hO, hbp⟩; have X3 := Y2.put hbp; obtain ⟨gp, kp, rfl, hP⟩ := put_own hO; have s9 := (put_len a3 (by omega)).2; rw [(put_len a3 (by omega)).1] at s9; have jq := X3.job.cell; clear hO hbp)
    | (at_builtin; refine wpList_append_any _ rfl _ _ 107 rfl (w.heap.size + 1) 5 ib (.int .u8 0) 1 1 Tryd.underlying107 hib hiz his hiby rfl (by decide) _ _ _ rfl (X3).own _ _ _ _ _ rfl (Reads.of_own hP) (one_bytes _) (by unfold maxLen; omega) (by omega) (X3).base ?_; intro v' w' ho hg _; obtain ⟨L3, hL3, lb3, Y3⟩ := (X3).appn ho (put_len _ (by omega)).1.symm hg 18 (by first | omega | exact Nat.le_refl _) (put_len _ (by omega)).2; have jq := Y3.job.cell; clear ho hg hP))
  clear X3 Y2
  rw [rounds_succ]
  go_wp2_with (first
    | (go_at_call 46; refine (put_calls a4 _ (by omega)).mono ?_; rintro e wp ⟨vp, rfl, hO, hbp⟩; have X4 := Y3.put hbp; obtain ⟨gp, kp, rfl, hP⟩ := put_own hO; have s9 := (put_len a4 (by omega)).2; rw [(put_len a4 (by omega)).1] at s9; have jq := X4.job.cell; clear hO hbp)
    | (at_builtin; refine wpList_append_any _ rfl _ _ 107 rfl (w.heap.size + 1) 5 ib (.int .u8 0) 1 1 Tryd.underlying107 hib hiz his hiby rfl (by decide) _ _ _ rfl (X4).own _ _ _ _ _ rfl (Reads.of_own hP) (one_bytes _) (by unfold maxLen; omega) (by omega) (X4).base ?_; intro v' w' ho hg _; obtain ⟨L4, hL4, lb4, Y4⟩ := (X4).appn ho (put_len _ (by omega)).1.symm hg 27 (by first | omega | exact Nat.le_refl _) (put_len _ (by omega)).2; have jq := Y4.job.cell; clear ho hg hP))
  clear X4 Y3
  rw [rounds_succ]
  go_wp2_with (first
    | (go_at_call 46; refine (put_calls a5 _ (by omega)).mono ?_; rintro e wp ⟨vp, rfl, hO, hbp⟩; have X5 := Y4.put hbp; obtain ⟨gp, kp, rfl, hP⟩ := put_own hO; have s9 := (put_len a5 (by omega)).2; rw [(put_len a5 (by omega)).1] at s9; have jq := X5.job.cell; clear hO hbp)
    | (at_builtin; refine wpList_append_any _ rfl _ _ 107 rfl (w.heap.size + 1) 5 ib (.int .u8 0) 1 1 Tryd.underlying107 hib hiz his hiby rfl (by decide) _ _ _ rfl (X5).own _ _ _ _ _ rfl (Reads.of_own hP) (one_bytes _) (by unfold maxLen; omega) (by omega) (X5).base ?_; intro v' w' ho hg _; obtain ⟨L5, hL5, lb5, Y5⟩ := (X5).appn ho (put_len _ (by omega)).1.symm hg 36 (by first | omega | exact Nat.le_refl _) (put_len _ (by omega)).2; have jq := Y5.job.cell; clear ho hg hP))
  clear X5 Y4
  rw [rounds_succ]
  go_wp2_with (first
    | (go_at_call 46; refine (put_calls a6 _ (by omega)).mono ?_; rintro e wp ⟨vp, rfl, hO, hbp⟩; have X6 := Y5.put hbp; obtain ⟨gp, kp, rfl, hP⟩ := put_own hO; have s9 := (put_len a6 (by omega)).2; rw [(put_len a6 (by omega)).1] at s9; have jq := X6.job.cell; clear hO hbp)
    | (at_builtin; refine wpList_append_any _ rfl _ _ 107 rfl (w.heap.size + 1) 5 ib (.int .u8 0) 1 1 Tryd.underlying107 hib hiz his hiby rfl (by decide) _ _ _ rfl (X6).own _ _ _ _ _ rfl (Reads.of_own hP) (one_bytes _) (by unfold maxLen; omega) (by omega) (X6).base ?_; intro v' w' ho hg _; obtain ⟨L6, hL6, lb6, Y6⟩ := (X6).appn ho (put_len _ (by omega)).1.symm hg 45 (by first | omega | exact Nat.le_refl _) (put_len _ (by omega)).2; have jq := Y6.job.cell; clear ho hg hP))
  clear X6 Y5
  rw [rounds_succ]
  go_wp2_with (first
    | (go_at_call 46; refine (put_calls a7 _ (by omega)).mono ?_; rintro e wp ⟨vp, rfl, hO, hbp⟩; have X7 := Y6.put hbp; obtain ⟨gp, kp, rfl, hP⟩ := put_own hO; have s9 := (put_len a7 (by omega)).2; rw [(put_len a7 (by omega)).1] at s9; have jq := X7.job.cell; clear hO hbp)
    | (at_builtin; refine wpList_append_any _ rfl _ _ 107 rfl (w.heap.size + 1) 5 ib (.int .u8 0) 1 1 Tryd.underlying107 hib hiz his hiby rfl (by decide) _ _ _ rfl (X7).own _ _ _ _ _ rfl (Reads.of_own hP) (one_bytes _) (by unfold maxLen; omega) (by omega) (X7).base ?_; intro v' w' ho hg _; obtain ⟨L7, hL7, lb7, Y7⟩ := (X7).appn ho (put_len _ (by omega)).1.symm hg 54 (by first | omega | exact Nat.le_refl _) (put_len _ (by omega)).2; have jq := Y7.job.cell; clear ho hg hP))
  clear X7 Y6
  rw [rounds_succ]
  go_wp2_with fail
  clear i0 i1 i2 i3 i4 i5 i6 jq
  refine wp_loop_rounds 4 ?_
  rw [rounds_succ]
  go_wp2_with (first
    | (go_at_call 46; refine (put_calls name.size _ (by omega)).mono ?_; rintro e wp ⟨vp, rfl, hO, hbp⟩; have X8 := Y7.put hbp; obtain ⟨gp, kp, rfl, hP⟩ := put_own hO; have s9 := (put_len name.size (by omega)).2; rw [(put_len name.size (by omega)).1] at s9; clear hO hbp)
    | (at_builtin; refine wpList_append_any _ rfl _ _ 107 rfl (w.heap.size + 1) 5 ib (.int .u8 0) 1 1 Tryd.underlying107 hib hiz his hiby rfl (by decide) _ _ _ rfl (X8).own _ _ _ _ _ rfl (Reads.of_own hP) (one_bytes _) (by unfold maxLen; omega) (by omega) (X8).base ?_; intro v' w' ho hg _; obtain ⟨L8, hL8, lb8, Y8⟩ := (X8).appn ho (put_len _ (by omega)).1.symm hg 63 (by first | omega | exact Nat.le_refl _) (put_len _ (by omega)).2; have jq := Y8.job.cell; clear ho hg hP)
    | (at_builtin; refine Lib.wpList_append_own_string _ rfl _ _ 107 9 rfl (w.heap.size + 1) 5 ib Tryd.underlying107 Tryd.underlying9 hib hiz his hiby _ _ _ rfl (Y8).own name rfl (by unfold maxLen; omega) (by omega) (Y8).base ?_; intro v' w' ho hg _; obtain ⟨L9, hL9, lb9, Y9⟩ := (Y8).apps name ho hg (63 + 9) (by omega); clear ho hg))
  clear X8 Y7 Y8
  rw [rounds_succ]
  go_wp2_with (first
    | (go_at_call 46; refine (put_calls rule.size _ (by omega)).mono ?_; rintro e wp ⟨vp, rfl, hO, hbp⟩; have X10 := Y9.put hbp; obtain ⟨gp, kp, rfl, hP⟩ := put_own hO; have s9 := (put_len rule.size (by omega)).2; rw [(put_len rule.size (by omega)).1] at s9; clear hO hbp)
    | (at_builtin; refine wpList_append_any _ rfl _ _ 107 rfl (w.heap.size + 1) 5 ib (.int .u8 0) 1 1 Tryd.underlying107 hib hiz his hiby rfl (by decide) _ _ _ rfl (X10).own _ _ _ _ _ rfl (Reads.of_own hP) (one_bytes _) (by unfold maxLen; omega) (by omega) (X10).base ?_; intro v' w' ho hg _; obtain ⟨L10, hL10, lb10, Y10⟩ := (X10).appn ho (put_len _ (by omega)).1.symm hg (72 + name.size) (by first | omega | exact Nat.le_refl _) (put_len _ (by omega)).2; have jq := Y10.job.cell; clear ho hg hP)
    | (at_builtin; refine Lib.wpList_append_own_string _ rfl _ _ 107 9 rfl (w.heap.size + 1) 5 ib Tryd.underlying107 Tryd.underlying9 hib hiz his hiby _ _ _ rfl (Y10).own rule rfl (by unfold maxLen; omega) (by omega) (Y10).base ?_; intro v' w' ho hg _; obtain ⟨L11, hL11, lb11, Y11⟩ := (Y10).apps rule ho hg ((72 + name.size) + 9) (by omega); clear ho hg))
  clear X10 Y9 Y10
  rw [rounds_succ]
  go_wp2_with (first
    | (go_at_call 46; refine (put_calls payload.size _ (by omega)).mono ?_; rintro e wp ⟨vp, rfl, hO, hbp⟩; have X12 := Y11.put hbp; obtain ⟨gp, kp, rfl, hP⟩ := put_own hO; have s9 := (put_len payload.size (by omega)).2; rw [(put_len payload.size (by omega)).1] at s9; clear hO hbp)
    | (at_builtin; refine wpList_append_any _ rfl _ _ 107 rfl (w.heap.size + 1) 5 ib (.int .u8 0) 1 1 Tryd.underlying107 hib hiz his hiby rfl (by decide) _ _ _ rfl (X12).own _ _ _ _ _ rfl (Reads.of_own hP) (one_bytes _) (by unfold maxLen; omega) (by omega) (X12).base ?_; intro v' w' ho hg _; obtain ⟨L12, hL12, lb12, Y12⟩ := (X12).appn ho (put_len _ (by omega)).1.symm hg (81 + name.size + rule.size) (by first | omega | exact Nat.le_refl _) (put_len _ (by omega)).2; have jq := Y12.job.cell; clear ho hg hP)
    | (at_builtin; refine Lib.wpList_append_own_string _ rfl _ _ 107 9 rfl (w.heap.size + 1) 5 ib Tryd.underlying107 Tryd.underlying9 hib hiz his hiby _ _ _ rfl (Y12).own payload rfl (by unfold maxLen; omega) (by omega) (Y12).base ?_; intro v' w' ho hg _; obtain ⟨L13, hL13, lb13, Y13⟩ := (Y12).apps payload ho hg ((81 + name.size + rule.size) + 9) (by omega); clear ho hg))
  clear X12 Y11 Y12
  rw [rounds_succ]
  have hall : L13 = encL a1 a2 a3 a4 a5 a6 a7 name rule payload := by
    rw [hL13.out, hL12.out, hL11.out, hL10.out, hL9.out, hL8.out, hL7.out, hL6.out, hL5.out, hL4.out, hL3.out, hL2.out, hL1.out, hL0.out]
    simp [encL, List.append_assoc]
  have hm : ∀ x ∈ L13, x < 256 := by
    rw [hall]
    exact encL_lt a1 a2 a3 a4 a5 a6 a7 name rule payload (by omega) (by omega) (by omega) (by omega) (by omega) (by omega) (by omega) (by omega) (by omega) (by omega)
  have HALL := Lib.hid hall
  clear hall hL13 hL12 hL11 hL10 hL9 hL8 hL7 hL6 hL5 hL4 hL3 hL2 hL1 hL0
  have hcv := own_string hm Y13.own
  go_wp2_with fail
  go_ret2
  refine ⟨?_, Y13.bel⟩
  rw [HALL.out]
  rfl

/-- Encode, for every job. -/
theorem enc_bad (id : Int) (name rule payload : ByteArray) (status due tries worker token till : Int) (m : Int) (w : World) (hs : rule.size < 9223372036854775808) (he : Env m w) (hj : jobOk peF ⟨id, name, rule, payload, status, due, tries, worker, token, till⟩ = false) :
    Calls Tryd.prog 20 #[.agg #[.int .i64 id, .string name, .string rule, .string payload, .int .i64 status, .int .i64 due, .int .i64 tries, .int .i64 worker, .int .i64 token, .int .i64 till]] w fun e w' => e = .returned (.tuple #[.string ⟨#[]⟩, .int .i64 9]) ∧ Below w.heap.size w w' := by
  have hC := fun W (hW : Below w.heap.size w W) => check_t m id name rule payload status due tries worker token till W hs (he.below hW)
  rw [hj] at hC
  have e9 : eno false 9 = 9 := rfl
  rw [e9] at hC
  have HC := Lib.hid hC
  clear hC e9 hj
  go_enter Tryd.func20, Tryd.ntmps20
  go_wp2_with (go_at_call 13; refine (HC.out _ (by repeat' (first | (with_reducible exact Below.refl _ _) | (with_reducible assumption) | (with_reducible refine bl_alloc ?_ (Nat.le_refl _) _) | (with_reducible refine bl_drew ?_) | (with_reducible refine bl_drewN ?_ _) | (with_reducible refine bl_setRow ?_ (by first | (simp; done) | (simp; omega) | omega) _) | (with_reducible refine bl_setCell ?_ (by first | (simp; done) | (simp; omega) | omega) _) | (with_reducible refine bl_trans ?_ (Nat.le_refl _) (by assumption))))).mono ?_; rintro e w2 ⟨rfl, hb2⟩; have z2 : w.heap.size + 1 ≤ w2.heap.size := (by have h := hb2.size; (try simp at h); omega); have H2 : Below w.heap.size w w2 := (by repeat' (first | (with_reducible exact Below.refl _ _) | (with_reducible assumption) | (with_reducible refine bl_alloc ?_ (Nat.le_refl _) _) | (with_reducible refine bl_drew ?_) | (with_reducible refine bl_drewN ?_ _) | (with_reducible refine bl_setRow ?_ (by first | (simp; done) | (simp; omega) | omega) _) | (with_reducible refine bl_setCell ?_ (by first | (simp; done) | (simp; omega) | omega) _) | (with_reducible refine bl_trans ?_ (Nat.le_refl _) (by assumption)))); clear hb2)
  go_ret2
  exact ⟨rfl, by repeat' (first | (with_reducible exact Below.refl _ _) | (with_reducible assumption) | (with_reducible refine bl_alloc ?_ (Nat.le_refl _) _) | (with_reducible refine bl_drew ?_) | (with_reducible refine bl_drewN ?_ _) | (with_reducible refine bl_setRow ?_ (by first | (simp; done) | (simp; omega) | omega) _) | (with_reducible refine bl_setCell ?_ (by first | (simp; done) | (simp; omega) | omega) _) | (with_reducible refine bl_trans ?_ (Nat.le_refl _) (by assumption)))⟩
end Go.Proofs.YtaelddnkdklijaaDoor.Ve
