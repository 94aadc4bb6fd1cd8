/- The walk of job.Decode. -/
import Derived.Test.YtaelddnkdklijaaDoorVc
import Derived.Test.YtaelddnkdklijaaDoorJk
set_option linter.unusedVariables false
set_option linter.unusedSimpArgs false
namespace Go.Proofs.YtaelddnkdklijaaDoor.Vd
open Go Go.RowKit Go.Shelf Go.Proofs Go.Proofs.YtaelddnkdklijaaDoor.Jp Go.Proofs.YtaelddnkdklijaaDoor.Jw Go.Proofs.YtaelddnkdklijaaDoor.Ja Go.Proofs.YtaelddnkdklijaaDoor.Jk Go.Proofs.YtaelddnkdklijaaDoor.Vw Go.Proofs.YtaelddnkdklijaaDoor.Vp Go.Proofs.YtaelddnkdklijaaDoor.Va Go.Proofs.YtaelddnkdklijaaDoor.Vb Go.Proofs.YtaelddnkdklijaaDoor.Vc

theorem octs_conv (s : ByteArray) (w : World) (hs : s.size ≤ 9223372036854775807) : ∃ v W, (convert 9 107 (.string s)).run Tryd.prog w = .ok v W ∧ Below w.heap.size w W ∧ w.heap.size < W.heap.size ∧ RS W w.heap.size v (octs s) := by
  have hlen : (octs s).length = s.size := by unfold octs; simp
  refine ⟨_, _, Lib.run_convert_string_bytes w 9 107 5 s Tryd.underlying9 Tryd.underlying107 Tryd.underlying5, ?_, ?_, ?_⟩
  · exact ⟨rfl, rfl, rfl, by rw [Lib.bytesWorld_size]; omega, fun i hi => Lib.bytesWorld_at_old w _ s i hi⟩
  · rw [Lib.bytesWorld_size]; omega
  · refine ⟨0, _, by rw [hlen], by rw [hlen]; exact grownCap_ge _ _ _ _, grownCap_le_maxLen _ _ _ _ (by unfold maxLen; omega), fun i x hx => ?_⟩
    unfold octs at hx
    rw [List.getElem?_map] at hx
    have hi : i < s.size := by
      rcases Nat.lt_or_ge i s.data.toList.length with h | h
      · simpa using h
      · rw [List.getElem?_eq_none h] at hx; simp at hx
    have := Lib.bytesWorld_cell w 5 s i hi
    rw [Nat.zero_add, this]
    rw [List.getElem?_eq_getElem (by simpa using hi)] at hx
    simp only [Option.map_some, Option.some.injEq] at hx
    rw [← hx]
    simp [List.getD, hi]

structure DInv (w W : World) (q g j r : Nat) (l : List Nat) (err : Int) (cs : Array Value) : Prop where
  cur : Cur W q g l err
  jb : Blk W j 35 cs
  rb : Blk W r 35 #[.int .i64 0, .string ⟨#[]⟩, .string ⟨#[]⟩, .string ⟨#[]⟩, .int .i64 0, .int .i64 0, .int .i64 0, .int .i64 0, .int .i64 0, .int .i64 0]
  bel : Below w.heap.size w W
  jq : j ≠ q
  jg : j ≠ g
  rq : r ≠ q
  rj : r ≠ j
  lq : w.heap.size ≤ q
  lj : w.heap.size ≤ j

theorem DInv.step {w W W' : World} {q g jb rb : Nat} {l l' : List Nat} {e e' : Int} {cs : Array Value} (h : DInv w W q g jb rb l e cs) (hg : W.grownBy W' (some q)) (hc : Cur W' q g l' e') : DInv w W' q g jb rb l' e' cs :=
  ⟨hc, blk_gb h.jb hg (by simpa using h.jq), blk_gb h.rb hg (by simpa using h.rq), h.bel.grown hg h.bel.size (fun k hk => by cases hk; exact h.lq), h.jq, h.jg, h.rq, h.rj, h.lq, h.lj⟩
theorem DInv.store {w W : World} {q g jb rb : Nat} {l : List Nat} {e : Int} {cs : Array Value} (h : DInv w W q g jb rb l e cs) (i : Nat) (u : Value) : DInv w (W.setCell ⟨jb, i, none⟩ u) q g jb rb l e (cs.setIfInBounds i u) := by
  have hg : W.grownBy (W.setCell ⟨jb, i, none⟩ u) (some jb) := gb_set (World.grownBy.refl _ _) i u
  exact ⟨h.cur.gb hg (by simpa using Ne.symm h.jq) (by simpa using Ne.symm h.jg), h.jb.set i u, blk_gb h.rb hg (by simpa using h.rj), h.bel.grown hg h.bel.size (fun k hk => by cases hk; exact h.lj), h.jq, h.jg, h.rq, h.rj, h.lq, h.lj⟩

/-- What a step over a number is asked; over a text. -/
def NumC (l : List Nat) (e : Int) (n : Int) (l' : List Nat) (e' : Int) : Prop := ∀ q g W, Cur W q g l e → Calls Tryd.prog 47 #[.pointer (some ⟨q, 0, none⟩), .int .i64 1099511627776, .int .i64 4] W
  fun x w' => x = .returned (.int .i64 n) ∧ Cur w' q g l' e' ∧ W.grownBy w' (some q)
def TxtC (l : List Nat) (e : Int) (s : ByteArray) (l' : List Nat) (e' : Int) : Prop := ∀ q g W, Cur W q g l e → Calls Tryd.prog 48 #[.pointer (some ⟨q, 0, none⟩)] W
  fun x w' => x = .returned (.string s) ∧ Cur w' q g l' e' ∧ W.grownBy w' (some q)

set_option maxRecDepth 100000 in
set_option maxHeartbeats 4000000 in
theorem dec_err (s : ByteArray) (w : World) (hs : s.size ≤ 9223372036854775807) (n1 n2 n3 n4 n5 n6 n7 : Int) (s8 s9 s10 : ByteArray) (l1 l2 l3 l4 l5 l6 l7 l8 l9 l10 : List Nat) (e1 e2 e3 e4 e5 e6 e7 e8 e9 e10 : Int)
    (h1 : NumC (octs s) 0 n1 l1 e1) (h2 : NumC l1 e1 n2 l2 e2) (h3 : NumC l2 e2 n3 l3 e3) (h4 : NumC l3 e3 n4 l4 e4) (h5 : NumC l4 e4 n5 l5 e5) (h6 : NumC l5 e5 n6 l6 e6) (h7 : NumC l6 e6 n7 l7 e7)
    (h8 : TxtC l7 e7 s8 l8 e8) (h9 : TxtC l8 e8 s9 l9 e9) (h10 : TxtC l9 e9 s10 l10 e10) (he : (e10 == 0) = false) (he2 : (e10 != 0) = true) : Calls Tryd.prog 21 #[.string s] w fun e w' => e = .returned (.tuple #[.agg #[.int .i64 0, .string ⟨#[]⟩, .string ⟨#[]⟩, .string ⟨#[]⟩, .int .i64 0, .int .i64 0, .int .i64 0, .int .i64 0, .int .i64 0, .int .i64 0], .int .i64 e10]) ∧ Below w.heap.size w w' := by
  have HN1 := Lib.hid h1
  have HN2 := Lib.hid h2
  have HN3 := Lib.hid h3
  have HN4 := Lib.hid h4
  have HN5 := Lib.hid h5
  have HN6 := Lib.hid h6
  have HN7 := Lib.hid h7
  have HN8 := Lib.hid h8
  have HN9 := Lib.hid h9
  have HN10 := Lib.hid h10
  clear h1 h2 h3 h4 h5 h6 h7 h8 h9 h10
  obtain ⟨v, W1, hcv, hb1, hz1, hR1⟩ := octs_conv s (w.alloc (.cells #[.int .i64 0, .string ⟨#[]⟩, .string ⟨#[]⟩, .string ⟨#[]⟩, .int .i64 0, .int .i64 0, .int .i64 0, .int .i64 0, .int .i64 0, .int .i64 0] 35)) hs
  obtain ⟨o, c, rfl, hR2⟩ : ∃ o c, v = .slice (some ⟨(w.alloc (.cells #[.int .i64 0, .string ⟨#[]⟩, .string ⟨#[]⟩, .string ⟨#[]⟩, .int .i64 0, .int .i64 0, .int .i64 0, .int .i64 0, .int .i64 0, .int .i64 0] 35)).heap.size, o, none⟩) (octs s).length c ∧ True := by
    obtain ⟨o, c, h, _⟩ := hR1
    exact ⟨o, c, h, trivial⟩
  have HR1 := Lib.hid hR1
  have HB1 := Lib.hid hb1
  clear hR1 hb1
  have i0 : ∀ (j : Nat) W, (Instr.index 115 (.agg #[.pointer (some ⟨j, 0, none⟩), .pointer (some ⟨j, 4, none⟩), .pointer (some ⟨j, 5, none⟩), .pointer (some ⟨j, 6, none⟩), .pointer (some ⟨j, 7, none⟩), .pointer (some ⟨j, 8, none⟩), .pointer (some ⟨j, 9, none⟩)]) (.int .i64 0)).run Tryd.prog W = .ok (.pointer (some ⟨j, 0, none⟩)) W := fun _ _ => by kernel_rfl
  have i1 : ∀ (j : Nat) W, (Instr.index 115 (.agg #[.pointer (some ⟨j, 0, none⟩), .pointer (some ⟨j, 4, none⟩), .pointer (some ⟨j, 5, none⟩), .pointer (some ⟨j, 6, none⟩), .pointer (some ⟨j, 7, none⟩), .pointer (some ⟨j, 8, none⟩), .pointer (some ⟨j, 9, none⟩)]) (.int .i64 1)).run Tryd.prog W = .ok (.pointer (some ⟨j, 4, none⟩)) W := fun _ _ => by kernel_rfl
  have i2 : ∀ (j : Nat) W, (Instr.index 115 (.agg #[.pointer (some ⟨j, 0, none⟩), .pointer (some ⟨j, 4, none⟩), .pointer (some ⟨j, 5, none⟩), .pointer (some ⟨j, 6, none⟩), .pointer (some ⟨j, 7, none⟩), .pointer (some ⟨j, 8, none⟩), .pointer (some ⟨j, 9, none⟩)]) (.int .i64 2)).run Tryd.prog W = .ok (.pointer (some ⟨j, 5, none⟩)) W := fun _ _ => by kernel_rfl
  have i3 : ∀ (j : Nat) W, (Instr.index 115 (.agg #[.pointer (some ⟨j, 0, none⟩), .pointer (some ⟨j, 4, none⟩), .pointer (some ⟨j, 5, none⟩), .pointer (some ⟨j, 6, none⟩), .pointer (some ⟨j, 7, none⟩), .pointer (some ⟨j, 8, none⟩), .pointer (some ⟨j, 9, none⟩)]) (.int .i64 3)).run Tryd.prog W = .ok (.pointer (some ⟨j, 6, none⟩)) W := fun _ _ => by kernel_rfl
  have i4 : ∀ (j : Nat) W, (Instr.index 115 (.agg #[.pointer (some ⟨j, 0, none⟩), .pointer (some ⟨j, 4, none⟩), .pointer (some ⟨j, 5, none⟩), .pointer (some ⟨j, 6, none⟩), .pointer (some ⟨j, 7, none⟩), .pointer (some ⟨j, 8, none⟩), .pointer (some ⟨j, 9, none⟩)]) (.int .i64 4)).run Tryd.prog W = .ok (.pointer (some ⟨j, 7, none⟩)) W := fun _ _ => by kernel_rfl
  have i5 : ∀ (j : Nat) W, (Instr.index 115 (.agg #[.pointer (some ⟨j, 0, none⟩), .pointer (some ⟨j, 4, none⟩), .pointer (some ⟨j, 5, none⟩), .pointer (some ⟨j, 6, none⟩), .pointer (some ⟨j, 7, none⟩), .pointer (some ⟨j, 8, none⟩), .pointer (some ⟨j, 9, none⟩)]) (.int .i64 5)).run Tryd.prog W = .ok (.pointer (some ⟨j, 8, none⟩)) W := fun _ _ => by kernel_rfl
  have i6 : ∀ (j : Nat) W, (Instr.index 115 (.agg #[.pointer (some ⟨j, 0, none⟩), .pointer (some ⟨j, 4, none⟩), .pointer (some ⟨j, 5, none⟩), .pointer (some ⟨j, 6, none⟩), .pointer (some ⟨j, 7, none⟩), .pointer (some ⟨j, 8, none⟩), .pointer (some ⟨j, 9, none⟩)]) (.int .i64 6)).run Tryd.prog W = .ok (.pointer (some ⟨j, 9, none⟩)) W := fun _ _ => by kernel_rfl
  have k0 : ∀ (j : Nat) W, (Instr.index 118 (.agg #[.pointer (some ⟨j, 1, none⟩), .pointer (some ⟨j, 2, none⟩), .pointer (some ⟨j, 3, none⟩)]) (.int .i64 0)).run Tryd.prog W = .ok (.pointer (some ⟨j, 1, none⟩)) W := fun _ _ => by kernel_rfl
  have k1 : ∀ (j : Nat) W, (Instr.index 118 (.agg #[.pointer (some ⟨j, 1, none⟩), .pointer (some ⟨j, 2, none⟩), .pointer (some ⟨j, 3, none⟩)]) (.int .i64 1)).run Tryd.prog W = .ok (.pointer (some ⟨j, 2, none⟩)) W := fun _ _ => by kernel_rfl
  have k2 : ∀ (j : Nat) W, (Instr.index 118 (.agg #[.pointer (some ⟨j, 1, none⟩), .pointer (some ⟨j, 2, none⟩), .pointer (some ⟨j, 3, none⟩)]) (.int .i64 2)).run Tryd.prog W = .ok (.pointer (some ⟨j, 3, none⟩)) W := fun _ _ => by kernel_rfl
  go_enter Tryd.func21, Tryd.ntmps21
  go_wp2_with fail
  obtain ⟨q, hq⟩ : ∃ q, W1.heap.size = q := ⟨_, rfl⟩
  simp only [hq]
  have D0 : DInv w ((W1.alloc (.cells #[.slice (some ⟨w.heap.size + 1, o, none⟩) (octs s).length c, .int .i64 0] 113)).alloc (.cells #[.int .i64 0, .string ⟨#[]⟩, .string ⟨#[]⟩, .string ⟨#[]⟩, .int .i64 0, .int .i64 0, .int .i64 0, .int .i64 0, .int .i64 0, .int .i64 0] 35)) q (w.heap.size + 1) (q + 1) w.heap.size (octs s) 0 #[.int .i64 0, .string ⟨#[]⟩, .string ⟨#[]⟩, .string ⟨#[]⟩, .int .i64 0, .int .i64 0, .int .i64 0, .int .i64 0, .int .i64 0, .int .i64 0] := by
    have hb := HB1.out
    have hsz : q = W1.heap.size := hq.symm
    have hlt : w.heap.size + 1 < q := by rw [hsz]; simpa using hz1
    have z1 : Blk W1 w.heap.size 35 #[.int .i64 0, .string ⟨#[]⟩, .string ⟨#[]⟩, .string ⟨#[]⟩, .int .i64 0, .int .i64 0, .int .i64 0, .int .i64 0, .int .i64 0, .int .i64 0] := (Blk.new w _ _).below hb (by simp)
    have z2 := (z1.alloc (.cells #[.slice (some ⟨w.heap.size + 1, o, none⟩) (octs s).length c, .int .i64 0] 113)).alloc (.cells #[.int .i64 0, .string ⟨#[]⟩, .string ⟨#[]⟩, .string ⟨#[]⟩, .int .i64 0, .int .i64 0, .int .i64 0, .int .i64 0, .int .i64 0, .int .i64 0] 35)
    have z3 := (Blk.new' (w := W1) (g := q) 113 #[.slice (some ⟨w.heap.size + 1, o, none⟩) (octs s).length c, .int .i64 0] hsz).alloc (.cells #[.int .i64 0, .string ⟨#[]⟩, .string ⟨#[]⟩, .string ⟨#[]⟩, .int .i64 0, .int .i64 0, .int .i64 0, .int .i64 0, .int .i64 0, .int .i64 0] 35)
    have z4 : Blk ((W1.alloc (.cells #[.slice (some ⟨w.heap.size + 1, o, none⟩) (octs s).length c, .int .i64 0] 113)).alloc (.cells #[.int .i64 0, .string ⟨#[]⟩, .string ⟨#[]⟩, .string ⟨#[]⟩, .int .i64 0, .int .i64 0, .int .i64 0, .int .i64 0, .int .i64 0, .int .i64 0] 35)) (q + 1) 35 #[.int .i64 0, .string ⟨#[]⟩, .string ⟨#[]⟩, .string ⟨#[]⟩, .int .i64 0, .int .i64 0, .int .i64 0, .int .i64 0, .int .i64 0, .int .i64 0] := Blk.new' _ _ (by simp [hsz])
    have z5 : RS W1 (w.heap.size + 1) (.slice (some ⟨w.heap.size + 1, o, none⟩) (octs s).length c) (octs s) := by simpa using HR1.out
    have z6 := rs_gb z5 (gb_alloc (gb_alloc (World.grownBy.refl W1 none) (.cells #[.slice (some ⟨w.heap.size + 1, o, none⟩) (octs s).length c, .int .i64 0] 113)) (.cells #[.int .i64 0, .string ⟨#[]⟩, .string ⟨#[]⟩, .string ⟨#[]⟩, .int .i64 0, .int .i64 0, .int .i64 0, .int .i64 0, .int .i64 0, .int .i64 0] 35)) (by omega) (by simp)
    exact ⟨⟨_, z3, z6, by omega, by simp; omega⟩, z4, z2, ((((Below.refl _ w).alloc (Nat.le_refl _) _).trans (hb.mono (by simp))).alloc (by omega) _).alloc (by simp; omega) _, by omega, by omega, by omega, by omega, by omega, by omega⟩
  clear hq hz1 hcv HR1 HB1
  refine wp_loop_rounds 8 ?_
  rw [rounds_succ]
  go_wp2_with (go_at_call 47; refine (HN1.out q _ _ D0.cur).mono ?_; rintro e w1 ⟨rfl, hcc, hgg⟩; have E1 := D0.step hgg hcc; have jq := E1.jb.cell; have jf := E1.jb.frozen; clear hcc hgg)
  have D1 := E1.store 0 (.int .i64 n1)
  clear E1 jq jf D0
  rw [rounds_succ]
  go_wp2_with (go_at_call 47; refine (HN2.out q _ _ D1.cur).mono ?_; rintro e w2 ⟨rfl, hcc, hgg⟩; have E2 := D1.step hgg hcc; have jq := E2.jb.cell; have jf := E2.jb.frozen; clear hcc hgg)
  have D2 := E2.store 4 (.int .i64 n2)
  clear E2 jq jf D1
  rw [rounds_succ]
  go_wp2_with (go_at_call 47; refine (HN3.out q _ _ D2.cur).mono ?_; rintro e w3 ⟨rfl, hcc, hgg⟩; have E3 := D2.step hgg hcc; have jq := E3.jb.cell; have jf := E3.jb.frozen; clear hcc hgg)
  have D3 := E3.store 5 (.int .i64 n3)
  clear E3 jq jf D2
  rw [rounds_succ]
  go_wp2_with (go_at_call 47; refine (HN4.out q _ _ D3.cur).mono ?_; rintro e w4 ⟨rfl, hcc, hgg⟩; have E4 := D3.step hgg hcc; have jq := E4.jb.cell; have jf := E4.jb.frozen; clear hcc hgg)
  have D4 := E4.store 6 (.int .i64 n4)
  clear E4 jq jf D3
  rw [rounds_succ]
  go_wp2_with (go_at_call 47; refine (HN5.out q _ _ D4.cur).mono ?_; rintro e w5 ⟨rfl, hcc, hgg⟩; have E5 := D4.step hgg hcc; have jq := E5.jb.cell; have jf := E5.jb.frozen; clear hcc hgg)
  have D5 := E5.store 7 (.int .i64 n5)
  clear E5 jq jf D4
  rw [rounds_succ]
  go_wp2_with (go_at_call 47; refine (HN6.out q _ _ D5.cur).mono ?_; rintro e w6 ⟨rfl, hcc, hgg⟩; have E6 := D5.step hgg hcc; have jq := E6.jb.cell; have jf := E6.jb.frozen; clear hcc hgg)
  have D6 := E6.store 8 (.int .i64 n6)
  clear E6 jq jf D5
  rw [rounds_succ]
  go_wp2_with (go_at_call 47; refine (HN7.out q _ _ D6.cur).mono ?_; rintro e w7 ⟨rfl, hcc, hgg⟩; have E7 := D6.step hgg hcc; have jq := E7.jb.cell; have jf := E7.jb.frozen; clear hcc hgg)
  have D7 := E7.store 9 (.int .i64 n7)
  clear E7 jq jf D6
  rw [rounds_succ]
  go_wp2_with fail
  refine wp_loop_rounds 4 ?_
  rw [rounds_succ]
  go_wp2_with (go_at_call 48; refine (HN8.out q _ _ D7.cur).mono ?_; rintro e w8 ⟨rfl, hcc, hgg⟩; have E8 := D7.step hgg hcc; have jq := E8.jb.cell; have jf := E8.jb.frozen; clear hcc hgg)
  have D8 := E8.store 1 (.string s8)
  clear E8 jq jf D7
  rw [rounds_succ]
  go_wp2_with (go_at_call 48; refine (HN9.out q _ _ D8.cur).mono ?_; rintro e w9 ⟨rfl, hcc, hgg⟩; have E9 := D8.step hgg hcc; have jq := E9.jb.cell; have jf := E9.jb.frozen; clear hcc hgg)
  have D9 := E9.store 2 (.string s9)
  clear E9 jq jf D8
  rw [rounds_succ]
  go_wp2_with (go_at_call 48; refine (HN10.out q _ _ D9.cur).mono ?_; rintro e w10 ⟨rfl, hcc, hgg⟩; have E10 := D9.step hgg hcc; have jq := E10.jb.cell; have jf := E10.jb.frozen; clear hcc hgg)
  have D10 := E10.store 3 (.string s10)
  clear E10 jq jf D9
  clear i0 i1 i2 i3 i4 i5 i6 k0 k1 k2
  have D := D10
  clear D10
  obtain ⟨⟨v, cB, ⟨o2, c2, rfl, hc1, hc2, hc4⟩, hne, hlt⟩, J, R, HB, x1, x2, x3, x4, x5, x6⟩ := D
  have J' : Blk (w10.setCell ⟨q + 1, 3, none⟩ (.string s10)) (q + 1) 35 #[.int .i64 n1, .string s8, .string s9, .string s10, .int .i64 n2, .int .i64 n3, .int .i64 n4, .int .i64 n5, .int .i64 n6, .int .i64 n7] := by simpa using J
  have HC4 := Lib.hid hc4
  clear J hc4 HN1 HN2 HN3 HN4 HN5 HN6 HN7 HN8 HN9 HN10
  generalize w10.setCell ⟨q + 1, 3, none⟩ (.string s10) = w11 at *
  have Jq := J'.cell
  have cq := cB.cell
  have cf := cB.frozen
  rw [rounds_succ]
  go_wp2_with fail
  have R2 := (R)
  have B2 := (HB)
  have R2q := R2.cell
  have R2f := R2.frozen
  go_region
  all_goals
    go_wp2_with fail
    refine bodyPost_ret (res_row_tmp (g := w.heap.size) (t := 35) (cs := #[.int .i64 0, .string ⟨#[]⟩, .string ⟨#[]⟩, .string ⟨#[]⟩, .int .i64 0, .int .i64 0, .int .i64 0, .int .i64 0, .int .i64 0, .int .i64 0]) rfl rfl ?hb Tryd.underlying35 rfl jobSize) rfl ⟨rfl, ?hf⟩
    case hb => exact (((((((((((R2.set 0 _).set 1 _).set 2 _).set 3 _).set 4 _).set 5 _).set 6 _).set 7 _).set 8 _).set 9 _).drew)
    case hf => repeat' (first | (with_reducible exact Below.refl _ _) | (with_reducible assumption) | (with_reducible refine bl_alloc ?_ (Nat.le_refl _) _) | (with_reducible refine bl_drew ?_) | (with_reducible refine bl_drewN ?_ _) | (with_reducible refine bl_setRow ?_ (by first | (simp; done) | (simp; omega) | omega) _) | (with_reducible refine bl_setCell ?_ (by first | (simp; done) | (simp; omega) | omega) _) | (with_reducible refine bl_trans ?_ (Nat.le_refl _) (by assumption)))

set_option maxRecDepth 100000 in
set_option maxHeartbeats 4000000 in
theorem dec_tail (s : ByteArray) (w : World) (hs : s.size ≤ 9223372036854775807) (n1 n2 n3 n4 n5 n6 n7 : Int) (s8 s9 s10 : ByteArray) (l1 l2 l3 l4 l5 l6 l7 l8 l9 l10 : List Nat) (e1 e2 e3 e4 e5 e6 e7 e8 e9 e10 : Int)
    (h1 : NumC (octs s) 0 n1 l1 e1) (h2 : NumC l1 e1 n2 l2 e2) (h3 : NumC l2 e2 n3 l3 e3) (h4 : NumC l3 e3 n4 l4 e4) (h5 : NumC l4 e4 n5 l5 e5) (h6 : NumC l5 e5 n6 l6 e6) (h7 : NumC l6 e6 n7 l7 e7)
    (h8 : TxtC l7 e7 s8 l8 e8) (h9 : TxtC l8 e8 s9 l9 e9) (h10 : TxtC l9 e9 s10 l10 e10) (he : e10 = 0) (hl : 0 < (l10.length : Int)) : Calls Tryd.prog 21 #[.string s] w fun e w' => e = .returned (.tuple #[.agg #[.int .i64 0, .string ⟨#[]⟩, .string ⟨#[]⟩, .string ⟨#[]⟩, .int .i64 0, .int .i64 0, .int .i64 0, .int .i64 0, .int .i64 0, .int .i64 0], .int .i64 23]) ∧ Below w.heap.size w w' := by
  subst he
  have HN1 := Lib.hid h1
  have HN2 := Lib.hid h2
  have HN3 := Lib.hid h3
  have HN4 := Lib.hid h4
  have HN5 := Lib.hid h5
  have HN6 := Lib.hid h6
  have HN7 := Lib.hid h7
  have HN8 := Lib.hid h8
  have HN9 := Lib.hid h9
  have HN10 := Lib.hid h10
  clear h1 h2 h3 h4 h5 h6 h7 h8 h9 h10
  obtain ⟨v, W1, hcv, hb1, hz1, hR1⟩ := octs_conv s (w.alloc (.cells #[.int .i64 0, .string ⟨#[]⟩, .string ⟨#[]⟩, .string ⟨#[]⟩, .int .i64 0, .int .i64 0, .int .i64 0, .int .i64 0, .int .i64 0, .int .i64 0] 35)) hs
  obtain ⟨o, c, rfl, hR2⟩ : ∃ o c, v = .slice (some ⟨(w.alloc (.cells #[.int .i64 0, .string ⟨#[]⟩, .string ⟨#[]⟩, .string ⟨#[]⟩, .int .i64 0, .int .i64 0, .int .i64 0, .int .i64 0, .int .i64 0, .int .i64 0] 35)).heap.size, o, none⟩) (octs s).length c ∧ True := by
    obtain ⟨o, c, h, _⟩ := hR1
    exact ⟨o, c, h, trivial⟩
  have HR1 := Lib.hid hR1
  have HB1 := Lib.hid hb1
  clear hR1 hb1
  have i0 : ∀ (j : Nat) W, (Instr.index 115 (.agg #[.pointer (some ⟨j, 0, none⟩), .pointer (some ⟨j, 4, none⟩), .pointer (some ⟨j, 5, none⟩), .pointer (some ⟨j, 6, none⟩), .pointer (some ⟨j, 7, none⟩), .pointer (some ⟨j, 8, none⟩), .pointer (some ⟨j, 9, none⟩)]) (.int .i64 0)).run Tryd.prog W = .ok (.pointer (some ⟨j, 0, none⟩)) W := fun _ _ => by kernel_rfl
  have i1 : ∀ (j : Nat) W, (Instr.index 115 (.agg #[.pointer (some ⟨j, 0, none⟩), .pointer (some ⟨j, 4, none⟩), .pointer (some ⟨j, 5, none⟩), .pointer (some ⟨j, 6, none⟩), .pointer (some ⟨j, 7, none⟩), .pointer (some ⟨j, 8, none⟩), .pointer (some ⟨j, 9, none⟩)]) (.int .i64 1)).run Tryd.prog W = .ok (.pointer (some ⟨j, 4, none⟩)) W := fun _ _ => by kernel_rfl
  have i2 : ∀ (j : Nat) W, (Instr.index 115 (.agg #[.pointer (some ⟨j, 0, none⟩), .pointer (some ⟨j, 4, none⟩), .pointer (some ⟨j, 5, none⟩), .pointer (some ⟨j, 6, none⟩), .pointer (some ⟨j, 7, none⟩), .pointer (some ⟨j, 8, none⟩), .pointer (some ⟨j, 9, none⟩)]) (.int .i64 2)).run Tryd.prog W = .ok (.pointer (some ⟨j, 5, none⟩)) W := fun _ _ => by kernel_rfl
  have i3 : ∀ (j : Nat) W, (Instr.index 115 (.agg #[.pointer (some ⟨j, 0, none⟩), .pointer (some ⟨j, 4, none⟩), .pointer (some ⟨j, 5, none⟩), .pointer (some ⟨j, 6, none⟩), .pointer (some ⟨j, 7, none⟩), .pointer (some ⟨j, 8, none⟩), .pointer (some ⟨j, 9, none⟩)]) (.int .i64 3)).run Tryd.prog W = .ok (.pointer (some ⟨j, 6, none⟩)) W := fun _ _ => by kernel_rfl
  have i4 : ∀ (j : Nat) W, (Instr.index 115 (.agg #[.pointer (some ⟨j, 0, none⟩), .pointer (some ⟨j, 4, none⟩), .pointer (some ⟨j, 5, none⟩), .pointer (some ⟨j, 6, none⟩), .pointer (some ⟨j, 7, none⟩), .pointer (some ⟨j, 8, none⟩), .pointer (some ⟨j, 9, none⟩)]) (.int .i64 4)).run Tryd.prog W = .ok (.pointer (some ⟨j, 7, none⟩)) W := fun _ _ => by kernel_rfl
  have i5 : ∀ (j : Nat) W, (Instr.index 115 (.agg #[.pointer (some ⟨j, 0, none⟩), .pointer (some ⟨j, 4, none⟩), .pointer (some ⟨j, 5, none⟩), .pointer (some ⟨j, 6, none⟩), .pointer (some ⟨j, 7, none⟩), .pointer (some ⟨j, 8, none⟩), .pointer (some ⟨j, 9, none⟩)]) (.int .i64 5)).run Tryd.prog W = .ok (.pointer (some ⟨j, 8, none⟩)) W := fun _ _ => by kernel_rfl
  have i6 : ∀ (j : Nat) W, (Instr.index 115 (.agg #[.pointer (some ⟨j, 0, none⟩), .pointer (some ⟨j, 4, none⟩), .pointer (some ⟨j, 5, none⟩), .pointer (some ⟨j, 6, none⟩), .pointer (some ⟨j, 7, none⟩), .pointer (some ⟨j, 8, none⟩), .pointer (some ⟨j, 9, none⟩)]) (.int .i64 6)).run Tryd.prog W = .ok (.pointer (some ⟨j, 9, none⟩)) W := fun _ _ => by kernel_rfl
  have k0 : ∀ (j : Nat) W, (Instr.index 118 (.agg #[.pointer (some ⟨j, 1, none⟩), .pointer (some ⟨j, 2, none⟩), .pointer (some ⟨j, 3, none⟩)]) (.int .i64 0)).run Tryd.prog W = .ok (.pointer (some ⟨j, 1, none⟩)) W := fun _ _ => by kernel_rfl
  have k1 : ∀ (j : Nat) W, (Instr.index 118 (.agg #[.pointer (some ⟨j, 1, none⟩), .pointer (some ⟨j, 2, none⟩), .pointer (some ⟨j, 3, none⟩)]) (.int .i64 1)).run Tryd.prog W = .ok (.pointer (some ⟨j, 2, none⟩)) W := fun _ _ => by kernel_rfl
  have k2 : ∀ (j : Nat) W, (Instr.index 118 (.agg #[.pointer (some ⟨j, 1, none⟩), .pointer (some ⟨j, 2, none⟩), .pointer (some ⟨j, 3, none⟩)]) (.int .i64 2)).run Tryd.prog W = .ok (.pointer (some ⟨j, 3, none⟩)) W := fun _ _ => by kernel_rfl
  go_enter Tryd.func21, Tryd.ntmps21
  go_wp2_with fail
  obtain ⟨q, hq⟩ : ∃ q, W1.heap.size = q := ⟨_, rfl⟩
  simp only [hq]
  have D0 : DInv w ((W1.alloc (.cells #[.slice (some ⟨w.heap.size + 1, o, none⟩) (octs s).length c, .int .i64 0] 113)).alloc (.cells #[.int .i64 0, .string ⟨#[]⟩, .string ⟨#[]⟩, .string ⟨#[]⟩, .int .i64 0, .int .i64 0, .int .i64 0, .int .i64 0, .int .i64 0, .int .i64 0] 35)) q (w.heap.size + 1) (q + 1) w.heap.size (octs s) 0 #[.int .i64 0, .string ⟨#[]⟩, .string ⟨#[]⟩, .string ⟨#[]⟩, .int .i64 0, .int .i64 0, .int .i64 0, .int .i64 0, .int .i64 0, .int .i64 0] := by
    have hb := HB1.out
    have hsz : q = W1.heap.size := hq.symm
    have hlt : w.heap.size + 1 < q := by rw [hsz]; simpa using hz1
    have z1 : Blk W1 w.heap.size 35 #[.int .i64 0, .string ⟨#[]⟩, .string ⟨#[]⟩, .string ⟨#[]⟩, .int .i64 0, .int .i64 0, .int .i64 0, .int .i64 0, .int .i64 0, .int .i64 0] := (Blk.new w _ _).below hb (by simp)
    have z2 := (z1.alloc (.cells #[.slice (some ⟨w.heap.size + 1, o, none⟩) (octs s).length c, .int .i64 0] 113)).alloc (.cells #[.int .i64 0, .string ⟨#[]⟩, .string ⟨#[]⟩, .string ⟨#[]⟩, .int .i64 0, .int .i64 0, .int .i64 0, .int .i64 0, .int .i64 0, .int .i64 0] 35)
    have z3 := (Blk.new' (w := W1) (g := q) 113 #[.slice (some ⟨w.heap.size + 1, o, none⟩) (octs s).length c, .int .i64 0] hsz).alloc (.cells #[.int .i64 0, .string ⟨#[]⟩, .string ⟨#[]⟩, .string ⟨#[]⟩, .int .i64 0, .int .i64 0, .int .i64 0, .int .i64 0, .int .i64 0, .int .i64 0] 35)
    have z4 : Blk ((W1.alloc (.cells #[.slice (some ⟨w.heap.size + 1, o, none⟩) (octs s).length c, .int .i64 0] 113)).alloc (.cells #[.int .i64 0, .string ⟨#[]⟩, .string ⟨#[]⟩, .string ⟨#[]⟩, .int .i64 0, .int .i64 0, .int .i64 0, .int .i64 0, .int .i64 0, .int .i64 0] 35)) (q + 1) 35 #[.int .i64 0, .string ⟨#[]⟩, .string ⟨#[]⟩, .string ⟨#[]⟩, .int .i64 0, .int .i64 0, .int .i64 0, .int .i64 0, .int .i64 0, .int .i64 0] := Blk.new' _ _ (by simp [hsz])
    have z5 : RS W1 (w.heap.size + 1) (.slice (some ⟨w.heap.size + 1, o, none⟩) (octs s).length c) (octs s) := by simpa using HR1.out
    have z6 := rs_gb z5 (gb_alloc (gb_alloc (World.grownBy.refl W1 none) (.cells #[.slice (some ⟨w.heap.size + 1, o, none⟩) (octs s).length c, .int .i64 0] 113)) (.cells #[.int .i64 0, .string ⟨#[]⟩, .string ⟨#[]⟩, .string ⟨#[]⟩, .int .i64 0, .int .i64 0, .int .i64 0, .int .i64 0, .int .i64 0, .int .i64 0] 35)) (by omega) (by simp)
    exact ⟨⟨_, z3, z6, by omega, by simp; omega⟩, z4, z2, ((((Below.refl _ w).alloc (Nat.le_refl _) _).trans (hb.mono (by simp))).alloc (by omega) _).alloc (by simp; omega) _, by omega, by omega, by omega, by omega, by omega, by omega⟩
  clear hq hz1 hcv HR1 HB1
  refine wp_loop_rounds 8 ?_
  rw [rounds_succ]
  go_wp2_with (go_at_call 47; refine (HN1.out q _ _ D0.cur).mono ?_; rintro e w1 ⟨rfl, hcc, hgg⟩; have E1 := D0.step hgg hcc; have jq := E1.jb.cell; have jf := E1.jb.frozen; clear hcc hgg)
  have D1 := E1.store 0 (.int .i64 n1)
  clear E1 jq jf D0
  rw [rounds_succ]
  go_wp2_with (go_at_call 47; refine (HN2.out q _ _ D1.cur).mono ?_; rintro e w2 ⟨rfl, hcc, hgg⟩; have E2 := D1.step hgg hcc; have jq := E2.jb.cell; have jf := E2.jb.frozen; clear hcc hgg)
  have D2 := E2.store 4 (.int .i64 n2)
  clear E2 jq jf D1
  rw [rounds_succ]
  go_wp2_with (go_at_call 47; refine (HN3.out q _ _ D2.cur).mono ?_; rintro e w3 ⟨rfl, hcc, hgg⟩; have E3 := D2.step hgg hcc; have jq := E3.jb.cell; have jf := E3.jb.frozen; clear hcc hgg)
  have D3 := E3.store 5 (.int .i64 n3)
  clear E3 jq jf D2
  rw [rounds_succ]
  go_wp2_with (go_at_call 47; refine (HN4.out q _ _ D3.cur).mono ?_; rintro e w4 ⟨rfl, hcc, hgg⟩; have E4 := D3.step hgg hcc; have jq := E4.jb.cell; have jf := E4.jb.frozen; clear hcc hgg)
  have D4 := E4.store 6 (.int .i64 n4)
  clear E4 jq jf D3
  rw [rounds_succ]
  go_wp2_with (go_at_call 47; refine (HN5.out q _ _ D4.cur).mono ?_; rintro e w5 ⟨rfl, hcc, hgg⟩; have E5 := D4.step hgg hcc; have jq := E5.jb.cell; have jf := E5.jb.frozen; clear hcc hgg)
  have D5 := E5.store 7 (.int .i64 n5)
  clear E5 jq jf D4
  rw [rounds_succ]
  go_wp2_with (go_at_call 47; refine (HN6.out q _ _ D5.cur).mono ?_; rintro e w6 ⟨rfl, hcc, hgg⟩; have E6 := D5.step hgg hcc; have jq := E6.jb.cell; have jf := E6.jb.frozen; clear hcc hgg)
  have D6 := E6.store 8 (.int .i64 n6)
  clear E6 jq jf D5
  rw [rounds_succ]
  go_wp2_with (go_at_call 47; refine (HN7.out q _ _ D6.cur).mono ?_; rintro e w7 ⟨rfl, hcc, hgg⟩; have E7 := D6.step hgg hcc; have jq := E7.jb.cell; have jf := E7.jb.frozen; clear hcc hgg)
  have D7 := E7.store 9 (.int .i64 n7)
  clear E7 jq jf D6
  rw [rounds_succ]
  go_wp2_with fail
  refine wp_loop_rounds 4 ?_
  rw [rounds_succ]
  go_wp2_with (go_at_call 48; refine (HN8.out q _ _ D7.cur).mono ?_; rintro e w8 ⟨rfl, hcc, hgg⟩; have E8 := D7.step hgg hcc; have jq := E8.jb.cell; have jf := E8.jb.frozen; clear hcc hgg)
  have D8 := E8.store 1 (.string s8)
  clear E8 jq jf D7
  rw [rounds_succ]
  go_wp2_with (go_at_call 48; refine (HN9.out q _ _ D8.cur).mono ?_; rintro e w9 ⟨rfl, hcc, hgg⟩; have E9 := D8.step hgg hcc; have jq := E9.jb.cell; have jf := E9.jb.frozen; clear hcc hgg)
  have D9 := E9.store 2 (.string s9)
  clear E9 jq jf D8
  rw [rounds_succ]
  go_wp2_with (go_at_call 48; refine (HN10.out q _ _ D9.cur).mono ?_; rintro e w10 ⟨rfl, hcc, hgg⟩; have E10 := D9.step hgg hcc; have jq := E10.jb.cell; have jf := E10.jb.frozen; clear hcc hgg)
  have D10 := E10.store 3 (.string s10)
  clear E10 jq jf D9
  clear i0 i1 i2 i3 i4 i5 i6 k0 k1 k2
  have D := D10
  clear D10
  obtain ⟨⟨v, cB, ⟨o2, c2, rfl, hc1, hc2, hc4⟩, hne, hlt⟩, J, R, HB, x1, x2, x3, x4, x5, x6⟩ := D
  have J' : Blk (w10.setCell ⟨q + 1, 3, none⟩ (.string s10)) (q + 1) 35 #[.int .i64 n1, .string s8, .string s9, .string s10, .int .i64 n2, .int .i64 n3, .int .i64 n4, .int .i64 n5, .int .i64 n6, .int .i64 n7] := by simpa using J
  have HC4 := Lib.hid hc4
  clear J hc4 HN1 HN2 HN3 HN4 HN5 HN6 HN7 HN8 HN9 HN10
  generalize w10.setCell ⟨q + 1, 3, none⟩ (.string s10) = w11 at *
  have Jq := J'.cell
  have cq := cB.cell
  have cf := cB.frozen
  rw [rounds_succ]
  go_wp2_with fail
  have c2 := cB.set 1 (.int .i64 23)
  have c2q := c2.cell
  have r2 := R.far (p := ⟨q, 1, none⟩) x3 (.int .i64 23)
  have b2 := HB.setCell (p := ⟨q, 1, none⟩) x5 (.int .i64 23)
  clear cq
  generalize w11.setCell ⟨q, 1, none⟩ (.int .i64 23) = w13 at *
  have R2 := (r2)
  have B2 := (b2)
  have R2q := R2.cell
  have R2f := R2.frozen
  go_region
  all_goals
    go_wp2_with fail
    refine bodyPost_ret (res_row_tmp (g := w.heap.size) (t := 35) (cs := #[.int .i64 0, .string ⟨#[]⟩, .string ⟨#[]⟩, .string ⟨#[]⟩, .int .i64 0, .int .i64 0, .int .i64 0, .int .i64 0, .int .i64 0, .int .i64 0]) rfl rfl ?hb Tryd.underlying35 rfl jobSize) rfl ⟨rfl, ?hf⟩
    case hb => exact (((((((((((R2.set 0 _).set 1 _).set 2 _).set 3 _).set 4 _).set 5 _).set 6 _).set 7 _).set 8 _).set 9 _).drew)
    case hf => repeat' (first | (with_reducible exact Below.refl _ _) | (with_reducible assumption) | (with_reducible refine bl_alloc ?_ (Nat.le_refl _) _) | (with_reducible refine bl_drew ?_) | (with_reducible refine bl_drewN ?_ _) | (with_reducible refine bl_setRow ?_ (by first | (simp; done) | (simp; omega) | omega) _) | (with_reducible refine bl_setCell ?_ (by first | (simp; done) | (simp; omega) | omega) _) | (with_reducible refine bl_trans ?_ (Nat.le_refl _) (by assumption)))

set_option maxRecDepth 100000 in
set_option maxHeartbeats 4000000 in
theorem dec_check (s : ByteArray) (w : World) (hs : s.size ≤ 9223372036854775807) (n1 n2 n3 n4 n5 n6 n7 : Int) (s8 s9 s10 : ByteArray) (l1 l2 l3 l4 l5 l6 l7 l8 l9 l10 : List Nat) (e1 e2 e3 e4 e5 e6 e7 e8 e9 e10 : Int)
    (h1 : NumC (octs s) 0 n1 l1 e1) (h2 : NumC l1 e1 n2 l2 e2) (h3 : NumC l2 e2 n3 l3 e3) (h4 : NumC l3 e3 n4 l4 e4) (h5 : NumC l4 e4 n5 l5 e5) (h6 : NumC l5 e5 n6 l6 e6) (h7 : NumC l6 e6 n7 l7 e7)
    (h8 : TxtC l7 e7 s8 l8 e8) (h9 : TxtC l8 e8 s9 l9 e9) (h10 : TxtC l9 e9 s10 l10 e10) (he : e10 = 0) (hl : l10 = []) (ck : Int) (hck : (ck == 0) = false) (hck2 : (ck != 0) = true)
    (hK : ∀ W, Below w.heap.size w W → Calls Tryd.prog 13 #[.agg #[.int .i64 n1, .string s8, .string s9, .string s10, .int .i64 n2, .int .i64 n3, .int .i64 n4, .int .i64 n5, .int .i64 n6, .int .i64 n7]] W fun e w' => e = .returned (.int .i64 ck) ∧ Below W.heap.size W w') : Calls Tryd.prog 21 #[.string s] w fun e w' => e = .returned (.tuple #[.agg #[.int .i64 0, .string ⟨#[]⟩, .string ⟨#[]⟩, .string ⟨#[]⟩, .int .i64 0, .int .i64 0, .int .i64 0, .int .i64 0, .int .i64 0, .int .i64 0], .int .i64 ck]) ∧ Below w.heap.size w w' := by
  subst he hl
  have HK := Lib.hid hK
  clear hK
  have HN1 := Lib.hid h1
  have HN2 := Lib.hid h2
  have HN3 := Lib.hid h3
  have HN4 := Lib.hid h4
  have HN5 := Lib.hid h5
  have HN6 := Lib.hid h6
  have HN7 := Lib.hid h7
  have HN8 := Lib.hid h8
  have HN9 := Lib.hid h9
  have HN10 := Lib.hid h10
  clear h1 h2 h3 h4 h5 h6 h7 h8 h9 h10
  obtain ⟨v, W1, hcv, hb1, hz1, hR1⟩ := octs_conv s (w.alloc (.cells #[.int .i64 0, .string ⟨#[]⟩, .string ⟨#[]⟩, .string ⟨#[]⟩, .int .i64 0, .int .i64 0, .int .i64 0, .int .i64 0, .int .i64 0, .int .i64 0] 35)) hs
  obtain ⟨o, c, rfl, hR2⟩ : ∃ o c, v = .slice (some ⟨(w.alloc (.cells #[.int .i64 0, .string ⟨#[]⟩, .string ⟨#[]⟩, .string ⟨#[]⟩, .int .i64 0, .int .i64 0, .int .i64 0, .int .i64 0, .int .i64 0, .int .i64 0] 35)).heap.size, o, none⟩) (octs s).length c ∧ True := by
    obtain ⟨o, c, h, _⟩ := hR1
    exact ⟨o, c, h, trivial⟩
  have HR1 := Lib.hid hR1
  have HB1 := Lib.hid hb1
  clear hR1 hb1
  have i0 : ∀ (j : Nat) W, (Instr.index 115 (.agg #[.pointer (some ⟨j, 0, none⟩), .pointer (some ⟨j, 4, none⟩), .pointer (some ⟨j, 5, none⟩), .pointer (some ⟨j, 6, none⟩), .pointer (some ⟨j, 7, none⟩), .pointer (some ⟨j, 8, none⟩), .pointer (some ⟨j, 9, none⟩)]) (.int .i64 0)).run Tryd.prog W = .ok (.pointer (some ⟨j, 0, none⟩)) W := fun _ _ => by kernel_rfl
  have i1 : ∀ (j : Nat) W, (Instr.index 115 (.agg #[.pointer (some ⟨j, 0, none⟩), .pointer (some ⟨j, 4, none⟩), .pointer (some ⟨j, 5, none⟩), .pointer (some ⟨j, 6, none⟩), .pointer (some ⟨j, 7, none⟩), .pointer (some ⟨j, 8, none⟩), .pointer (some ⟨j, 9, none⟩)]) (.int .i64 1)).run Tryd.prog W = .ok (.pointer (some ⟨j, 4, none⟩)) W := fun _ _ => by kernel_rfl
  have i2 : ∀ (j : Nat) W, (Instr.index 115 (.agg #[.pointer (some ⟨j, 0, none⟩), .pointer (some ⟨j, 4, none⟩), .pointer (some ⟨j, 5, none⟩), .pointer (some ⟨j, 6, none⟩), .pointer (some ⟨j, 7, none⟩), .pointer (some ⟨j, 8, none⟩), .pointer (some ⟨j, 9, none⟩)]) (.int .i64 2)).run Tryd.prog W = .ok (.pointer (some ⟨j, 5, none⟩)) W := fun _ _ => by kernel_rfl
  have i3 : ∀ (j : Nat) W, (Instr.index 115 (.agg #[.pointer (some ⟨j, 0, none⟩), .pointer (some ⟨j, 4, none⟩), .pointer (some ⟨j, 5, none⟩), .pointer (some ⟨j, 6, none⟩), .pointer (some ⟨j, 7, none⟩), .pointer (some ⟨j, 8, none⟩), .pointer (some ⟨j, 9, none⟩)]) (.int .i64 3)).run Tryd.prog W = .ok (.pointer (some ⟨j, 6, none⟩)) W := fun _ _ => by kernel_rfl
  have i4 : ∀ (j : Nat) W, (Instr.index 115 (.agg #[.pointer (some ⟨j, 0, none⟩), .pointer (some ⟨j, 4, none⟩), .pointer (some ⟨j, 5, none⟩), .pointer (some ⟨j, 6, none⟩), .pointer (some ⟨j, 7, none⟩), .pointer (some ⟨j, 8, none⟩), .pointer (some ⟨j, 9, none⟩)]) (.int .i64 4)).run Tryd.prog W = .ok (.pointer (some ⟨j, 7, none⟩)) W := fun _ _ => by kernel_rfl
  have i5 : ∀ (j : Nat) W, (Instr.index 115 (.agg #[.pointer (some ⟨j, 0, none⟩), .pointer (some ⟨j, 4, none⟩), .pointer (some ⟨j, 5, none⟩), .pointer (some ⟨j, 6, none⟩), .pointer (some ⟨j, 7, none⟩), .pointer (some ⟨j, 8, none⟩), .pointer (some ⟨j, 9, none⟩)]) (.int .i64 5)).run Tryd.prog W = .ok (.pointer (some ⟨j, 8, none⟩)) W := fun _ _ => by kernel_rfl
  have i6 : ∀ (j : Nat) W, (Instr.index 115 (.agg #[.pointer (some ⟨j, 0, none⟩), .pointer (some ⟨j, 4, none⟩), .pointer (some ⟨j, 5, none⟩), .pointer (some ⟨j, 6, none⟩), .pointer (some ⟨j, 7, none⟩), .pointer (some ⟨j, 8, none⟩), .pointer (some ⟨j, 9, none⟩)]) (.int .i64 6)).run Tryd.prog W = .ok (.pointer (some ⟨j, 9, none⟩)) W := fun _ _ => by kernel_rfl
  have k0 : ∀ (j : Nat) W, (Instr.index 118 (.agg #[.pointer (some ⟨j, 1, none⟩), .pointer (some ⟨j, 2, none⟩), .pointer (some ⟨j, 3, none⟩)]) (.int .i64 0)).run Tryd.prog W = .ok (.pointer (some ⟨j, 1, none⟩)) W := fun _ _ => by kernel_rfl
  have k1 : ∀ (j : Nat) W, (Instr.index 118 (.agg #[.pointer (some ⟨j, 1, none⟩), .pointer (some ⟨j, 2, none⟩), .pointer (some ⟨j, 3, none⟩)]) (.int .i64 1)).run Tryd.prog W = .ok (.pointer (some ⟨j, 2, none⟩)) W := fun _ _ => by kernel_rfl
  have k2 : ∀ (j : Nat) W, (Instr.index 118 (.agg #[.pointer (some ⟨j, 1, none⟩), .pointer (some ⟨j, 2, none⟩), .pointer (some ⟨j, 3, none⟩)]) (.int .i64 2)).run Tryd.prog W = .ok (.pointer (some ⟨j, 3, none⟩)) W := fun _ _ => by kernel_rfl
  go_enter Tryd.func21, Tryd.ntmps21
  go_wp2_with fail
  obtain ⟨q, hq⟩ : ∃ q, W1.heap.size = q := ⟨_, rfl⟩
  simp only [hq]
  have D0 : DInv w ((W1.alloc (.cells #[.slice (some ⟨w.heap.size + 1, o, none⟩) (octs s).length c, .int .i64 0] 113)).alloc (.cells #[.int .i64 0, .string ⟨#[]⟩, .string ⟨#[]⟩, .string ⟨#[]⟩, .int .i64 0, .int .i64 0, .int .i64 0, .int .i64 0, .int .i64 0, .int .i64 0] 35)) q (w.heap.size + 1) (q + 1) w.heap.size (octs s) 0 #[.int .i64 0, .string ⟨#[]⟩, .string ⟨#[]⟩, .string ⟨#[]⟩, .int .i64 0, .int .i64 0, .int .i64 0, .int .i64 0, .int .i64 0, .int .i64 0] := by
    have hb := HB1.out
    have hsz : q = W1.heap.size := hq.symm
    have hlt : w.heap.size + 1 < q := by rw [hsz]; simpa using hz1
    have z1 : Blk W1 w.heap.size 35 #[.int .i64 0, .string ⟨#[]⟩, .string ⟨#[]⟩, .string ⟨#[]⟩, .int .i64 0, .int .i64 0, .int .i64 0, .int .i64 0, .int .i64 0, .int .i64 0] := (Blk.new w _ _).below hb (by simp)
    have z2 := (z1.alloc (.cells #[.slice (some ⟨w.heap.size + 1, o, none⟩) (octs s).length c, .int .i64 0] 113)).alloc (.cells #[.int .i64 0, .string ⟨#[]⟩, .string ⟨#[]⟩, .string ⟨#[]⟩, .int .i64 0, .int .i64 0, .int .i64 0, .int .i64 0, .int .i64 0, .int .i64 0] 35)
    have z3 := (Blk.new' (w := W1) (g := q) 113 #[.slice (some ⟨w.heap.size + 1, o, none⟩) (octs s).length c, .int .i64 0] hsz).alloc (.cells #[.int .i64 0, .string ⟨#[]⟩, .string ⟨#[]⟩, .string ⟨#[]⟩, .int .i64 0, .int .i64 0, .int .i64 0, .int .i64 0, .int .i64 0, .int .i64 0] 35)
    have z4 : Blk ((W1.alloc (.cells #[.slice (some ⟨w.heap.size + 1, o, none⟩) (octs s).length c, .int .i64 0] 113)).alloc (.cells #[.int .i64 0, .string ⟨#[]⟩, .string ⟨#[]⟩, .string ⟨#[]⟩, .int .i64 0, .int .i64 0, .int .i64 0, .int .i64 0, .int .i64 0, .int .i64 0] 35)) (q + 1) 35 #[.int .i64 0, .string ⟨#[]⟩, .string ⟨#[]⟩, .string ⟨#[]⟩, .int .i64 0, .int .i64 0, .int .i64 0, .int .i64 0, .int .i64 0, .int .i64 0] := Blk.new' _ _ (by simp [hsz])
    have z5 : RS W1 (w.heap.size + 1) (.slice (some ⟨w.heap.size + 1, o, none⟩) (octs s).length c) (octs s) := by simpa using HR1.out
    have z6 := rs_gb z5 (gb_alloc (gb_alloc (World.grownBy.refl W1 none) (.cells #[.slice (some ⟨w.heap.size + 1, o, none⟩) (octs s).length c, .int .i64 0] 113)) (.cells #[.int .i64 0, .string ⟨#[]⟩, .string ⟨#[]⟩, .string ⟨#[]⟩, .int .i64 0, .int .i64 0, .int .i64 0, .int .i64 0, .int .i64 0, .int .i64 0] 35)) (by omega) (by simp)
    exact ⟨⟨_, z3, z6, by omega, by simp; omega⟩, z4, z2, ((((Below.refl _ w).alloc (Nat.le_refl _) _).trans (hb.mono (by simp))).alloc (by omega) _).alloc (by simp; omega) _, by omega, by omega, by omega, by omega, by omega, by omega⟩
  clear hq hz1 hcv HR1 HB1
  refine wp_loop_rounds 8 ?_
  rw [rounds_succ]
  go_wp2_with (go_at_call 47; refine (HN1.out q _ _ D0.cur).mono ?_; rintro e w1 ⟨rfl, hcc, hgg⟩; have E1 := D0.step hgg hcc; have jq := E1.jb.cell; have jf := E1.jb.frozen; clear hcc hgg)
  have D1 := E1.store 0 (.int .i64 n1)
  clear E1 jq jf D0
  rw [rounds_succ]
  go_wp2_with (go_at_call 47; refine (HN2.out q _ _ D1.cur).mono ?_; rintro e w2 ⟨rfl, hcc, hgg⟩; have E2 := D1.step hgg hcc; have jq := E2.jb.cell; have jf := E2.jb.frozen; clear hcc hgg)
  have D2 := E2.store 4 (.int .i64 n2)
  clear E2 jq jf D1
  rw [rounds_succ]
  go_wp2_with (go_at_call 47; refine (HN3.out q _ _ D2.cur).mono ?_; rintro e w3 ⟨rfl, hcc, hgg⟩; have E3 := D2.step hgg hcc; have jq := E3.jb.cell; have jf := E3.jb.frozen; clear hcc hgg)
  have D3 := E3.store 5 (.int .i64 n3)
  clear E3 jq jf D2
  rw [rounds_succ]
  go_wp2_with (go_at_call 47; refine (HN4.out q _ _ D3.cur).mono ?_; rintro e w4 ⟨rfl, hcc, hgg⟩; have E4 := D3.step hgg hcc; have jq := E4.jb.cell; have jf := E4.jb.frozen; clear hcc hgg)
  have D4 := E4.store 6 (.int .i64 n4)
  clear E4 jq jf D3
  rw [rounds_succ]
  go_wp2_with (go_at_call 47; refine (HN5.out q _ _ D4.cur).mono ?_; rintro e w5 ⟨rfl, hcc, hgg⟩; have E5 := D4.step hgg hcc; have jq := E5.jb.cell; have jf := E5.jb.frozen; clear hcc hgg)
  have D5 := E5.store 7 (.int .i64 n5)
  clear E5 jq jf D4
  rw [rounds_succ]
  go_wp2_with (go_at_call 47; refine (HN6.out q _ _ D5.cur).mono ?_; rintro e w6 ⟨rfl, hcc, hgg⟩; have E6 := D5.step hgg hcc; have jq := E6.jb.cell; have jf := E6.jb.frozen; clear hcc hgg)
  have D6 := E6.store 8 (.int .i64 n6)
  clear E6 jq jf D5
  rw [rounds_succ]
  go_wp2_with (go_at_call 47; refine (HN7.out q _ _ D6.cur).mono ?_; rintro e w7 ⟨rfl, hcc, hgg⟩; have E7 := D6.step hgg hcc; have jq := E7.jb.cell; have jf := E7.jb.frozen; clear hcc hgg)
  have D7 := E7.store 9 (.int .i64 n7)
  clear E7 jq jf D6
  rw [rounds_succ]
  go_wp2_with fail
  refine wp_loop_rounds 4 ?_
  rw [rounds_succ]
  go_wp2_with (go_at_call 48; refine (HN8.out q _ _ D7.cur).mono ?_; rintro e w8 ⟨rfl, hcc, hgg⟩; have E8 := D7.step hgg hcc; have jq := E8.jb.cell; have jf := E8.jb.frozen; clear hcc hgg)
  have D8 := E8.store 1 (.string s8)
  clear E8 jq jf D7
  rw [rounds_succ]
  go_wp2_with (go_at_call 48; refine (HN9.out q _ _ D8.cur).mono ?_; rintro e w9 ⟨rfl, hcc, hgg⟩; have E9 := D8.step hgg hcc; have jq := E9.jb.cell; have jf := E9.jb.frozen; clear hcc hgg)
  have D9 := E9.store 2 (.string s9)
  clear E9 jq jf D8
  rw [rounds_succ]
  go_wp2_with (go_at_call 48; refine (HN10.out q _ _ D9.cur).mono ?_; rintro e w10 ⟨rfl, hcc, hgg⟩; have E10 := D9.step hgg hcc; have jq := E10.jb.cell; have jf := E10.jb.frozen; clear hcc hgg)
  have D10 := E10.store 3 (.string s10)
  clear E10 jq jf D9
  clear i0 i1 i2 i3 i4 i5 i6 k0 k1 k2
  have D := D10
  clear D10
  obtain ⟨⟨v, cB, ⟨o2, c2, rfl, hc1, hc2, hc4⟩, hne, hlt⟩, J, R, HB, x1, x2, x3, x4, x5, x6⟩ := D
  have J' : Blk (w10.setCell ⟨q + 1, 3, none⟩ (.string s10)) (q + 1) 35 #[.int .i64 n1, .string s8, .string s9, .string s10, .int .i64 n2, .int .i64 n3, .int .i64 n4, .int .i64 n5, .int .i64 n6, .int .i64 n7] := by simpa using J
  have HC4 := Lib.hid hc4
  clear J hc4 HN1 HN2 HN3 HN4 HN5 HN6 HN7 HN8 HN9 HN10
  generalize w10.setCell ⟨q + 1, 3, none⟩ (.string s10) = w11 at *
  have Jq := J'.cell
  have cq := cB.cell
  have cf := cB.frozen
  rw [rounds_succ]
  go_wp2_with (go_at_call 13; refine (HK.out _ HB).mono ?_; rintro e w13 ⟨rfl, hb13⟩; have c2 := cB.below hb13 cB.lt; have c2q := c2.cell; have c2f := c2.frozen; have r2 := R.below hb13 R.lt; have b2 := bl_trans HB (Nat.le_refl _) hb13; clear cq cf Jq hb13)
  have c3 := c2.set 1 (.int .i64 ck)
  have c3q := c3.cell
  have r3 := r2.far (p := ⟨q, 1, none⟩) x3 (.int .i64 ck)
  have b3 := b2.setCell (p := ⟨q, 1, none⟩) x5 (.int .i64 ck)
  clear c2q
  generalize w13.setCell ⟨q, 1, none⟩ (.int .i64 ck) = w14 at *
  have R2 := (r3)
  have B2 := (b3)
  have R2q := R2.cell
  have R2f := R2.frozen
  go_region
  all_goals
    go_wp2_with fail
    refine bodyPost_ret (res_row_tmp (g := w.heap.size) (t := 35) (cs := #[.int .i64 0, .string ⟨#[]⟩, .string ⟨#[]⟩, .string ⟨#[]⟩, .int .i64 0, .int .i64 0, .int .i64 0, .int .i64 0, .int .i64 0, .int .i64 0]) rfl rfl ?hb Tryd.underlying35 rfl jobSize) rfl ⟨rfl, ?hf⟩
    case hb => exact (((((((((((R2.set 0 _).set 1 _).set 2 _).set 3 _).set 4 _).set 5 _).set 6 _).set 7 _).set 8 _).set 9 _).drew)
    case hf => repeat' (first | (with_reducible exact Below.refl _ _) | (with_reducible assumption) | (with_reducible refine bl_alloc ?_ (Nat.le_refl _) _) | (with_reducible refine bl_drew ?_) | (with_reducible refine bl_drewN ?_ _) | (with_reducible refine bl_setRow ?_ (by first | (simp; done) | (simp; omega) | omega) _) | (with_reducible refine bl_setCell ?_ (by first | (simp; done) | (simp; omega) | omega) _) | (with_reducible refine bl_trans ?_ (Nat.le_refl _) (by assumption)))

set_option maxRecDepth 100000 in
set_option maxHeartbeats 4000000 in
theorem dec_ok (s : ByteArray) (w : World) (hs : s.size ≤ 9223372036854775807) (n1 n2 n3 n4 n5 n6 n7 : Int) (s8 s9 s10 : ByteArray) (l1 l2 l3 l4 l5 l6 l7 l8 l9 l10 : List Nat) (e1 e2 e3 e4 e5 e6 e7 e8 e9 e10 : Int)
    (h1 : NumC (octs s) 0 n1 l1 e1) (h2 : NumC l1 e1 n2 l2 e2) (h3 : NumC l2 e2 n3 l3 e3) (h4 : NumC l3 e3 n4 l4 e4) (h5 : NumC l4 e4 n5 l5 e5) (h6 : NumC l5 e5 n6 l6 e6) (h7 : NumC l6 e6 n7 l7 e7)
    (h8 : TxtC l7 e7 s8 l8 e8) (h9 : TxtC l8 e8 s9 l9 e9) (h10 : TxtC l9 e9 s10 l10 e10) (he : e10 = 0) (hl : l10 = [])
    (hK : ∀ W, Below w.heap.size w W → Calls Tryd.prog 13 #[.agg #[.int .i64 n1, .string s8, .string s9, .string s10, .int .i64 n2, .int .i64 n3, .int .i64 n4, .int .i64 n5, .int .i64 n6, .int .i64 n7]] W fun e w' => e = .returned (.int .i64 0) ∧ Below W.heap.size W w') : Calls Tryd.prog 21 #[.string s] w fun e w' => e = .returned (.tuple #[.agg #[.int .i64 n1, .string s8, .string s9, .string s10, .int .i64 n2, .int .i64 n3, .int .i64 n4, .int .i64 n5, .int .i64 n6, .int .i64 n7], .int .i64 0]) ∧ Below w.heap.size w w' := by
  subst he hl
  have HK := Lib.hid hK
  clear hK
  have HN1 := Lib.hid h1
  have HN2 := Lib.hid h2
  have HN3 := Lib.hid h3
  have HN4 := Lib.hid h4
  have HN5 := Lib.hid h5
  have HN6 := Lib.hid h6
  have HN7 := Lib.hid h7
  have HN8 := Lib.hid h8
  have HN9 := Lib.hid h9
  have HN10 := Lib.hid h10
  clear h1 h2 h3 h4 h5 h6 h7 h8 h9 h10
  obtain ⟨v, W1, hcv, hb1, hz1, hR1⟩ := octs_conv s (w.alloc (.cells #[.int .i64 0, .string ⟨#[]⟩, .string ⟨#[]⟩, .string ⟨#[]⟩, .int .i64 0, .int .i64 0, .int .i64 0, .int .i64 0, .int .i64 0, .int .i64 0] 35)) hs
  obtain ⟨o, c, rfl, hR2⟩ : ∃ o c, v = .slice (some ⟨(w.alloc (.cells #[.int .i64 0, .string ⟨#[]⟩, .string ⟨#[]⟩, .string ⟨#[]⟩, .int .i64 0, .int .i64 0, .int .i64 0, .int .i64 0, .int .i64 0, .int .i64 0] 35)).heap.size, o, none⟩) (octs s).length c ∧ True := by
    obtain ⟨o, c, h, _⟩ := hR1
    exact ⟨o, c, h, trivial⟩
  have HR1 := Lib.hid hR1
  have HB1 := Lib.hid hb1
  clear hR1 hb1
  have i0 : ∀ (j : Nat) W, (Instr.index 115 (.agg #[.pointer (some ⟨j, 0, none⟩), .pointer (some ⟨j, 4, none⟩), .pointer (some ⟨j, 5, none⟩), .pointer (some ⟨j, 6, none⟩), .pointer (some ⟨j, 7, none⟩), .pointer (some ⟨j, 8, none⟩), .pointer (some ⟨j, 9, none⟩)]) (.int .i64 0)).run Tryd.prog W = .ok (.pointer (some ⟨j, 0, none⟩)) W := fun _ _ => by kernel_rfl
  have i1 : ∀ (j : Nat) W, (Instr.index 115 (.agg #[.pointer (some ⟨j, 0, none⟩), .pointer (some ⟨j, 4, none⟩), .pointer (some ⟨j, 5, none⟩), .pointer (some ⟨j, 6, none⟩), .pointer (some ⟨j, 7, none⟩), .pointer (some ⟨j, 8, none⟩), .pointer (some ⟨j, 9, none⟩)]) (.int .i64 1)).run Tryd.prog W = .ok (.pointer (some ⟨j, 4, none⟩)) W := fun _ _ => by kernel_rfl
  have i2 : ∀ (j : Nat) W, (Instr.index 115 (.agg #[.pointer (some ⟨j, 0, none⟩), .pointer (some ⟨j, 4, none⟩), .pointer (some ⟨j, 5, none⟩), .pointer (some ⟨j, 6, none⟩), .pointer (some ⟨j, 7, none⟩), .pointer (some ⟨j, 8, none⟩), .pointer (some ⟨j, 9, none⟩)]) (.int .i64 2)).run Tryd.prog W = .ok (.pointer (some ⟨j, 5, none⟩)) W := fun _ _ => by kernel_rfl
  have i3 : ∀ (j : Nat) W, (Instr.index 115 (.agg #[.pointer (some ⟨j, 0, none⟩), .pointer (some ⟨j, 4, none⟩), .pointer (some ⟨j, 5, none⟩), .pointer (some ⟨j, 6, none⟩), .pointer (some ⟨j, 7, none⟩), .pointer (some ⟨j, 8, none⟩), .pointer (some ⟨j, 9, none⟩)]) (.int .i64 3)).run Tryd.prog W = .ok (.pointer (some ⟨j, 6, none⟩)) W := fun _ _ => by kernel_rfl
  have i4 : ∀ (j : Nat) W, (Instr.index 115 (.agg #[.pointer (some ⟨j, 0, none⟩), .pointer (some ⟨j, 4, none⟩), .pointer (some ⟨j, 5, none⟩), .pointer (some ⟨j, 6, none⟩), .pointer (some ⟨j, 7, none⟩), .pointer (some ⟨j, 8, none⟩), .pointer (some ⟨j, 9, none⟩)]) (.int .i64 4)).run Tryd.prog W = .ok (.pointer (some ⟨j, 7, none⟩)) W := fun _ _ => by kernel_rfl
  have i5 : ∀ (j : Nat) W, (Instr.index 115 (.agg #[.pointer (some ⟨j, 0, none⟩), .pointer (some ⟨j, 4, none⟩), .pointer (some ⟨j, 5, none⟩), .pointer (some ⟨j, 6, none⟩), .pointer (some ⟨j, 7, none⟩), .pointer (some ⟨j, 8, none⟩), .pointer (some ⟨j, 9, none⟩)]) (.int .i64 5)).run Tryd.prog W = .ok (.pointer (some ⟨j, 8, none⟩)) W := fun _ _ => by kernel_rfl
  have i6 : ∀ (j : Nat) W, (Instr.index 115 (.agg #[.pointer (some ⟨j, 0, none⟩), .pointer (some ⟨j, 4, none⟩), .pointer (some ⟨j, 5, none⟩), .pointer (some ⟨j, 6, none⟩), .pointer (some ⟨j, 7, none⟩), .pointer (some ⟨j, 8, none⟩), .pointer (some ⟨j, 9, none⟩)]) (.int .i64 6)).run Tryd.prog W = .ok (.pointer (some ⟨j, 9, none⟩)) W := fun _ _ => by kernel_rfl
  have k0 : ∀ (j : Nat) W, (Instr.index 118 (.agg #[.pointer (some ⟨j, 1, none⟩), .pointer (some ⟨j, 2, none⟩), .pointer (some ⟨j, 3, none⟩)]) (.int .i64 0)).run Tryd.prog W = .ok (.pointer (some ⟨j, 1, none⟩)) W := fun _ _ => by kernel_rfl
  have k1 : ∀ (j : Nat) W, (Instr.index 118 (.agg #[.pointer (some ⟨j, 1, none⟩), .pointer (some ⟨j, 2, none⟩), .pointer (some ⟨j, 3, none⟩)]) (.int .i64 1)).run Tryd.prog W = .ok (.pointer (some ⟨j, 2, none⟩)) W := fun _ _ => by kernel_rfl
  have k2 : ∀ (j : Nat) W, (Instr.index 118 (.agg #[.pointer (some ⟨j, 1, none⟩), .pointer (some ⟨j, 2, none⟩), .pointer (some ⟨j, 3, none⟩)]) (.int .i64 2)).run Tryd.prog W = .ok (.pointer (some ⟨j, 3, none⟩)) W := fun _ _ => by kernel_rfl
  go_enter Tryd.func21, Tryd.ntmps21
  go_wp2_with fail
  obtain ⟨q, hq⟩ : ∃ q, W1.heap.size = q := ⟨_, rfl⟩
  simp only [hq]
  have D0 : DInv w ((W1.alloc (.cells #[.slice (some ⟨w.heap.size + 1, o, none⟩) (octs s).length c, .int .i64 0] 113)).alloc (.cells #[.int .i64 0, .string ⟨#[]⟩, .string ⟨#[]⟩, .string ⟨#[]⟩, .int .i64 0, .int .i64 0, .int .i64 0, .int .i64 0, .int .i64 0, .int .i64 0] 35)) q (w.heap.size + 1) (q + 1) w.heap.size (octs s) 0 #[.int .i64 0, .string ⟨#[]⟩, .string ⟨#[]⟩, .string ⟨#[]⟩, .int .i64 0, .int .i64 0, .int .i64 0, .int .i64 0, .int .i64 0, .int .i64 0] := by
    have hb := HB1.out
    have hsz : q = W1.heap.size := hq.symm
    have hlt : w.heap.size + 1 < q := by rw [hsz]; simpa using hz1
    have z1 : Blk W1 w.heap.size 35 #[.int .i64 0, .string ⟨#[]⟩, .string ⟨#[]⟩, .string ⟨#[]⟩, .int .i64 0, .int .i64 0, .int .i64 0, .int .i64 0, .int .i64 0, .int .i64 0] := (Blk.new w _ _).below hb (by simp)
    have z2 := (z1.alloc (.cells #[.slice (some ⟨w.heap.size + 1, o, none⟩) (octs s).length c, .int .i64 0] 113)).alloc (.cells #[.int .i64 0, .string ⟨#[]⟩, .string ⟨#[]⟩, .string ⟨#[]⟩, .int .i64 0, .int .i64 0, .int .i64 0, .int .i64 0, .int .i64 0, .int .i64 0] 35)
    have z3 := (Blk.new' (w := W1) (g := q) 113 #[.slice (some ⟨w.heap.size + 1, o, none⟩) (octs s).length c, .int .i64 0] hsz).alloc (.cells #[.int .i64 0, .string ⟨#[]⟩, .string ⟨#[]⟩, .string ⟨#[]⟩, .int .i64 0, .int .i64 0, .int .i64 0, .int .i64 0, .int .i64 0, .int .i64 0] 35)
    have z4 : Blk ((W1.alloc (.cells #[.slice (some ⟨w.heap.size + 1, o, none⟩) (octs s).length c, .int .i64 0] 113)).alloc (.cells #[.int .i64 0, .string ⟨#[]⟩, .string ⟨#[]⟩, .string ⟨#[]⟩, .int .i64 0, .int .i64 0, .int .i64 0, .int .i64 0, .int .i64 0, .int .i64 0] 35)) (q + 1) 35 #[.int .i64 0, .string ⟨#[]⟩, .string ⟨#[]⟩, .string ⟨#[]⟩, .int .i64 0, .int .i64 0, .int .i64 0, .int .i64 0, .int .i64 0, .int .i64 0] := Blk.new' _ _ (by simp [hsz])
    have z5 : RS W1 (w.heap.size + 1) (.slice (some ⟨w.heap.size + 1, o, none⟩) (octs s).length c) (octs s) := by simpa using HR1.out
    have z6 := rs_gb z5 (gb_alloc (gb_alloc (World.grownBy.refl W1 none) (.cells #[.slice (some ⟨w.heap.size + 1, o, none⟩) (octs s).length c, .int .i64 0] 113)) (.cells #[.int .i64 0, .string ⟨#[]⟩, .string ⟨#[]⟩, .string ⟨#[]⟩, .int .i64 0, .int .i64 0, .int .i64 0, .int .i64 0, .int .i64 0, .int .i64 0] 35)) (by omega) (by simp)
    exact ⟨⟨_, z3, z6, by omega, by simp; omega⟩, z4, z2, ((((Below.refl _ w).alloc (Nat.le_refl _) _).trans (hb.mono (by simp))).alloc (by omega) _).alloc (by simp; omega) _, by omega, by omega, by omega, by omega, by omega, by omega⟩
  clear hq hz1 hcv HR1 HB1
  refine wp_loop_rounds 8 ?_
  rw [rounds_succ]
  go_wp2_with (go_at_call 47; refine (HN1.out q _ _ D0.cur).mono ?_; rintro e w1 ⟨rfl, hcc, hgg⟩; have E1 := D0.step hgg hcc; have jq := E1.jb.cell; have jf := E1.jb.frozen; clear hcc hgg)
  have D1 := E1.store 0 (.int .i64 n1)
  clear E1 jq jf D0
  rw [rounds_succ]
  go_wp2_with (go_at_call 47; refine (HN2.out q _ _ D1.cur).mono ?_; rintro e w2 ⟨rfl, hcc, hgg⟩; have E2 := D1.step hgg hcc; have jq := E2.jb.cell; have jf := E2.jb.frozen; clear hcc hgg)
  have D2 := E2.store 4 (.int .i64 n2)
  clear E2 jq jf D1
  rw [rounds_succ]
  go_wp2_with (go_at_call 47; refine (HN3.out q _ _ D2.cur).mono ?_; rintro e w3 ⟨rfl, hcc, hgg⟩; have E3 := D2.step hgg hcc; have jq := E3.jb.cell; have jf := E3.jb.frozen; clear hcc hgg)
  have D3 := E3.store 5 (.int .i64 n3)
  clear E3 jq jf D2
  rw [rounds_succ]
  go_wp2_with (go_at_call 47; refine (HN4.out q _ _ D3.cur).mono ?_; rintro e w4 ⟨rfl, hcc, hgg⟩; have E4 := D3.step hgg hcc; have jq := E4.jb.cell; have jf := E4.jb.frozen; clear hcc hgg)
  have D4 := E4.store 6 (.int .i64 n4)
  clear E4 jq jf D3
  rw [rounds_succ]
  go_wp2_with (go_at_call 47; refine (HN5.out q _ _ D4.cur).mono ?_; rintro e w5 ⟨rfl, hcc, hgg⟩; have E5 := D4.step hgg hcc; have jq := E5.jb.cell; have jf := E5.jb.frozen; clear hcc hgg)
  have D5 := E5.store 7 (.int .i64 n5)
  clear E5 jq jf D4
  rw [rounds_succ]
  go_wp2_with (go_at_call 47; refine (HN6.out q _ _ D5.cur).mono ?_; rintro e w6 ⟨rfl, hcc, hgg⟩; have E6 := D5.step hgg hcc; have jq := E6.jb.cell; have jf := E6.jb.frozen; clear hcc hgg)
  have D6 := E6.store 8 (.int .i64 n6)
  clear E6 jq jf D5
  rw [rounds_succ]
  go_wp2_with (go_at_call 47; refine (HN7.out q _ _ D6.cur).mono ?_; rintro e w7 ⟨rfl, hcc, hgg⟩; have E7 := D6.step hgg hcc; have jq := E7.jb.cell; have jf := E7.jb.frozen; clear hcc hgg)
  have D7 := E7.store 9 (.int .i64 n7)
  clear E7 jq jf D6
  rw [rounds_succ]
  go_wp2_with fail
  refine wp_loop_rounds 4 ?_
  rw [rounds_succ]
  go_wp2_with (go_at_call 48; refine (HN8.out q _ _ D7.cur).mono ?_; rintro e w8 ⟨rfl, hcc, hgg⟩; have E8 := D7.step hgg hcc; have jq := E8.jb.cell; have jf := E8.jb.frozen; clear hcc hgg)
  have D8 := E8.store 1 (.string s8)
  clear E8 jq jf D7
  rw [rounds_succ]
  go_wp2_with (go_at_call 48; refine (HN9.out q _ _ D8.cur).mono ?_; rintro e w9 ⟨rfl, hcc, hgg⟩; have E9 := D8.step hgg hcc; have jq := E9.jb.cell; have jf := E9.jb.frozen; clear hcc hgg)
  have D9 := E9.store 2 (.string s9)
  clear E9 jq jf D8
  rw [rounds_succ]
  go_wp2_with (go_at_call 48; refine (HN10.out q _ _ D9.cur).mono ?_; rintro e w10 ⟨rfl, hcc, hgg⟩; have E10 := D9.step hgg hcc; have jq := E10.jb.cell; have jf := E10.jb.frozen; clear hcc hgg)
  have D10 := E10.store 3 (.string s10)
  clear E10 jq jf D9
  clear i0 i1 i2 i3 i4 i5 i6 k0 k1 k2
  have D := D10
  clear D10
  obtain ⟨⟨v, cB, ⟨o2, c2, rfl, hc1, hc2, hc4⟩, hne, hlt⟩, J, R, HB, x1, x2, x3, x4, x5, x6⟩ := D
  have J' : Blk (w10.setCell ⟨q + 1, 3, none⟩ (.string s10)) (q + 1) 35 #[.int .i64 n1, .string s8, .string s9, .string s10, .int .i64 n2, .int .i64 n3, .int .i64 n4, .int .i64 n5, .int .i64 n6, .int .i64 n7] := by simpa using J
  have HC4 := Lib.hid hc4
  clear J hc4 HN1 HN2 HN3 HN4 HN5 HN6 HN7 HN8 HN9 HN10
  generalize w10.setCell ⟨q + 1, 3, none⟩ (.string s10) = w11 at *
  have Jq := J'.cell
  have cq := cB.cell
  have cf := cB.frozen
  rw [rounds_succ]
  go_wp2_with (first
    | (go_at_call 13; refine (HK.out _ HB).mono ?_; rintro e w13 ⟨rfl, hb13⟩; have c2 := cB.below hb13 cB.lt; have c2q := c2.cell; have c2f := c2.frozen; have r2 := R.below hb13 R.lt; have b2 := bl_trans HB (Nat.le_refl _) hb13; have j2 := J'.below hb13 J'.lt; have j2q := j2.cell; have r3 := r2.far (p := ⟨q, 1, none⟩) x3 (.int .i64 0); have b3 := b2.setCell (p := ⟨q, 1, none⟩) x5 (.int .i64 0); clear cq cf Jq hb13)
    | (refine wpList_store_row rfl 35 _ _ rfl _ _ rfl rfl _ _ r3 ?_ rfl ?_ ?_; (· exact jobSize); (· simp [Value.oneCell'])))
  exact bodyPost_ret (res_row_tmp rfl rfl (r3.row _) Tryd.underlying35 rfl jobSize) rfl ⟨rfl, by repeat' (first | (with_reducible exact Below.refl _ _) | (with_reducible assumption) | (with_reducible refine bl_alloc ?_ (Nat.le_refl _) _) | (with_reducible refine bl_drew ?_) | (with_reducible refine bl_drewN ?_ _) | (with_reducible refine bl_setRow ?_ (by first | (simp; done) | (simp; omega) | omega) _) | (with_reducible refine bl_setCell ?_ (by first | (simp; done) | (simp; omega) | omega) _) | (with_reducible refine bl_trans ?_ (Nat.le_refl _) (by assumption)))⟩
end Go.Proofs.YtaelddnkdklijaaDoor.Vd
