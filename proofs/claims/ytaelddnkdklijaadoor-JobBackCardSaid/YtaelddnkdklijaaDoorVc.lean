/- The walks of job's cursor. -/
import Derived.Test.YtaelddnkdklijaaDoorVb
import Derived.StillTailTactics
set_option linter.unusedVariables false
set_option linter.unusedSimpArgs false
namespace Go.Proofs.YtaelddnkdklijaaDoor.Vc
open Go Go.RowKit Go.Shelf Go.Proofs Go.Proofs.YtaelddnkdklijaaDoor.Jw Go.Proofs.YtaelddnkdklijaaDoor.Vw Go.Proofs.YtaelddnkdklijaaDoor.Vp Go.Proofs.YtaelddnkdklijaaDoor.Va Go.Proofs.YtaelddnkdklijaaDoor.Vb

theorem gb_alloc {W U : World} {r : Option Nat} (h : W.grownBy U r) (o : Obj) : W.grownBy (U.alloc o) r := h.trans (World.grownBy_alloc U o r)
theorem gb_drew {W U : World} {r : Option Nat} (h : W.grownBy U r) : W.grownBy U.drew r := ⟨h.os, h.tape, h.output, h.size, h.block⟩
theorem gb_drewN {W U : World} {r : Option Nat} (h : W.grownBy U r) (n : Nat) : W.grownBy (U.drewN n) r := ⟨h.os, h.tape, h.output, h.size, h.block⟩
theorem gb_set {W U : World} {r : Nat} (h : W.grownBy U (some r)) (i : Nat) (u : Value) : W.grownBy (U.setCell ⟨r, i, none⟩ u) (some r) :=
  ⟨h.os, h.tape, h.output, by simpa using h.size, fun k hk hne => (Below.heap_setCell U _ u k (fun e => hne (by rw [e]))).trans (h.block k hk hne)⟩
theorem gb_below {W U V : World} {r : Option Nat} (h : W.grownBy U r) (hb : Below U.heap.size U V) : W.grownBy V r :=
  ⟨hb.os.trans h.os, hb.tape.trans h.tape, hb.output.trans h.output, Nat.le_trans h.size hb.size, fun k hk hne => (hb.block k (Nat.lt_of_lt_of_le hk h.size)).trans (h.block k hk hne)⟩
theorem blk_gb {W U : World} {r : Option Nat} {g : Nat} {t : TypeId} {cs : Array Value} (h : Blk W g t cs) (hg : W.grownBy U r) (hne : some g ≠ r) : Blk U g t cs := (hg.block g h.lt hne).trans h
theorem rs_gb {W U : World} {r : Option Nat} {g : Nat} {v : Value} {l : List Nat} (h : RS W g v l) (hg : W.grownBy U r) (hlt : g < W.heap.size) (hne : some g ≠ r) : RS U g v l := by
  obtain ⟨o, c, h1, h2, h3, h4⟩ := h
  exact ⟨o, c, h1, h2, h3, fun i x hx => (hg.cell_far ⟨g, o + i, none⟩ hlt hne).trans (h4 i x hx)⟩

def numF (most : Nat) (code : Int) (l : List Nat) (err : Int) : Nat × List Nat × Int :=
  if err ≠ 0 then (0, l, err) else if (getV l).2.2 ≠ 0 then (0, l, (getV l).2.2) else if most < (getV l).1 then (0, l, code) else ((getV l).1, l.drop (getV l).2.1, 0)

/-- A cursor in block h: what is left, and its error. -/
def Cur (W : World) (h g : Nat) (l : List Nat) (err : Int) : Prop := ∃ v, Blk W h 113 #[v, .int .i64 err] ∧ RS W g v l ∧ g ≠ h ∧ g < W.heap.size
theorem Cur.gb {W U : World} {r : Option Nat} {h g : Nat} {l : List Nat} {err : Int} (c : Cur W h g l err) (hg : W.grownBy U r) (h1 : some h ≠ r) (h2 : some g ≠ r) : Cur U h g l err := by
  obtain ⟨v, a, b, d, e⟩ := c
  exact ⟨v, blk_gb a hg h1, rs_gb b hg e h2, d, Nat.lt_of_lt_of_le e hg.size⟩

theorem number_err (q g most : Nat) (code err : Int) (l : List Nat) (W : World) (hc : Cur W q g l err) (he : (err != 0) = true) : Calls Tryd.prog 47 #[.pointer (some ⟨q, 0, none⟩), .int .i64 most, .int .i64 code] W
    fun e w' => e = .returned (.int .i64 0) ∧ Cur w' q g l err ∧ W.grownBy w' (some q) := by
  obtain ⟨v, hB, hR, hne, hlt⟩ := hc
  have hq := hB.cell
  go_enter Tryd.func47, Tryd.ntmps47
  go_wp2_with fail
  go_ret
  exact ⟨rfl, ⟨v, hB, hR, hne, hlt⟩, World.grownBy.refl _ _⟩

theorem cur_err {w w1 : World} {q g : Nat} {v : Value} {l : List Nat} (e : Int) (c1 : Blk w1 q 113 #[v, .int .i64 0]) (hR : RS w1 g v l) (hne : g ≠ q) (hlt : g < w1.heap.size) (hg : w.grownBy w1 (some q)) :
    Cur (w1.setCell ⟨q, 1, none⟩ (.int .i64 e)) q g l e ∧ w.grownBy (w1.setCell ⟨q, 1, none⟩ (.int .i64 e)) (some q) := by
  have h2 : w1.grownBy (w1.setCell ⟨q, 1, none⟩ (.int .i64 e)) (some q) := gb_set (World.grownBy.refl _ _) 1 _
  exact ⟨⟨v, c1.setTo rfl, rs_gb hR h2 hlt (by simpa using hne), hne, Nat.lt_of_lt_of_le hlt h2.size⟩, hg.trans h2⟩

theorem cur_ok {w w1 : World} {q g : Nat} {v v' : Value} {l : List Nat} (c1 : Blk w1 q 113 #[v, .int .i64 0]) (hR : RS w1 g v' l) (hne : g ≠ q) (hlt : g < w1.heap.size) (hg : w.grownBy w1 (some q)) :
    Cur (w1.setCell ⟨q, 0, none⟩ v') q g l 0 ∧ w.grownBy (w1.setCell ⟨q, 0, none⟩ v') (some q) := by
  have h2 : w1.grownBy (w1.setCell ⟨q, 0, none⟩ v') (some q) := gb_set (World.grownBy.refl _ _) 0 _
  exact ⟨⟨v', c1.setTo rfl, rs_gb hR h2 hlt (by simpa using hne), hne, Nat.lt_of_lt_of_le hlt h2.size⟩, hg.trans h2⟩

theorem rs_cut {W : World} {g o c n k : Nat} {l : List Nat} (h : RS W g (.slice (some ⟨g, o, none⟩) n c) l) (hk : k ≤ n) :
    RS W g (.slice (some (if c = k then ⟨g, o, none⟩ else ⟨g, o + k, none⟩)) (n - k) (c - k)) (l.drop k) := by
  obtain ⟨o', c', hv, hc, hc2, h4⟩ := h
  simp only [Value.slice.injEq, Option.some.injEq, Addr.mk.injEq, true_and, and_true] at hv
  obtain ⟨rfl, hn, rfl⟩ := hv
  subst hn
  by_cases e : c = k
  · rw [if_pos e]
    exact ⟨o, c - k, by simp, by simp; omega, by omega, fun i x hx => by
      rw [List.drop_of_length_le (by omega)] at hx
      simp at hx⟩
  · rw [if_neg e]
    exact ⟨o + k, c - k, by simp, by simp; omega, by omega, fun i x hx => by
      rw [List.getElem?_drop] at hx
      have := h4 (k + i) x hx
      rw [← Nat.add_assoc] at this
      exact this⟩

set_option maxRecDepth 100000 in
set_option maxHeartbeats 1000000 in
theorem number_get (q g most : Nat) (code : Int) (l : List Nat) (W : World) (hl : ∀ x ∈ l, x < 256) (hc : Cur W q g l 0) (hm : most < 9223372036854775807) : Calls Tryd.prog 47 #[.pointer (some ⟨q, 0, none⟩), .int .i64 most, .int .i64 code] W
    fun e w' => e = .returned (.int .i64 (numF most code l 0).1) ∧ Cur w' q g (numF most code l 0).2.1 (numF most code l 0).2.2 ∧ W.grownBy w' (some q) := by
  obtain ⟨v, hB, hR, hne, hlt⟩ := hc
  have hq := hB.cell
  have hlt2 := hB.lt
  have hG := fun U (hU : RS U g v l) => get_calls g v l U hl hU
  have HG := Lib.hid hG
  have hp := get_put l
  clear hG
  unfold numF
  generalize getV l = r at *
  obtain ⟨m, k, e⟩ := r
  simp only at *
  by_cases he : e = 0
  · subst he
    obtain ⟨p1, p2, p3, p4, p5, p6⟩ := hp m k hl rfl
    have HP := Lib.hid (And.intro p1 (And.intro p2 (And.intro p3 (And.intro p4 (And.intro p5 p6)))))
    clear p1 p3 p4 p5 hp
    have HR := Lib.hid hR
    have hz : IntKind.u64.wrap (most : Int) = (most : Int) := by rw [IntKind.wrap_u64]; omega
    by_cases hm2 : most < m
    · have hm3 : (most : Int) < (m : Int) := by omega
      simp only [ne_eq, not_true_eq_false, if_false, if_pos hm2]
      clear hR hm2
      go_enter Tryd.func47, Tryd.ntmps47
      go_wp2_with (go_at_call 75; refine (HG.out _ HR.out).mono ?_; rintro e' w1 ⟨rfl, hb1⟩; have c1 := hB.below hb1 hlt2; have c1q := c1.cell; have c1f := c1.frozen; have hb1' := Lib.hid hb1; clear hb1)
      go_ret
      exact ⟨rfl, cur_err code c1 (HR.out.below hb1'.out hlt) hne (Nat.lt_of_lt_of_le hlt hb1'.out.size) (gb_below (World.grownBy.refl _ _) hb1'.out)⟩
    · have hm3 : ¬ (most : Int) < (m : Int) := by omega
      simp only [ne_eq, not_true_eq_false, if_false, if_neg hm2]
      obtain ⟨o, c, rfl, hc, hc2, h4⟩ := hR
      have H4 := Lib.hid h4
      have hm4 : (m : Int) ≤ 9223372036854775807 := by omega
      clear h4 hm2
      go_enter Tryd.func47, Tryd.ntmps47
      go_wp2_with (go_at_call 75; refine (HG.out _ HR.out).mono ?_; rintro e' w1 ⟨rfl, hb1⟩; have c1 := hB.below hb1 hlt2; have c1q := c1.cell; have c1f := c1.frozen; have hb1' := Lib.hid hb1; clear hb1)
      have hw : IntKind.i64.wrap (m : Int) = (m : Int) := by rw [IntKind.wrap_i64]; omega
      have hkl : k ≤ l.length := p2
      have hkc : k ≤ c := Nat.le_trans p2 hc
      by_cases hck : c = k
      all_goals
        have c1' : Blk w1.drew q 113 #[.slice (some ⟨g, o, none⟩) l.length c, .int .i64 0] := c1
        have hb1'' : Below W.heap.size W w1.drew := bl_drew hb1'.out
        have HB := Lib.hid hb1''
        clear hb1''
        go_still_tail 12, (by kernel_rfl)
        change wpList _ _ _ _ _ w1.drew
        generalize w1.drew = w2 at *
        have c2f := c1'.frozen
        have c2q := c1'.cell
        go_wp2_with fail
        go_ret
        have hR2 := rs_cut (HR.out.below HB.out hlt) hkl
        simp only [hck, if_true, if_false, Nat.sub_self] at hR2
        exact ⟨rfl, cur_ok c1' hR2 hne (Nat.lt_of_lt_of_le hlt HB.out.size) (gb_below (World.grownBy.refl _ _) HB.out)⟩
  · have heb : (e != 0) = true := by simpa using he
    have HR := Lib.hid hR
    simp only [ne_eq, he, not_true_eq_false, not_false_eq_true, if_false, if_true]
    clear hR hp
    go_enter Tryd.func47, Tryd.ntmps47
    go_wp2_with (go_at_call 75; refine (HG.out _ HR.out).mono ?_; rintro e' w1 ⟨rfl, hb1⟩; have c1 := hB.below hb1 hlt2; have c1q := c1.cell; have c1f := c1.frozen; have hb1' := Lib.hid hb1; clear hb1)
    go_ret
    exact ⟨rfl, cur_err e c1 (HR.out.below hb1'.out hlt) hne (Nat.lt_of_lt_of_le hlt hb1'.out.size) (gb_below (World.grownBy.refl _ _) hb1'.out)⟩

theorem number_calls (q g most : Nat) (code err : Int) (l : List Nat) (W : World) (hl : ∀ x ∈ l, x < 256) (hc : Cur W q g l err) (hm : most < 9223372036854775807) : Calls Tryd.prog 47 #[.pointer (some ⟨q, 0, none⟩), .int .i64 most, .int .i64 code] W
    fun e w' => e = .returned (.int .i64 (numF most code l err).1) ∧ Cur w' q g (numF most code l err).2.1 (numF most code l err).2.2 ∧ W.grownBy w' (some q) := by
  by_cases he : err = 0
  · subst he
    exact number_get q g most code l W hl hc hm
  · unfold numF
    simp only [ne_eq, he, not_false_eq_true, if_true]
    exact number_err q g most code err l W hc (by simpa using he)

theorem numF_mem (most : Nat) (code : Int) (l : List Nat) (err : Int) (h : ∀ x ∈ l, x < 256) : ∀ x ∈ (numF most code l err).2.1, x < 256 := by
  unfold numF
  repeat' split
  all_goals first | exact h | exact fun x hx => h x (List.mem_of_mem_drop hx)

/-- Octets as a string; a string's octets. -/
def strOf (l : List Nat) : ByteArray := ⟨(l.map UInt8.ofNat).toArray⟩
def octs (s : ByteArray) : List Nat := s.data.toList.map UInt8.toNat
theorem octs_lt (s : ByteArray) : ∀ x ∈ octs s, x < 256 := by
  intro x hx
  obtain ⟨y, _, rfl⟩ := List.mem_map.1 hx
  exact y.toNat_lt
theorem strOf_octs (s : ByteArray) : strOf (octs s) = s := by
  unfold strOf octs
  rw [List.map_map]
  have : (UInt8.ofNat ∘ UInt8.toNat) = id := by funext x; simp
  rw [this, List.map_id]
theorem octs_strOf (l : List Nat) (h : ∀ x ∈ l, x < 256) : octs (strOf l) = l := by
  unfold strOf octs
  simp only [List.map_map]
  conv => rhs; rw [← List.map_id l]
  refine List.map_congr_left fun x hx => ?_
  have := h x hx
  simp [Nat.mod_eq_of_lt this]

def textF (l : List Nat) (err : Int) : List Nat × List Nat × Int :=
  if (numF 256 5 l err).2.2 = 0 then
    if (numF 256 5 l err).2.1.length < (numF 256 5 l err).1 then ([], (numF 256 5 l err).2.1, 8)
    else ((numF 256 5 l err).2.1.take (numF 256 5 l err).1, (numF 256 5 l err).2.1.drop (numF 256 5 l err).1, 0)
  else ([], (numF 256 5 l err).2.1, (numF 256 5 l err).2.2)

theorem rs_string {W : World} {g o c n : Nat} {l : List Nat} (hl : ∀ x ∈ l, x < 256) (h4 : ∀ i x, l[i]? = some x → W.cell? ⟨g, o + i, none⟩ = some (.int .u8 (x : Nat))) (hn : n ≤ l.length) :
    (convert 107 9 (.slice (some ⟨g, o, none⟩) n c)).run Tryd.prog W = .ok (.string (strOf (l.take n))) W := by
  have hlen : ((l.take n).map UInt8.ofNat).length = n := by simp; omega
  have h := run_convert_bytes_back (P := Tryd.prog) W 107 9 5 ⟨g, o, none⟩ c ((l.take n).map UInt8.ofNat) Tryd.underlying107 Tryd.underlying5 Tryd.underlying9 (fun j hj => by
    have hj2 : j < n := by rw [hlen] at hj; exact hj
    have e : (⟨g, o, none⟩ : Addr).add j = ⟨g, o + j, none⟩ := by
      unfold Addr.add; split <;> simp_all
    have hjl : j < l.length := by omega
    have hx := hl l[j] (List.getElem_mem hjl)
    rw [e, h4 j l[j] (List.getElem?_eq_getElem hjl)]
    simp [Nat.mod_eq_of_lt hx])
  rw [hlen] at h
  exact h

set_option maxRecDepth 100000 in
set_option maxHeartbeats 1000000 in
theorem text_calls (q g : Nat) (err : Int) (l : List Nat) (W : World) (hl : ∀ x ∈ l, x < 256) (hc : Cur W q g l err) (hsz : l.length < 9223372036854775807) : Calls Tryd.prog 48 #[.pointer (some ⟨q, 0, none⟩)] W
    fun e w' => e = .returned (.string (strOf (textF l err).1)) ∧ Cur w' q g (textF l err).2.1 (textF l err).2.2 ∧ W.grownBy w' (some q) := by
  have hN := number_calls q g 256 5 err l W hl hc (by omega)
  have hm := numF_mem 256 5 l err hl
  unfold textF
  generalize numF 256 5 l err = r at *
  obtain ⟨n, l1, e1⟩ := r
  simp only at *
  by_cases he : e1 = 0
  · subst he
    simp only [if_true]
    by_cases hn : l1.length < n
    · have hn2 : (l1.length : Int) < (n : Int) := by omega
      rw [if_pos hn]
      have HN := Lib.hid hN
      clear hN hn hc
      go_enter Tryd.func48, Tryd.ntmps48
      go_wp2_with (go_at_call 47; refine HN.out.mono ?_; rintro e w1 ⟨rfl, ⟨v1, hB1, ⟨o, c, rfl, hc1, hc2, h4⟩, hne, hlt⟩, hg1⟩; have c1q := hB1.cell; have c1f := hB1.frozen; have H4 := Lib.hid h4; have hg1' := Lib.hid hg1; clear h4 hg1)
      go_ret
      exact ⟨rfl, cur_err 8 hB1 ⟨o, c, rfl, hc1, hc2, H4.out⟩ hne hlt hg1'.out⟩
    · have hn2 : ¬ (l1.length : Int) < (n : Int) := by omega
      have hn3 : n ≤ l1.length := by omega
      rw [if_neg hn]
      have HN := Lib.hid hN
      clear hN hn hc
      go_enter Tryd.func48, Tryd.ntmps48
      go_wp2_with (go_at_call 47; refine HN.out.mono ?_; rintro e w1 ⟨rfl, ⟨v1, hB1, ⟨o, c, rfl, hc1, hc2, h4⟩, hne, hlt⟩, hg1⟩; have c1q := hB1.cell; have c1f := hB1.frozen; have hcv := fun c' => rs_string (c := c') hm h4 hn3; have H4 := Lib.hid h4; have hg1' := Lib.hid hg1; clear h4 hg1)
      all_goals
        go_ret
        have hR2 := rs_cut (show RS w1 g (.slice (some ⟨g, o, none⟩) l1.length c) l1 from ⟨o, c, rfl, hc1, hc2, H4.out⟩) hn3
        by_cases hcn : c = n
        · first
            | (exfalso; exact absurd hcn (by assumption))
            | (rw [if_pos hcn, hcn, Nat.sub_self] at hR2
               exact ⟨rfl, cur_ok hB1 hR2 hne hlt hg1'.out⟩)
        · first
            | (exfalso; exact absurd (by assumption) hcn)
            | (rw [if_neg hcn] at hR2
               exact ⟨rfl, cur_ok hB1 hR2 hne hlt hg1'.out⟩)
  · simp only [if_neg he]
    have hb : (e1 == 0) = false := by simpa using he
    have hb2 : (e1 != 0) = true := by simpa using he
    have HN := Lib.hid hN
    clear hN hc
    go_enter Tryd.func48, Tryd.ntmps48
    go_wp2_with (go_at_call 47; refine HN.out.mono ?_; rintro e w1 ⟨rfl, ⟨v1, hB1, hR1, hne, hlt⟩, hg1⟩; have c1q := hB1.cell; have c1f := hB1.frozen; have H4 := Lib.hid hR1; have hg1' := Lib.hid hg1; clear hR1 hg1)
    go_ret
    exact ⟨rfl, ⟨v1, hB1, H4.out, hne, hlt⟩, hg1'.out⟩
end Go.Proofs.YtaelddnkdklijaaDoor.Vc
