/- The walk of varint.Get. -/
import Derived.Test.YtaelddnkdklijaaDoorVa
set_option linter.unusedVariables false
set_option linter.unusedSimpArgs false
namespace Go.Proofs.YtaelddnkdklijaaDoor.Vb
open Go Go.RowKit Go.Shelf Go.Proofs Go.Proofs.YtaelddnkdklijaaDoor.Jw Go.Proofs.YtaelddnkdklijaaDoor.Vw Go.Proofs.YtaelddnkdklijaaDoor.Vp Go.Proofs.YtaelddnkdklijaaDoor.Va

/-- A slice of block g that reads as octets. -/
def RS (W : World) (g : Nat) (v : Value) (l : List Nat) : Prop :=
  ∃ o c, v = .slice (some ⟨g, o, none⟩) l.length c ∧ l.length ≤ c ∧ c ≤ 9223372036854775807 ∧ ∀ i x, l[i]? = some x → W.cell? ⟨g, o + i, none⟩ = some (.int .u8 (x : Nat))
theorem RS.below {W W' : World} {g B : Nat} {v : Value} {l : List Nat} (h : RS W g v l) (hb : Below B W W') (hg : g < B) : RS W' g v l := by
  obtain ⟨o, c, h1, h2, h3, h4⟩ := h
  exact ⟨o, c, h1, h2, h3, fun i x hx => (hb.cell (p := ⟨g, o + i, none⟩) hg).trans (h4 i x hx)⟩

theorem lead_val : ∀ b : Fin 256, 8 - Lib.bitLen (255 - b.val) = leadV b.val ∧ Lib.bitLen (255 - b.val) ≤ 8 := by decide +kernel
theorem xor_val : ∀ b : Fin 256, bits BinOp.xor IntKind.u8 (if IntKind.u8.signed = true then -1 else IntKind.u8.max) ((b.val : Nat) : Int) = ((255 - b.val : Nat) : Int) := by decide +kernel
theorem and_val : ∀ (b : Fin 256) (m : Fin 9), b.val &&& (255 / 2 ^ min (m.val + 1) 8) = b.val % 2 ^ (7 - m.val) := by decide +kernel

theorem lz_calls (b L : Nat) (hb : b < 256) (hL : leadV b = L) (W : World) : Calls Tryd.prog 112 #[.int .u8 ((255 - b : Nat) : Int)] W fun e w' => e = .returned (.int .i64 L) ∧ W = w' := by
  refine (Tryd.bits_LeadingZeros8 _ W (by omega) (by omega)).mono fun e w' ⟨h1, h2⟩ => ⟨?_, h2.symm⟩
  have hl := lead_val ⟨b, hb⟩
  simp only at hl
  rw [hL] at hl
  rw [h1, Int.toNat_natCast]
  exact ret_int (by omega)

theorem get_nil (g o c : Nat) (W : World) : Calls Tryd.prog 75 #[.slice (some ⟨g, o, none⟩) 0 c] W fun e w' => e = .returned (.tuple #[.int .u64 0, .int .i64 0, .int .i64 8]) ∧ Below W.heap.size W w' := by
  go_enter Tryd.func75, Tryd.ntmps75
  go_wp2_with fail
  go_ret3
  exact ⟨rfl, by repeat' (first | (with_reducible exact Below.refl _ _) | (with_reducible assumption) | (with_reducible refine bl_alloc ?_ (Nat.le_refl _) _) | (with_reducible refine bl_drew ?_) | (with_reducible refine bl_drewN ?_ _) | (with_reducible refine bl_setRow ?_ (by first | (simp; done) | (simp; omega) | omega) _) | (with_reducible refine bl_setCell ?_ (by first | (simp; done) | (simp; omega) | omega) _) | (with_reducible refine bl_trans ?_ (Nat.le_refl _) (by assumption)))⟩

set_option maxRecDepth 100000 in
theorem get_short (g o c n b L : Nat) (W : World) (hn : 1 ≤ n) (hc : n ≤ c) (hc2 : c ≤ 9223372036854775807) (hb : b < 256) (h0 : W.cell? ⟨g, o, none⟩ = some (.int .u8 b)) (hL : leadV b = L) (hs : n < L + 1) :
    Calls Tryd.prog 75 #[.slice (some ⟨g, o, none⟩) n c] W fun e w' => e = .returned (.tuple #[.int .u64 0, .int .i64 0, .int .i64 8]) ∧ Below W.heap.size W w' := by
  have hz : ((n : Int) == 0) = false := beq_eq_false_iff_ne.2 (by omega)
  have hx := xor_val ⟨b, hb⟩
  simp only at hx
  have hL8 : L ≤ 8 := by have := lead_back ⟨b, hb⟩; rw [← hL]; exact this.1
  have HZ := Lib.hid (lz_calls b L hb hL)
  clear hL
  go_enter Tryd.func75, Tryd.ntmps75
  go_wp2_with (go_at_call 112; refine (HZ.out _).mono ?_; rintro e w' ⟨rfl, rfl⟩)
  go_ret3
  exact ⟨rfl, by repeat' (first | (with_reducible exact Below.refl _ _) | (with_reducible assumption) | (with_reducible refine bl_alloc ?_ (Nat.le_refl _) _) | (with_reducible refine bl_drew ?_) | (with_reducible refine bl_drewN ?_ _) | (with_reducible refine bl_setRow ?_ (by first | (simp; done) | (simp; omega) | omega) _) | (with_reducible refine bl_setCell ?_ (by first | (simp; done) | (simp; omega) | omega) _) | (with_reducible refine bl_trans ?_ (Nat.le_refl _) (by assumption)))⟩

theorem fold_lt : ∀ (t : List Nat) (a : Nat), (∀ x ∈ t, x < 256) → foldV a t < (a + 1) * 256 ^ t.length
  | [], a, _ => by simp [foldV]
  | x :: t, a, h => by
    have ih := fold_lt t (256 * a + x) (fun y hy => h y (by simp [hy]))
    have hx := h x (by simp)
    simp only [foldV, List.length_cons, Nat.pow_succ]
    refine Nat.lt_of_lt_of_le ih ?_
    rw [Nat.mul_comm (256 ^ t.length) 256, ← Nat.mul_assoc]
    exact Nat.mul_le_mul_right _ (by omega)
theorem fold_snoc : ∀ (t : List Nat) (a x : Nat), foldV a (t ++ [x]) = 256 * foldV a t + x
  | [], _, _ => rfl
  | y :: t, a, x => by simp only [List.cons_append, foldV]; exact fold_snoc t _ x
theorem or_add (a x : Nat) (hx : x < 256) : 256 * a ||| x = 256 * a + x := by
  have := Nat.shiftLeft_add_eq_or_of_lt (i := 8) hx a
  rw [Nat.shiftLeft_eq] at this
  rw [Nat.mul_comm]
  exact this.symm

set_option maxRecDepth 100000 in
theorem get_walk (g o c n b L : Nat) (t : List Nat) (W : World) (hn : n = t.length + 1) (hc : n ≤ c) (hc2 : c ≤ 9223372036854775807) (hb : b < 256) (ht : ∀ x ∈ t, x < 256) (h0 : W.cell? ⟨g, o, none⟩ = some (.int .u8 b))
    (hcell : ∀ i x, t[i]? = some x → W.cell? ⟨g, o + 1 + i, none⟩ = some (.int .u8 (x : Nat))) (hL : leadV b = L) (hs : L + 1 ≤ n) (hc1 : ¬ c = 1) (rv rk : Nat) (re : Int)
    (hR : Hid ((if sizeV (foldV (b % 2 ^ (7 - L)) (t.take L)) = L + 1 then (foldV (b % 2 ^ (7 - L)) (t.take L), L + 1, (0 : Int)) else (0, 0, 4)) = (rv, rk, re))) :
    Calls Tryd.prog 75 #[.slice (some ⟨g, o, none⟩) n c] W fun e w' => e = .returned (.tuple #[.int .u64 rv, .int .i64 rk, .int .i64 re]) ∧ Below W.heap.size W w' := by
  have hz : ((n : Int) == 0) = false := beq_eq_false_iff_ne.2 (by omega)
  have hx := xor_val ⟨b, hb⟩
  simp only at hx
  have hk := lead_back ⟨b, hb⟩
  simp only [hL] at hk
  have hL8 : L ≤ 8 := hk.1
  have hand := and_val ⟨b, hb⟩ ⟨L, by omega⟩
  simp only at hand
  have HK := Lib.hid hk
  have HZ := Lib.hid (lz_calls b L hb hL)
  have HCL := Lib.hid hcell
  clear hL hk hcell
  go_enter Tryd.func75, Tryd.ntmps75
  go_wp2_with (go_at_call 112; refine (HZ.out _).mono ?_; rintro e w' ⟨rfl, rfl⟩)
  obtain ⟨K, hK⟩ : ∃ K : Nat, K = L + 1 := ⟨_, rfl⟩
  have e : (1 : Int) + (L : Int) = (K : Int) := by omega
  simp only [e]
  have K9 : K ≤ 9 := by omega
  clear e
  have q8 : 255 / 2 ^ min K 8 < 256 := Nat.lt_of_le_of_lt (Nat.div_le_self _ _) (by omega)
  have hsh : Op.shift .shr .u8 255 .i64 (K : Int) = pure (.int .u8 ((255 / 2 ^ min K 8 : Nat) : Int)) := by
    rw [shift_shr_any .u8 .i64 255 (K : Int) (by omega)]
    simp [IntKind.bits]
  rw [← hK] at hand
  have hq := u8_and_nat b (255 / 2 ^ min K 8) hb q8
  rw [hand] at hq
  generalize 255 / 2 ^ min K 8 = q at *
  clear hand
  have ha : b % 2 ^ (7 - L) < 256 := Nat.lt_of_le_of_lt (Nat.mod_le _ _) hb
  generalize hA : b % 2 ^ (7 - L) = a0 at *
  have HA := Lib.hid hA
  clear hA
  have HKL := Lib.hid hK
  clear hK
  go_quiet (fail)
  have K1 : 1 ≤ K := by have := HKL.out; omega
  have Kc : K ≤ c := by have := HKL.out; omega
  go_wp2_with fail
  go_loop [6, 33] (fun n6 i => ∃ j : Nat, j ≤ L ∧ i = .int .i64 j ∧ n6 = .int .u64 (foldV a0 (t.take j) : Nat)) (fun _ i => (L - intOf i).toNat)
  case atStart => exact ⟨0, by omega, rfl, rfl⟩
  case round =>
    obtain ⟨j, hj, rfl, rfl⟩ := hrel
    by_cases hlt : j < L
    · have hjt : j < t.length := by omega
      obtain ⟨x, hxe⟩ : ∃ x, t[j]? = some x := ⟨_, List.getElem?_eq_getElem hjt⟩
      have hcx := HCL.out j x hxe
      have hx8 := ht x (List.mem_of_getElem? hxe)
      have hfl := fold_lt (t.take j) a0 (fun x hx => ht x (List.mem_of_mem_take hx))
      have hfs := fold_snoc (t.take j) a0 x
      have hts : t.take (j + 1) = t.take j ++ [x] := by
        rw [List.take_add_one, hxe]
        rfl
      have hv : foldV a0 (t.take j) < 72057594037927936 := by
        have hl : (t.take j).length = j := by simp; omega
        rw [hl] at hfl
        refine Nat.lt_of_lt_of_le hfl ?_
        have h1 := HK.out.2.2.2
        obtain ⟨M, rfl⟩ : ∃ M, L = M + 1 := ⟨L - 1, by omega⟩
        have h2 : (a0 + 1) * 256 ^ j ≤ (a0 + 1) * 256 ^ M := Nat.mul_le_mul_left _ (Nat.pow_le_pow_right (by omega) (by omega))
        rw [Nat.pow_succ, ← Nat.mul_assoc] at h1
        omega
      rw [← hts] at hfs
      have HFS := Lib.hid hfs
      clear hfs hts hfl
      generalize foldV a0 (t.take j) = v at *
      clear hxe
      have hor := or_add v x hx8
      have hKj : (j : Int) < (K - 1 : Nat) := by have := HKL.out; omega
      go_wp2_with fail
      go_round
      case rel =>
        refine ⟨j + 1, by omega, by go_num, ?_⟩
        have e1 : (v : Int) * 256 = ((256 * v : Nat) : Int) := by omega
        have e2 : IntKind.u64.wrap (x : Int) = ((x : Nat) : Int) := by rw [IntKind.wrap_u64]; omega
        try rw [e1]
        try rw [e2]
        rw [ bits_or_u64_nat _ _ (by omega) (by omega), hor, HFS.out]
      case measure => simp [intOf]; omega
    · have hj2 : j = L := by omega
      subst hj2
      have hKj : ¬ (j : Int) < (K - 1 : Nat) := by have := HKL.out; omega
      have hlim : foldV a0 (t.take j) < 18446744073709551616 := by
        have hfl := fold_lt (t.take j) a0 (fun x hx => ht x (List.mem_of_mem_take hx))
        have hl : (t.take j).length = j := by simp; omega
        rw [hl] at hfl
        have h1 := HK.out.2.2.2
        omega
      generalize foldV a0 (t.take j) = v at *
      have HS := Lib.hid (fun W => size_calls v W hlim)
      have hr := hR.out
      clear hR
      by_cases hsv : sizeV v = j + 1
      · rw [if_pos hsv] at hr
        simp only [Prod.mk.injEq] at hr
        obtain ⟨rfl, rfl, rfl⟩ := hr
        have hb1 : ((sizeV v : Int) != (K : Int)) = false := by have := HKL.out; simp; omega
        clear hsv
        go_wp2_with (go_at_call 73; refine (HS.out _).mono ?_; rintro e w' ⟨rfl, rfl⟩)
        go_ret3
        have e1 : (K : Int) = ((j + 1 : Nat) : Int) := by have := HKL.out; omega
        exact ⟨by rw [e1]; rfl, by repeat' (first | (with_reducible exact Below.refl _ _) | (with_reducible assumption) | (with_reducible refine bl_alloc ?_ (Nat.le_refl _) _) | (with_reducible refine bl_drew ?_) | (with_reducible refine bl_drewN ?_ _) | (with_reducible refine bl_setRow ?_ (by first | (simp; done) | (simp; omega) | omega) _) | (with_reducible refine bl_setCell ?_ (by first | (simp; done) | (simp; omega) | omega) _) | (with_reducible refine bl_trans ?_ (Nat.le_refl _) (by assumption)))⟩
      · rw [if_neg hsv] at hr
        simp only [Prod.mk.injEq] at hr
        obtain ⟨rfl, rfl, rfl⟩ := hr
        have hb1 : ((sizeV v : Int) != (K : Int)) = true := by have := HKL.out; simp; omega
        clear hsv
        go_wp2_with (go_at_call 73; refine (HS.out _).mono ?_; rintro e w' ⟨rfl, rfl⟩)
        go_ret3
        exact ⟨rfl, by repeat' (first | (with_reducible exact Below.refl _ _) | (with_reducible assumption) | (with_reducible refine bl_alloc ?_ (Nat.le_refl _) _) | (with_reducible refine bl_drew ?_) | (with_reducible refine bl_drewN ?_ _) | (with_reducible refine bl_setRow ?_ (by first | (simp; done) | (simp; omega) | omega) _) | (with_reducible refine bl_setCell ?_ (by first | (simp; done) | (simp; omega) | omega) _) | (with_reducible refine bl_trans ?_ (Nat.le_refl _) (by assumption)))⟩

set_option maxRecDepth 100000 in
theorem get_tiny (g o b : Nat) (W : World) (hb : b < 128) (h0 : W.cell? ⟨g, o, none⟩ = some (.int .u8 b)) :
    Calls Tryd.prog 75 #[.slice (some ⟨g, o, none⟩) 1 1] W fun e w' => e = .returned (.tuple #[.int .u64 b, .int .i64 1, .int .i64 0]) ∧ Below W.heap.size W w' := by
  have hL : leadV b = 0 := by unfold leadV; rw [if_pos hb]
  have hx := xor_val ⟨b, by omega⟩
  simp only at hx
  have HZ := Lib.hid (lz_calls b 0 (by omega) hL)
  have hand := and_val ⟨b, by omega⟩ ⟨0, by omega⟩
  simp only at hand
  have hq := u8_and_nat b 127 (by omega) (by omega)
  have e7 : b &&& 127 = b := by
    have h7 : b &&& 127 = b % 128 := by simpa using hand
    rw [h7]; omega
  rw [e7] at hq
  have hq' : bits BinOp.and .u8 (b : Int) 127 = (b : Int) := hq
  have HS := Lib.hid (fun W => size_calls b W (by omega))
  have hs1 : sizeV b = 1 := by unfold sizeV; rw [if_pos hb]
  rw [hs1] at HS
  clear hL hand hq e7 hs1
  go_enter Tryd.func75, Tryd.ntmps75
  go_wp2_with (first
    | (go_at_call 112; refine (HZ.out _).mono ?_; rintro e w' ⟨rfl, rfl⟩))
  go_quiet (fail)
  go_wp2_with fail
  refine wp_loop_rounds 1 ?_
  rw [rounds_succ]
  go_wp2_with (go_at_call 73; refine (HS.out _).mono ?_; rintro e w' ⟨rfl, rfl⟩)
  go_ret3
  exact ⟨rfl, by repeat' (first | (with_reducible exact Below.refl _ _) | (with_reducible assumption) | (with_reducible refine bl_alloc ?_ (Nat.le_refl _) _) | (with_reducible refine bl_drew ?_) | (with_reducible refine bl_drewN ?_ _) | (with_reducible refine bl_setRow ?_ (by first | (simp; done) | (simp; omega) | omega) _) | (with_reducible refine bl_setCell ?_ (by first | (simp; done) | (simp; omega) | omega) _) | (with_reducible refine bl_trans ?_ (Nat.le_refl _) (by assumption)))⟩

theorem get_calls (g : Nat) (v : Value) (l : List Nat) (W : World) (hl : ∀ x ∈ l, x < 256) (hR : RS W g v l) :
    Calls Tryd.prog 75 #[v] W fun e w' => e = .returned (.tuple #[.int .u64 (getV l).1, .int .i64 (getV l).2.1, .int .i64 (getV l).2.2]) ∧ Below W.heap.size W w' := by
  obtain ⟨o, c, rfl, hc, hc2, hcell⟩ := hR
  match l, hl, hc, hcell with
  | [], _, _, _ => exact get_nil g o c W
  | b :: t, hl, hc, hcell =>
    have hb := hl b (by simp)
    have ht : ∀ x ∈ t, x < 256 := fun x hx => hl x (by simp [hx])
    have h0 := hcell 0 b rfl
    have h1 : ∀ i x, t[i]? = some x → W.cell? ⟨g, o + 1 + i, none⟩ = some (.int .u8 (x : Nat)) := fun i x hx => by
      have := hcell (i + 1) x (by simpa using hx)
      rw [show o + (i + 1) = o + 1 + i from by omega] at this
      exact this
    simp only [List.length_cons, Nat.add_zero] at *
    unfold getV
    by_cases hs : t.length < leadV b
    · simp only [if_pos hs]
      exact get_short g o c (t.length + 1) b (leadV b) W (by omega) hc hc2 hb h0 rfl (by omega)
    · simp only [if_neg hs]
      by_cases hc1 : c = 1
      · subst hc1
        obtain rfl : t = [] := List.eq_nil_of_length_eq_zero (by omega)
        have hz : leadV b = 0 := by simp at hs; omega
        have hb7 : b < 128 := by
          unfold leadV at hz
          split at hz
          · assumption
          · repeat' split at hz
            all_goals omega
        rw [hz]
        have hm : b % 128 = b := Nat.mod_eq_of_lt hb7
        have hs1 : sizeV b = 1 := by unfold sizeV; rw [if_pos hb7]
        simp only [Nat.sub_zero, Nat.reducePow, List.take_nil, foldV, hm, hs1, if_true, Nat.zero_add]
        exact get_tiny g o b W hb7 h0
      · generalize hR : (if sizeV (foldV (b % 2 ^ (7 - leadV b)) (t.take (leadV b))) = leadV b + 1 then (foldV (b % 2 ^ (7 - leadV b)) (t.take (leadV b)), leadV b + 1, (0 : Int)) else (0, 0, 4)) = R
        obtain ⟨rv, rk, re⟩ := R
        exact get_walk g o c (t.length + 1) b (leadV b) t W rfl hc hc2 hb ht h0 h1 rfl (by omega) hc1 rv rk re (Lib.hid hR)
end Go.Proofs.YtaelddnkdklijaaDoor.Vb
