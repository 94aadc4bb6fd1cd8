/- The walks of package varint. -/
import Derived.Test.YtaelddnkdklijaaDoorVw
import Derived.Test.YtaelddnkdklijaaDoorVp
import Derived.Test.YtaelddnkdklijaaDoorShelh
import Derived.StillTailTactics
import Derived.Laws.BitsAllLaws
set_option linter.unusedVariables false
set_option linter.unusedSimpArgs false
namespace Go.Proofs.YtaelddnkdklijaaDoor.Va
open Go Go.RowKit Go.Shelf Go.Proofs Go.Proofs.YtaelddnkdklijaaDoor.Jw Go.Proofs.YtaelddnkdklijaaDoor.Vw Go.Proofs.YtaelddnkdklijaaDoor.Vp

theorem len_lt (n m : Nat) (h : n < 18446744073709551616) (hm : m ≤ 64) : (Lib.bitLen n ≤ m ↔ n < 2 ^ m) := by
  have h64 : n < 2 ^ 64 := h
  constructor
  · intro hl
    by_cases h0 : n = 0
    · subst h0; exact Nat.two_pow_pos m
    · have hb := Lib.bitLenAux_bounds 64 n h64 (by omega)
      exact Nat.lt_of_lt_of_le hb.2.2 (Nat.pow_le_pow_right (by omega) hl)
  · intro hl
    exact Lib.bitLen_le n m hm hl

theorem size_val (n : Nat) (h : n < 18446744073709551616) : min 9 (max 1 ((((Lib.bitLen n : Nat) : Int) + 6) / 7)) = ((sizeV n : Nat) : Int) := by
  have k1 := len_lt n 7 h (by omega)
  have k2 := len_lt n 14 h (by omega)
  have k3 := len_lt n 21 h (by omega)
  have k4 := len_lt n 28 h (by omega)
  have k5 := len_lt n 35 h (by omega)
  have k6 := len_lt n 42 h (by omega)
  have k7 := len_lt n 49 h (by omega)
  have k8 := len_lt n 56 h (by omega)
  have k9 := (len_lt n 64 h (by omega)).2 h
  simp only [Nat.reducePow] at k1 k2 k3 k4 k5 k6 k7 k8
  generalize Lib.bitLen n = L at *
  unfold sizeV
  repeat' split
  all_goals omega

theorem size_calls (n : Nat) (w : World) (h : n < 18446744073709551616) : Calls Tryd.prog 73 #[.int .u64 n] w fun e w' => e = .returned (.int .i64 (sizeV n)) ∧ w = w' := by
  have hl : Lib.bitLen n ≤ 64 := (len_lt n 64 h (by omega)).2 h
  have HV := Lib.hid (size_val n h)
  have HL := Lib.hid (fun W => Tryd.bits_Len64 (n : Int) W (by omega) (by omega))
  go_enter Tryd.func73, Tryd.ntmps73
  go_wp2_with (go_at_call 111; refine (HL.out _).mono ?_; rintro e w' ⟨rfl, rfl⟩)
  go_ret
  exact ⟨ret_int HV.out, rfl⟩

theorem size_19 (n : Nat) : sizeV n = 1 ∨ sizeV n = 2 ∨ sizeV n = 3 ∨ sizeV n = 4 ∨ sizeV n = 5 ∨ sizeV n = 6 ∨ sizeV n = 7 ∨ sizeV n = 8 ∨ sizeV n = 9 := by
  unfold sizeV
  repeat' split
  all_goals simp

theorem ivs_eq {a b : Int} {l l' : List Value} (h : a = b) (h' : l = l') : Value.int .u8 a :: l = Value.int .u8 b :: l' := by rw [h, h']
theorem own_base {w : World} {B B' : Nat} {e : TypeId} {size n : Nat} {v : Value} {xs : List Value} (h : w.ownsRow B e size v n xs) (hB : B' ≤ B) : w.ownsRow B' e size v n xs := by
  refine ⟨h.1, ?_⟩
  rcases h.2 with h1 | ⟨g, cap, cur, h1, h2, h3⟩
  · exact .inl h1
  · exact .inr ⟨g, cap, cur, h1, Nat.le_trans hB h2, h3⟩
theorem or_mask : ∀ (m : Fin 9) (y : Fin 128), y.val < 2 ^ (7 - m.val) → y.val ||| maskV (m.val + 1) = y.val + maskV (m.val + 1) := by decide +kernel
theorem or_put (a m : Nat) (hm : m < 9) (ha : a < 2 ^ (7 - m)) : bits BinOp.or .u8 (a : Int) ((maskV (m + 1) : Nat) : Int) = ((a + maskV (m + 1) : Nat) : Int) := by
  have h1 : 2 ^ (7 - m) ≤ 128 := Nat.pow_le_pow_right (n := 2) (by omega) (show 7 - m ≤ 7 by omega)
  have h2 : maskV (m + 1) < 256 := by unfold maskV; have := Nat.two_pow_pos (9 - (m + 1)); omega
  rw [u8_or_nat a _ (by omega) h2, or_mask ⟨m, hm⟩ ⟨a, by omega⟩ ha]
theorem sizeV_lt (n : Nat) {k : Nat} (h : sizeV n = k) : k = 9 ∨ n < 2 ^ (7 * k) := by
  subst h
  unfold sizeV
  repeat' split
  all_goals first | exact Or.inl rfl | (right; assumption)

/-- A number's nine octets, as the walk has them. -/
def put9 (n : Nat) : List Int := [(n : Int) / 18446744073709551616, (n : Int) / 72057594037927936, (n : Int) / 281474976710656 % 256, (n : Int) / 1099511627776 % 256, (n : Int) / 4294967296 % 256, (n : Int) / 16777216 % 256, (n : Int) / 65536 % 256, (n : Int) / 256 % 256, (n : Int) % 256]

theorem clone_hc (n o k : Nat) (W : World) (g : Nat) (h : Blk W g 154 ((put9 n).map (Value.int .u8)).toArray) (hk : o + k = 9) : ∀ i, i < k → W.cell? ((⟨g, o, none⟩ : Addr).add i) = some (.int .u8 (((put9 n).drop o).getD i 0)) := by
  intro i hi
  have hl : (put9 n).length = 9 := rfl
  have e : (⟨g, o, none⟩ : Addr).add i = ⟨g, o + i, none⟩ := by
    unfold Addr.add; split <;> simp_all
  rw [e, h.cell (o + i)]
  have h2 : o + i < (put9 n).length := by omega
  simp only [List.getElem?_toArray, List.getElem?_map, List.getD, List.getElem?_drop]
  rw [List.getElem?_eq_getElem h2]
  rfl

set_option maxRecDepth 100000 in
set_option maxHeartbeats 2000000 in
theorem put_calls (n : Nat) (w : World) (h : n < 18446744073709551616) : Calls Tryd.prog 46 #[.int .u64 n] w
    fun e w' => ∃ v, e = .returned v ∧ w'.ownsRow w.heap.size 5 1 v (sizeV n) ((putV n).map fun x => Value.int .u8 (x : Nat)) ∧ Below w.heap.size w w' := by
  have hS := fun W => size_calls n W h
  generalize hk : sizeV n = k at *
  have HK := Lib.hid (hk ▸ size_19 n)
  have HN := Lib.hid hk
  clear hk
  go_enter Tryd.func46, Tryd.ntmps46
  go_wp2_with fail
  refine wp_loop_rounds 10 ?_
  iterate 9 (rw [rounds_succ]; go_wp2_with fail)
  rw [rounds_succ]
  rcases HK.out with rfl | rfl | rfl | rfl | rfl | rfl | rfl | rfl | rfl
  · have hsl : ∀ (g : Nat) (W : World), (Instr.sliceAt 154 (.pointer (some ⟨g, 0, none⟩)) (some (.int .i64 8)) none none).run Tryd.prog W = .ok (.slice (some ⟨g, 8, none⟩) 1 1) W := fun _ _ => by kernel_rfl
    have HS := Lib.hid hS
    clear hS
    go_wp2_with (first
      | (go_at_call 73; refine (HS.out _).mono ?_; rintro e w' ⟨rfl, rfl⟩)
      | (go_at_call 74; refine (Tryd.bytes_Clone_at ⟨w.heap.size, 8, none⟩ 1 1 ((put9 n).drop 8) _ rfl (by omega) (clone_hc n 8 1 _ _ (by simpa [put9] using Blk.new w 154 ((put9 n).map (Value.int .u8)).toArray) rfl)).mono ?_; rintro e w1 ⟨v1, rfl, hO, _, hb1⟩))
    obtain ⟨g1, cap, rfl, hg1, hg2⟩ := hO.form (by omega)
    have c0 := hO.cellAt 0 (by omega)
    have f0 := hO.frozenAt 0
    simp only [put9, List.drop_zero, List.drop_succ_cons, List.map_cons, List.map_nil, List.getElem?_cons_zero] at c0
    have hst := fun u => (hO.stored 0 u).1
    have HST := Lib.hid hst
    clear hst
    have hw : IntKind.i64.wrap 0 = 0 := by decide
    have zg : w.heap.size + 1 ≤ g1 := by simpa using hg1
    have H1 : Below w.heap.size w w1 := by repeat' (first | (with_reducible exact Below.refl _ _) | (with_reducible assumption) | (with_reducible refine bl_alloc ?_ (Nat.le_refl _) _) | (with_reducible refine bl_drew ?_) | (with_reducible refine bl_drewN ?_ _) | (with_reducible refine bl_setRow ?_ (by first | (simp; done) | (simp; omega) | omega) _) | (with_reducible refine bl_setCell ?_ (by first | (simp; done) | (simp; omega) | omega) _) | (with_reducible refine bl_trans ?_ (Nat.le_refl _) (by assumption)))
    have hn := sizeV_lt n HN.out
    simp only [Nat.reduceMul, Nat.reducePow] at hn
    have hX : (n : Int) % 256 = ((n / 1 % 256 : Nat) : Int) := by omega
    have hY : n / 1 % 256 < 2 ^ (7 - 0) := by simp only [Nat.reduceSub, Nat.reducePow]; omega
    have hz : bits BinOp.xor IntKind.u8 (if IntKind.u8.signed = true then -1 else IntKind.u8.max) 255 = 0 := by decide
    have hO2 := or_put (n / 1 % 256) 0 (by omega) hY
    have hd : maskV (0 + 1) = 0 := by decide
    have HF : Hid ((((put9 n).drop 8).map (Value.int .u8)).set 0 (.int .u8 (bits BinOp.or IntKind.u8 ((n : Int) % 256) 0)) = (putV n).map fun x => Value.int .u8 (x : Nat)) := Lib.hid (by
      rw [hX, show ((0 : Int)) = ((maskV (0 + 1) : Nat) : Int) from by rw [hd]; rfl, hO2]
      simp only [put9, putV, HN.out, beV, List.drop_zero, List.drop_succ_cons, List.map_cons, List.map_nil, List.set_cons_zero, Nat.reduceAdd, Nat.reducePow, Nat.div_one]
      repeat' (first | rfl | (refine ivs_eq ?_ ?_) | omega))
    clear hX hY hO2 hd hn
    go_still_tail 9, (by kernel_rfl)
    change wpList _ _ _ _ _ w1.drew
    have c1 : w1.drew.cell? ⟨g1, 0, none⟩ = _ := c0
    have f1 : w1.drew.frozen? ⟨g1, 0, none⟩ = false := f0
    go_wp2_with fail
    go_ret
    refine ⟨_, rfl, ?_, by repeat' (first | (with_reducible exact Below.refl _ _) | (with_reducible assumption) | (with_reducible refine bl_alloc ?_ (Nat.le_refl _) _) | (with_reducible refine bl_drew ?_) | (with_reducible refine bl_drewN ?_ _) | (with_reducible refine bl_setRow ?_ (by first | (simp; done) | (simp; omega) | omega) _) | (with_reducible refine bl_setCell ?_ (by first | (simp; done) | (simp; omega) | omega) _) | (with_reducible refine bl_trans ?_ (Nat.le_refl _) (by assumption)))⟩
    rw [← HF.out]
    exact own_base (by first | exact (hO.drew.stored 0 _).1 | exact (hO.stored 0 _).1.drew | exact (hO.stored 0 _).1) (by simp)
  · have hsl : ∀ (g : Nat) (W : World), (Instr.sliceAt 154 (.pointer (some ⟨g, 0, none⟩)) (some (.int .i64 7)) none none).run Tryd.prog W = .ok (.slice (some ⟨g, 7, none⟩) 2 2) W := fun _ _ => by kernel_rfl
    have HS := Lib.hid hS
    clear hS
    go_wp2_with (first
      | (go_at_call 73; refine (HS.out _).mono ?_; rintro e w' ⟨rfl, rfl⟩)
      | (go_at_call 74; refine (Tryd.bytes_Clone_at ⟨w.heap.size, 7, none⟩ 2 2 ((put9 n).drop 7) _ rfl (by omega) (clone_hc n 7 2 _ _ (by simpa [put9] using Blk.new w 154 ((put9 n).map (Value.int .u8)).toArray) rfl)).mono ?_; rintro e w1 ⟨v1, rfl, hO, _, hb1⟩))
    obtain ⟨g1, cap, rfl, hg1, hg2⟩ := hO.form (by omega)
    have c0 := hO.cellAt 0 (by omega)
    have f0 := hO.frozenAt 0
    simp only [put9, List.drop_zero, List.drop_succ_cons, List.map_cons, List.map_nil, List.getElem?_cons_zero] at c0
    have hst := fun u => (hO.stored 0 u).1
    have HST := Lib.hid hst
    clear hst
    have hw : IntKind.i64.wrap 1 = 1 := by decide
    have zg : w.heap.size + 1 ≤ g1 := by simpa using hg1
    have H1 : Below w.heap.size w w1 := by repeat' (first | (with_reducible exact Below.refl _ _) | (with_reducible assumption) | (with_reducible refine bl_alloc ?_ (Nat.le_refl _) _) | (with_reducible refine bl_drew ?_) | (with_reducible refine bl_drewN ?_ _) | (with_reducible refine bl_setRow ?_ (by first | (simp; done) | (simp; omega) | omega) _) | (with_reducible refine bl_setCell ?_ (by first | (simp; done) | (simp; omega) | omega) _) | (with_reducible refine bl_trans ?_ (Nat.le_refl _) (by assumption)))
    have hn := sizeV_lt n HN.out
    simp only [Nat.reduceMul, Nat.reducePow] at hn
    have hX : (n : Int) / 256 % 256 = ((n / 256 % 256 : Nat) : Int) := by omega
    have hY : n / 256 % 256 < 2 ^ (7 - 1) := by simp only [Nat.reduceSub, Nat.reducePow]; omega
    have hz : bits BinOp.xor IntKind.u8 (if IntKind.u8.signed = true then -1 else IntKind.u8.max) 127 = 128 := by decide
    have hO2 := or_put (n / 256 % 256) 1 (by omega) hY
    have hd : maskV (1 + 1) = 128 := by decide
    have HF : Hid ((((put9 n).drop 7).map (Value.int .u8)).set 0 (.int .u8 (bits BinOp.or IntKind.u8 ((n : Int) / 256 % 256) 128)) = (putV n).map fun x => Value.int .u8 (x : Nat)) := Lib.hid (by
      rw [hX, show ((128 : Int)) = ((maskV (1 + 1) : Nat) : Int) from by rw [hd]; rfl, hO2]
      simp only [put9, putV, HN.out, beV, List.drop_zero, List.drop_succ_cons, List.map_cons, List.map_nil, List.set_cons_zero, Nat.reduceAdd, Nat.reducePow, Nat.div_one]
      repeat' (first | rfl | (refine ivs_eq ?_ ?_) | omega))
    clear hX hY hO2 hd hn
    go_still_tail 9, (by kernel_rfl)
    change wpList _ _ _ _ _ w1.drew
    have c1 : w1.drew.cell? ⟨g1, 0, none⟩ = _ := c0
    have f1 : w1.drew.frozen? ⟨g1, 0, none⟩ = false := f0
    go_wp2_with fail
    go_ret
    refine ⟨_, rfl, ?_, by repeat' (first | (with_reducible exact Below.refl _ _) | (with_reducible assumption) | (with_reducible refine bl_alloc ?_ (Nat.le_refl _) _) | (with_reducible refine bl_drew ?_) | (with_reducible refine bl_drewN ?_ _) | (with_reducible refine bl_setRow ?_ (by first | (simp; done) | (simp; omega) | omega) _) | (with_reducible refine bl_setCell ?_ (by first | (simp; done) | (simp; omega) | omega) _) | (with_reducible refine bl_trans ?_ (Nat.le_refl _) (by assumption)))⟩
    rw [← HF.out]
    exact own_base (by first | exact (hO.drew.stored 0 _).1 | exact (hO.stored 0 _).1.drew | exact (hO.stored 0 _).1) (by simp)
  · have hsl : ∀ (g : Nat) (W : World), (Instr.sliceAt 154 (.pointer (some ⟨g, 0, none⟩)) (some (.int .i64 6)) none none).run Tryd.prog W = .ok (.slice (some ⟨g, 6, none⟩) 3 3) W := fun _ _ => by kernel_rfl
    have HS := Lib.hid hS
    clear hS
    go_wp2_with (first
      | (go_at_call 73; refine (HS.out _).mono ?_; rintro e w' ⟨rfl, rfl⟩)
      | (go_at_call 74; refine (Tryd.bytes_Clone_at ⟨w.heap.size, 6, none⟩ 3 3 ((put9 n).drop 6) _ rfl (by omega) (clone_hc n 6 3 _ _ (by simpa [put9] using Blk.new w 154 ((put9 n).map (Value.int .u8)).toArray) rfl)).mono ?_; rintro e w1 ⟨v1, rfl, hO, _, hb1⟩))
    obtain ⟨g1, cap, rfl, hg1, hg2⟩ := hO.form (by omega)
    have c0 := hO.cellAt 0 (by omega)
    have f0 := hO.frozenAt 0
    simp only [put9, List.drop_zero, List.drop_succ_cons, List.map_cons, List.map_nil, List.getElem?_cons_zero] at c0
    have hst := fun u => (hO.stored 0 u).1
    have HST := Lib.hid hst
    clear hst
    have hw : IntKind.i64.wrap 2 = 2 := by decide
    have zg : w.heap.size + 1 ≤ g1 := by simpa using hg1
    have H1 : Below w.heap.size w w1 := by repeat' (first | (with_reducible exact Below.refl _ _) | (with_reducible assumption) | (with_reducible refine bl_alloc ?_ (Nat.le_refl _) _) | (with_reducible refine bl_drew ?_) | (with_reducible refine bl_drewN ?_ _) | (with_reducible refine bl_setRow ?_ (by first | (simp; done) | (simp; omega) | omega) _) | (with_reducible refine bl_setCell ?_ (by first | (simp; done) | (simp; omega) | omega) _) | (with_reducible refine bl_trans ?_ (Nat.le_refl _) (by assumption)))
    have hn := sizeV_lt n HN.out
    simp only [Nat.reduceMul, Nat.reducePow] at hn
    have hX : (n : Int) / 65536 % 256 = ((n / 65536 % 256 : Nat) : Int) := by omega
    have hY : n / 65536 % 256 < 2 ^ (7 - 2) := by simp only [Nat.reduceSub, Nat.reducePow]; omega
    have hz : bits BinOp.xor IntKind.u8 (if IntKind.u8.signed = true then -1 else IntKind.u8.max) 63 = 192 := by decide
    have hO2 := or_put (n / 65536 % 256) 2 (by omega) hY
    have hd : maskV (2 + 1) = 192 := by decide
    have HF : Hid ((((put9 n).drop 6).map (Value.int .u8)).set 0 (.int .u8 (bits BinOp.or IntKind.u8 ((n : Int) / 65536 % 256) 192)) = (putV n).map fun x => Value.int .u8 (x : Nat)) := Lib.hid (by
      rw [hX, show ((192 : Int)) = ((maskV (2 + 1) : Nat) : Int) from by rw [hd]; rfl, hO2]
      simp only [put9, putV, HN.out, beV, List.drop_zero, List.drop_succ_cons, List.map_cons, List.map_nil, List.set_cons_zero, Nat.reduceAdd, Nat.reducePow, Nat.div_one]
      repeat' (first | rfl | (refine ivs_eq ?_ ?_) | omega))
    clear hX hY hO2 hd hn
    go_still_tail 9, (by kernel_rfl)
    change wpList _ _ _ _ _ w1.drew
    have c1 : w1.drew.cell? ⟨g1, 0, none⟩ = _ := c0
    have f1 : w1.drew.frozen? ⟨g1, 0, none⟩ = false := f0
    go_wp2_with fail
    go_ret
    refine ⟨_, rfl, ?_, by repeat' (first | (with_reducible exact Below.refl _ _) | (with_reducible assumption) | (with_reducible refine bl_alloc ?_ (Nat.le_refl _) _) | (with_reducible refine bl_drew ?_) | (with_reducible refine bl_drewN ?_ _) | (with_reducible refine bl_setRow ?_ (by first | (simp; done) | (simp; omega) | omega) _) | (with_reducible refine bl_setCell ?_ (by first | (simp; done) | (simp; omega) | omega) _) | (with_reducible refine bl_trans ?_ (Nat.le_refl _) (by assumption)))⟩
    rw [← HF.out]
    exact own_base (by first | exact (hO.drew.stored 0 _).1 | exact (hO.stored 0 _).1.drew | exact (hO.stored 0 _).1) (by simp)
  · have hsl : ∀ (g : Nat) (W : World), (Instr.sliceAt 154 (.pointer (some ⟨g, 0, none⟩)) (some (.int .i64 5)) none none).run Tryd.prog W = .ok (.slice (some ⟨g, 5, none⟩) 4 4) W := fun _ _ => by kernel_rfl
    have HS := Lib.hid hS
    clear hS
    go_wp2_with (first
      | (go_at_call 73; refine (HS.out _).mono ?_; rintro e w' ⟨rfl, rfl⟩)
      | (go_at_call 74; refine (Tryd.bytes_Clone_at ⟨w.heap.size, 5, none⟩ 4 4 ((put9 n).drop 5) _ rfl (by omega) (clone_hc n 5 4 _ _ (by simpa [put9] using Blk.new w 154 ((put9 n).map (Value.int .u8)).toArray) rfl)).mono ?_; rintro e w1 ⟨v1, rfl, hO, _, hb1⟩))
    obtain ⟨g1, cap, rfl, hg1, hg2⟩ := hO.form (by omega)
    have c0 := hO.cellAt 0 (by omega)
    have f0 := hO.frozenAt 0
    simp only [put9, List.drop_zero, List.drop_succ_cons, List.map_cons, List.map_nil, List.getElem?_cons_zero] at c0
    have hst := fun u => (hO.stored 0 u).1
    have HST := Lib.hid hst
    clear hst
    have hw : IntKind.i64.wrap 3 = 3 := by decide
    have zg : w.heap.size + 1 ≤ g1 := by simpa using hg1
    have H1 : Below w.heap.size w w1 := by repeat' (first | (with_reducible exact Below.refl _ _) | (with_reducible assumption) | (with_reducible refine bl_alloc ?_ (Nat.le_refl _) _) | (with_reducible refine bl_drew ?_) | (with_reducible refine bl_drewN ?_ _) | (with_reducible refine bl_setRow ?_ (by first | (simp; done) | (simp; omega) | omega) _) | (with_reducible refine bl_setCell ?_ (by first | (simp; done) | (simp; omega) | omega) _) | (with_reducible refine bl_trans ?_ (Nat.le_refl _) (by assumption)))
    have hn := sizeV_lt n HN.out
    simp only [Nat.reduceMul, Nat.reducePow] at hn
    have hX : (n : Int) / 16777216 % 256 = ((n / 16777216 % 256 : Nat) : Int) := by omega
    have hY : n / 16777216 % 256 < 2 ^ (7 - 3) := by simp only [Nat.reduceSub, Nat.reducePow]; omega
    have hz : bits BinOp.xor IntKind.u8 (if IntKind.u8.signed = true then -1 else IntKind.u8.max) 31 = 224 := by decide
    have hO2 := or_put (n / 16777216 % 256) 3 (by omega) hY
    have hd : maskV (3 + 1) = 224 := by decide
    have HF : Hid ((((put9 n).drop 5).map (Value.int .u8)).set 0 (.int .u8 (bits BinOp.or IntKind.u8 ((n : Int) / 16777216 % 256) 224)) = (putV n).map fun x => Value.int .u8 (x : Nat)) := Lib.hid (by
      rw [hX, show ((224 : Int)) = ((maskV (3 + 1) : Nat) : Int) from by rw [hd]; rfl, hO2]
      simp only [put9, putV, HN.out, beV, List.drop_zero, List.drop_succ_cons, List.map_cons, List.map_nil, List.set_cons_zero, Nat.reduceAdd, Nat.reducePow, Nat.div_one]
      repeat' (first | rfl | (refine ivs_eq ?_ ?_) | omega))
    clear hX hY hO2 hd hn
    go_still_tail 9, (by kernel_rfl)
    change wpList _ _ _ _ _ w1.drew
    have c1 : w1.drew.cell? ⟨g1, 0, none⟩ = _ := c0
    have f1 : w1.drew.frozen? ⟨g1, 0, none⟩ = false := f0
    go_wp2_with fail
    go_ret
    refine ⟨_, rfl, ?_, by repeat' (first | (with_reducible exact Below.refl _ _) | (with_reducible assumption) | (with_reducible refine bl_alloc ?_ (Nat.le_refl _) _) | (with_reducible refine bl_drew ?_) | (with_reducible refine bl_drewN ?_ _) | (with_reducible refine bl_setRow ?_ (by first | (simp; done) | (simp; omega) | omega) _) | (with_reducible refine bl_setCell ?_ (by first | (simp; done) | (simp; omega) | omega) _) | (with_reducible refine bl_trans ?_ (Nat.le_refl _) (by assumption)))⟩
    rw [← HF.out]
    exact own_base (by first | exact (hO.drew.stored 0 _).1 | exact (hO.stored 0 _).1.drew | exact (hO.stored 0 _).1) (by simp)
  · have hsl : ∀ (g : Nat) (W : World), (Instr.sliceAt 154 (.pointer (some ⟨g, 0, none⟩)) (some (.int .i64 4)) none none).run Tryd.prog W = .ok (.slice (some ⟨g, 4, none⟩) 5 5) W := fun _ _ => by kernel_rfl
    have HS := Lib.hid hS
    clear hS
    go_wp2_with (first
      | (go_at_call 73; refine (HS.out _).mono ?_; rintro e w' ⟨rfl, rfl⟩)
      | (go_at_call 74; refine (Tryd.bytes_Clone_at ⟨w.heap.size, 4, none⟩ 5 5 ((put9 n).drop 4) _ rfl (by omega) (clone_hc n 4 5 _ _ (by simpa [put9] using Blk.new w 154 ((put9 n).map (Value.int .u8)).toArray) rfl)).mono ?_; rintro e w1 ⟨v1, rfl, hO, _, hb1⟩))
    obtain ⟨g1, cap, rfl, hg1, hg2⟩ := hO.form (by omega)
    have c0 := hO.cellAt 0 (by omega)
    have f0 := hO.frozenAt 0
    simp only [put9, List.drop_zero, List.drop_succ_cons, List.map_cons, List.map_nil, List.getElem?_cons_zero] at c0
    have hst := fun u => (hO.stored 0 u).1
    have HST := Lib.hid hst
    clear hst
    have hw : IntKind.i64.wrap 4 = 4 := by decide
    have zg : w.heap.size + 1 ≤ g1 := by simpa using hg1
    have H1 : Below w.heap.size w w1 := by repeat' (first | (with_reducible exact Below.refl _ _) | (with_reducible assumption) | (with_reducible refine bl_alloc ?_ (Nat.le_refl _) _) | (with_reducible refine bl_drew ?_) | (with_reducible refine bl_drewN ?_ _) | (with_reducible refine bl_setRow ?_ (by first | (simp; done) | (simp; omega) | omega) _) | (with_reducible refine bl_setCell ?_ (by first | (simp; done) | (simp; omega) | omega) _) | (with_reducible refine bl_trans ?_ (Nat.le_refl _) (by assumption)))
    have hn := sizeV_lt n HN.out
    simp only [Nat.reduceMul, Nat.reducePow] at hn
    have hX : (n : Int) / 4294967296 % 256 = ((n / 4294967296 % 256 : Nat) : Int) := by omega
    have hY : n / 4294967296 % 256 < 2 ^ (7 - 4) := by simp only [Nat.reduceSub, Nat.reducePow]; omega
    have hz : bits BinOp.xor IntKind.u8 (if IntKind.u8.signed = true then -1 else IntKind.u8.max) 15 = 240 := by decide
    have hO2 := or_put (n / 4294967296 % 256) 4 (by omega) hY
    have hd : maskV (4 + 1) = 240 := by decide
    have HF : Hid ((((put9 n).drop 4).map (Value.int .u8)).set 0 (.int .u8 (bits BinOp.or IntKind.u8 ((n : Int) / 4294967296 % 256) 240)) = (putV n).map fun x => Value.int .u8 (x : Nat)) := Lib.hid (by
      rw [hX, show ((240 : Int)) = ((maskV (4 + 1) : Nat) : Int) from by rw [hd]; rfl, hO2]
      simp only [put9, putV, HN.out, beV, List.drop_zero, List.drop_succ_cons, List.map_cons, List.map_nil, List.set_cons_zero, Nat.reduceAdd, Nat.reducePow, Nat.div_one]
      repeat' (first | rfl | (refine ivs_eq ?_ ?_) | omega))
    clear hX hY hO2 hd hn
    go_still_tail 9, (by kernel_rfl)
    change wpList _ _ _ _ _ w1.drew
    have c1 : w1.drew.cell? ⟨g1, 0, none⟩ = _ := c0
    have f1 : w1.drew.frozen? ⟨g1, 0, none⟩ = false := f0
    go_wp2_with fail
    go_ret
    refine ⟨_, rfl, ?_, by repeat' (first | (with_reducible exact Below.refl _ _) | (with_reducible assumption) | (with_reducible refine bl_alloc ?_ (Nat.le_refl _) _) | (with_reducible refine bl_drew ?_) | (with_reducible refine bl_drewN ?_ _) | (with_reducible refine bl_setRow ?_ (by first | (simp; done) | (simp; omega) | omega) _) | (with_reducible refine bl_setCell ?_ (by first | (simp; done) | (simp; omega) | omega) _) | (with_reducible refine bl_trans ?_ (Nat.le_refl _) (by assumption)))⟩
    rw [← HF.out]
    exact own_base (by first | exact (hO.drew.stored 0 _).1 | exact (hO.stored 0 _).1.drew | exact (hO.stored 0 _).1) (by simp)
  · have hsl : ∀ (g : Nat) (W : World), (Instr.sliceAt 154 (.pointer (some ⟨g, 0, none⟩)) (some (.int .i64 3)) none none).run Tryd.prog W = .ok (.slice (some ⟨g, 3, none⟩) 6 6) W := fun _ _ => by kernel_rfl
    have HS := Lib.hid hS
    clear hS
    go_wp2_with (first
      | (go_at_call 73; refine (HS.out _).mono ?_; rintro e w' ⟨rfl, rfl⟩)
      | (go_at_call 74; refine (Tryd.bytes_Clone_at ⟨w.heap.size, 3, none⟩ 6 6 ((put9 n).drop 3) _ rfl (by omega) (clone_hc n 3 6 _ _ (by simpa [put9] using Blk.new w 154 ((put9 n).map (Value.int .u8)).toArray) rfl)).mono ?_; rintro e w1 ⟨v1, rfl, hO, _, hb1⟩))
    obtain ⟨g1, cap, rfl, hg1, hg2⟩ := hO.form (by omega)
    have c0 := hO.cellAt 0 (by omega)
    have f0 := hO.frozenAt 0
    simp only [put9, List.drop_zero, List.drop_succ_cons, List.map_cons, List.map_nil, List.getElem?_cons_zero] at c0
    have hst := fun u => (hO.stored 0 u).1
    have HST := Lib.hid hst
    clear hst
    have hw : IntKind.i64.wrap 5 = 5 := by decide
    have zg : w.heap.size + 1 ≤ g1 := by simpa using hg1
    have H1 : Below w.heap.size w w1 := by repeat' (first | (with_reducible exact Below.refl _ _) | (with_reducible assumption) | (with_reducible refine bl_alloc ?_ (Nat.le_refl _) _) | (with_reducible refine bl_drew ?_) | (with_reducible refine bl_drewN ?_ _) | (with_reducible refine bl_setRow ?_ (by first | (simp; done) | (simp; omega) | omega) _) | (with_reducible refine bl_setCell ?_ (by first | (simp; done) | (simp; omega) | omega) _) | (with_reducible refine bl_trans ?_ (Nat.le_refl _) (by assumption)))
    have hn := sizeV_lt n HN.out
    simp only [Nat.reduceMul, Nat.reducePow] at hn
    have hX : (n : Int) / 1099511627776 % 256 = ((n / 1099511627776 % 256 : Nat) : Int) := by omega
    have hY : n / 1099511627776 % 256 < 2 ^ (7 - 5) := by simp only [Nat.reduceSub, Nat.reducePow]; omega
    have hz : bits BinOp.xor IntKind.u8 (if IntKind.u8.signed = true then -1 else IntKind.u8.max) 7 = 248 := by decide
    have hO2 := or_put (n / 1099511627776 % 256) 5 (by omega) hY
    have hd : maskV (5 + 1) = 248 := by decide
    have HF : Hid ((((put9 n).drop 3).map (Value.int .u8)).set 0 (.int .u8 (bits BinOp.or IntKind.u8 ((n : Int) / 1099511627776 % 256) 248)) = (putV n).map fun x => Value.int .u8 (x : Nat)) := Lib.hid (by
      rw [hX, show ((248 : Int)) = ((maskV (5 + 1) : Nat) : Int) from by rw [hd]; rfl, hO2]
      simp only [put9, putV, HN.out, beV, List.drop_zero, List.drop_succ_cons, List.map_cons, List.map_nil, List.set_cons_zero, Nat.reduceAdd, Nat.reducePow, Nat.div_one]
      repeat' (first | rfl | (refine ivs_eq ?_ ?_) | omega))
    clear hX hY hO2 hd hn
    go_still_tail 9, (by kernel_rfl)
    change wpList _ _ _ _ _ w1.drew
    have c1 : w1.drew.cell? ⟨g1, 0, none⟩ = _ := c0
    have f1 : w1.drew.frozen? ⟨g1, 0, none⟩ = false := f0
    go_wp2_with fail
    go_ret
    refine ⟨_, rfl, ?_, by repeat' (first | (with_reducible exact Below.refl _ _) | (with_reducible assumption) | (with_reducible refine bl_alloc ?_ (Nat.le_refl _) _) | (with_reducible refine bl_drew ?_) | (with_reducible refine bl_drewN ?_ _) | (with_reducible refine bl_setRow ?_ (by first | (simp; done) | (simp; omega) | omega) _) | (with_reducible refine bl_setCell ?_ (by first | (simp; done) | (simp; omega) | omega) _) | (with_reducible refine bl_trans ?_ (Nat.le_refl _) (by assumption)))⟩
    rw [← HF.out]
    exact own_base (by first | exact (hO.drew.stored 0 _).1 | exact (hO.stored 0 _).1.drew | exact (hO.stored 0 _).1) (by simp)
  · have hsl : ∀ (g : Nat) (W : World), (Instr.sliceAt 154 (.pointer (some ⟨g, 0, none⟩)) (some (.int .i64 2)) none none).run Tryd.prog W = .ok (.slice (some ⟨g, 2, none⟩) 7 7) W := fun _ _ => by kernel_rfl
    have HS := Lib.hid hS
    clear hS
    go_wp2_with (first
      | (go_at_call 73; refine (HS.out _).mono ?_; rintro e w' ⟨rfl, rfl⟩)
      | (go_at_call 74; refine (Tryd.bytes_Clone_at ⟨w.heap.size, 2, none⟩ 7 7 ((put9 n).drop 2) _ rfl (by omega) (clone_hc n 2 7 _ _ (by simpa [put9] using Blk.new w 154 ((put9 n).map (Value.int .u8)).toArray) rfl)).mono ?_; rintro e w1 ⟨v1, rfl, hO, _, hb1⟩))
    obtain ⟨g1, cap, rfl, hg1, hg2⟩ := hO.form (by omega)
    have c0 := hO.cellAt 0 (by omega)
    have f0 := hO.frozenAt 0
    simp only [put9, List.drop_zero, List.drop_succ_cons, List.map_cons, List.map_nil, List.getElem?_cons_zero] at c0
    have hst := fun u => (hO.stored 0 u).1
    have HST := Lib.hid hst
    clear hst
    have hw : IntKind.i64.wrap 6 = 6 := by decide
    have zg : w.heap.size + 1 ≤ g1 := by simpa using hg1
    have H1 : Below w.heap.size w w1 := by repeat' (first | (with_reducible exact Below.refl _ _) | (with_reducible assumption) | (with_reducible refine bl_alloc ?_ (Nat.le_refl _) _) | (with_reducible refine bl_drew ?_) | (with_reducible refine bl_drewN ?_ _) | (with_reducible refine bl_setRow ?_ (by first | (simp; done) | (simp; omega) | omega) _) | (with_reducible refine bl_setCell ?_ (by first | (simp; done) | (simp; omega) | omega) _) | (with_reducible refine bl_trans ?_ (Nat.le_refl _) (by assumption)))
    have hn := sizeV_lt n HN.out
    simp only [Nat.reduceMul, Nat.reducePow] at hn
    have hX : (n : Int) / 281474976710656 % 256 = ((n / 281474976710656 % 256 : Nat) : Int) := by omega
    have hY : n / 281474976710656 % 256 < 2 ^ (7 - 6) := by simp only [Nat.reduceSub, Nat.reducePow]; omega
    have hz : bits BinOp.xor IntKind.u8 (if IntKind.u8.signed = true then -1 else IntKind.u8.max) 3 = 252 := by decide
    have hO2 := or_put (n / 281474976710656 % 256) 6 (by omega) hY
    have hd : maskV (6 + 1) = 252 := by decide
    have HF : Hid ((((put9 n).drop 2).map (Value.int .u8)).set 0 (.int .u8 (bits BinOp.or IntKind.u8 ((n : Int) / 281474976710656 % 256) 252)) = (putV n).map fun x => Value.int .u8 (x : Nat)) := Lib.hid (by
      rw [hX, show ((252 : Int)) = ((maskV (6 + 1) : Nat) : Int) from by rw [hd]; rfl, hO2]
      simp only [put9, putV, HN.out, beV, List.drop_zero, List.drop_succ_cons, List.map_cons, List.map_nil, List.set_cons_zero, Nat.reduceAdd, Nat.reducePow, Nat.div_one]
      repeat' (first | rfl | (refine ivs_eq ?_ ?_) | omega))
    clear hX hY hO2 hd hn
    go_still_tail 9, (by kernel_rfl)
    change wpList _ _ _ _ _ w1.drew
    have c1 : w1.drew.cell? ⟨g1, 0, none⟩ = _ := c0
    have f1 : w1.drew.frozen? ⟨g1, 0, none⟩ = false := f0
    go_wp2_with fail
    go_ret
    refine ⟨_, rfl, ?_, by repeat' (first | (with_reducible exact Below.refl _ _) | (with_reducible assumption) | (with_reducible refine bl_alloc ?_ (Nat.le_refl _) _) | (with_reducible refine bl_drew ?_) | (with_reducible refine bl_drewN ?_ _) | (with_reducible refine bl_setRow ?_ (by first | (simp; done) | (simp; omega) | omega) _) | (with_reducible refine bl_setCell ?_ (by first | (simp; done) | (simp; omega) | omega) _) | (with_reducible refine bl_trans ?_ (Nat.le_refl _) (by assumption)))⟩
    rw [← HF.out]
    exact own_base (by first | exact (hO.drew.stored 0 _).1 | exact (hO.stored 0 _).1.drew | exact (hO.stored 0 _).1) (by simp)
  · have hsl : ∀ (g : Nat) (W : World), (Instr.sliceAt 154 (.pointer (some ⟨g, 0, none⟩)) (some (.int .i64 1)) none none).run Tryd.prog W = .ok (.slice (some ⟨g, 1, none⟩) 8 8) W := fun _ _ => by kernel_rfl
    have HS := Lib.hid hS
    clear hS
    go_wp2_with (first
      | (go_at_call 73; refine (HS.out _).mono ?_; rintro e w' ⟨rfl, rfl⟩)
      | (go_at_call 74; refine (Tryd.bytes_Clone_at ⟨w.heap.size, 1, none⟩ 8 8 ((put9 n).drop 1) _ rfl (by omega) (clone_hc n 1 8 _ _ (by simpa [put9] using Blk.new w 154 ((put9 n).map (Value.int .u8)).toArray) rfl)).mono ?_; rintro e w1 ⟨v1, rfl, hO, _, hb1⟩))
    obtain ⟨g1, cap, rfl, hg1, hg2⟩ := hO.form (by omega)
    have c0 := hO.cellAt 0 (by omega)
    have f0 := hO.frozenAt 0
    simp only [put9, List.drop_zero, List.drop_succ_cons, List.map_cons, List.map_nil, List.getElem?_cons_zero] at c0
    have hst := fun u => (hO.stored 0 u).1
    have HST := Lib.hid hst
    clear hst
    have hw : IntKind.i64.wrap 7 = 7 := by decide
    have zg : w.heap.size + 1 ≤ g1 := by simpa using hg1
    have H1 : Below w.heap.size w w1 := by repeat' (first | (with_reducible exact Below.refl _ _) | (with_reducible assumption) | (with_reducible refine bl_alloc ?_ (Nat.le_refl _) _) | (with_reducible refine bl_drew ?_) | (with_reducible refine bl_drewN ?_ _) | (with_reducible refine bl_setRow ?_ (by first | (simp; done) | (simp; omega) | omega) _) | (with_reducible refine bl_setCell ?_ (by first | (simp; done) | (simp; omega) | omega) _) | (with_reducible refine bl_trans ?_ (Nat.le_refl _) (by assumption)))
    have hn := sizeV_lt n HN.out
    simp only [Nat.reduceMul, Nat.reducePow] at hn
    have hX : (n : Int) / 72057594037927936 = ((n / 72057594037927936 % 256 : Nat) : Int) := by omega
    have hY : n / 72057594037927936 % 256 < 2 ^ (7 - 7) := by simp only [Nat.reduceSub, Nat.reducePow]; omega
    have hz : bits BinOp.xor IntKind.u8 (if IntKind.u8.signed = true then -1 else IntKind.u8.max) 1 = 254 := by decide
    have hO2 := or_put (n / 72057594037927936 % 256) 7 (by omega) hY
    have hd : maskV (7 + 1) = 254 := by decide
    have HF : Hid ((((put9 n).drop 1).map (Value.int .u8)).set 0 (.int .u8 (bits BinOp.or IntKind.u8 ((n : Int) / 72057594037927936) 254)) = (putV n).map fun x => Value.int .u8 (x : Nat)) := Lib.hid (by
      rw [hX, show ((254 : Int)) = ((maskV (7 + 1) : Nat) : Int) from by rw [hd]; rfl, hO2]
      simp only [put9, putV, HN.out, beV, List.drop_zero, List.drop_succ_cons, List.map_cons, List.map_nil, List.set_cons_zero, Nat.reduceAdd, Nat.reducePow, Nat.div_one]
      repeat' (first | rfl | (refine ivs_eq ?_ ?_) | omega))
    clear hX hY hO2 hd hn
    go_still_tail 9, (by kernel_rfl)
    change wpList _ _ _ _ _ w1.drew
    have c1 : w1.drew.cell? ⟨g1, 0, none⟩ = _ := c0
    have f1 : w1.drew.frozen? ⟨g1, 0, none⟩ = false := f0
    go_wp2_with fail
    go_ret
    refine ⟨_, rfl, ?_, by repeat' (first | (with_reducible exact Below.refl _ _) | (with_reducible assumption) | (with_reducible refine bl_alloc ?_ (Nat.le_refl _) _) | (with_reducible refine bl_drew ?_) | (with_reducible refine bl_drewN ?_ _) | (with_reducible refine bl_setRow ?_ (by first | (simp; done) | (simp; omega) | omega) _) | (with_reducible refine bl_setCell ?_ (by first | (simp; done) | (simp; omega) | omega) _) | (with_reducible refine bl_trans ?_ (Nat.le_refl _) (by assumption)))⟩
    rw [← HF.out]
    exact own_base (by first | exact (hO.drew.stored 0 _).1 | exact (hO.stored 0 _).1.drew | exact (hO.stored 0 _).1) (by simp)
  · have hsl : ∀ (g : Nat) (W : World), (Instr.sliceAt 154 (.pointer (some ⟨g, 0, none⟩)) (some (.int .i64 0)) none none).run Tryd.prog W = .ok (.slice (some ⟨g, 0, none⟩) 9 9) W := fun _ _ => by kernel_rfl
    have HS := Lib.hid hS
    clear hS
    go_wp2_with (first
      | (go_at_call 73; refine (HS.out _).mono ?_; rintro e w' ⟨rfl, rfl⟩)
      | (go_at_call 74; refine (Tryd.bytes_Clone_at ⟨w.heap.size, 0, none⟩ 9 9 ((put9 n).drop 0) _ rfl (by omega) (clone_hc n 0 9 _ _ (by simpa [put9] using Blk.new w 154 ((put9 n).map (Value.int .u8)).toArray) rfl)).mono ?_; rintro e w1 ⟨v1, rfl, hO, _, hb1⟩))
    obtain ⟨g1, cap, rfl, hg1, hg2⟩ := hO.form (by omega)
    have c0 := hO.cellAt 0 (by omega)
    have f0 := hO.frozenAt 0
    simp only [put9, List.drop_zero, List.drop_succ_cons, List.map_cons, List.map_nil, List.getElem?_cons_zero] at c0
    have hst := fun u => (hO.stored 0 u).1
    have HST := Lib.hid hst
    clear hst
    have hw : IntKind.i64.wrap 8 = 8 := by decide
    have zg : w.heap.size + 1 ≤ g1 := by simpa using hg1
    have H1 : Below w.heap.size w w1 := by repeat' (first | (with_reducible exact Below.refl _ _) | (with_reducible assumption) | (with_reducible refine bl_alloc ?_ (Nat.le_refl _) _) | (with_reducible refine bl_drew ?_) | (with_reducible refine bl_drewN ?_ _) | (with_reducible refine bl_setRow ?_ (by first | (simp; done) | (simp; omega) | omega) _) | (with_reducible refine bl_setCell ?_ (by first | (simp; done) | (simp; omega) | omega) _) | (with_reducible refine bl_trans ?_ (Nat.le_refl _) (by assumption)))
    have hn := sizeV_lt n HN.out
    simp only [Nat.reduceMul, Nat.reducePow] at hn
    have hX : (n : Int) / 18446744073709551616 = ((n / 18446744073709551616 % 256 : Nat) : Int) := by omega
    have hY : n / 18446744073709551616 % 256 < 2 ^ (7 - 8) := by simp only [Nat.reduceSub, Nat.reducePow]; omega
    have hz : bits BinOp.xor IntKind.u8 (if IntKind.u8.signed = true then -1 else IntKind.u8.max) 0 = 255 := by decide
    have hO2 := or_put (n / 18446744073709551616 % 256) 8 (by omega) hY
    have hd : maskV (8 + 1) = 255 := by decide
    have HF : Hid ((((put9 n).drop 0).map (Value.int .u8)).set 0 (.int .u8 (bits BinOp.or IntKind.u8 ((n : Int) / 18446744073709551616) 255)) = (putV n).map fun x => Value.int .u8 (x : Nat)) := Lib.hid (by
      rw [hX, show ((255 : Int)) = ((maskV (8 + 1) : Nat) : Int) from by rw [hd]; rfl, hO2]
      simp only [put9, putV, HN.out, beV, List.drop_zero, List.drop_succ_cons, List.map_cons, List.map_nil, List.set_cons_zero, Nat.reduceAdd, Nat.reducePow, Nat.div_one]
      repeat' (first | rfl | (refine ivs_eq ?_ ?_) | omega))
    clear hX hY hO2 hd hn
    go_still_tail 9, (by kernel_rfl)
    change wpList _ _ _ _ _ w1.drew
    have c1 : w1.drew.cell? ⟨g1, 0, none⟩ = _ := c0
    have f1 : w1.drew.frozen? ⟨g1, 0, none⟩ = false := f0
    go_wp2_with fail
    go_ret
    refine ⟨_, rfl, ?_, by repeat' (first | (with_reducible exact Below.refl _ _) | (with_reducible assumption) | (with_reducible refine bl_alloc ?_ (Nat.le_refl _) _) | (with_reducible refine bl_drew ?_) | (with_reducible refine bl_drewN ?_ _) | (with_reducible refine bl_setRow ?_ (by first | (simp; done) | (simp; omega) | omega) _) | (with_reducible refine bl_setCell ?_ (by first | (simp; done) | (simp; omega) | omega) _) | (with_reducible refine bl_trans ?_ (Nat.le_refl _) (by assumption)))⟩
    rw [← HF.out]
    exact own_base (by first | exact (hO.drew.stored 0 _).1 | exact (hO.stored 0 _).1.drew | exact (hO.stored 0 _).1) (by simp)
end Go.Proofs.YtaelddnkdklijaaDoor.Va
