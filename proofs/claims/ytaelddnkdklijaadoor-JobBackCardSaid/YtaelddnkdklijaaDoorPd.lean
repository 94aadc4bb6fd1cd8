/- strings.SplitSeq at one octet: the iterator's contract. -/
import Derived.Test.YtaelddnkdklijaaDoorRf
import Derived.Test.YtaelddnkdklijaaDoorPc
import Derived.Test.YtaelddnkdklijaaDoorShelg
set_option linter.unusedVariables false
namespace Go.Proofs.YtaelddnkdklijaaDoor.Pd
open Go Go.RowKit Go.Shelf Go.Proofs Go.Proofs.YtaelddnkdklijaaDoor.Jw Go.Proofs.YtaelddnkdklijaaDoor.Rf
attribute [local go_sem] Oper.semAt_some

def splitG : Nat → List UInt8 → List (List UInt8)
  | 0, s => [s]
  | f + 1, s => if Lib.indexByte s 44 < 0 then [s] else s.take (Lib.indexByte s 44).toNat :: splitG f (s.drop ((Lib.indexByte s 44).toNat + 1))

def lenAt (sb : Nat) (W : World) : Nat := match W.cell? ⟨sb, 0, none⟩ with
  | some (.string s) => s.size
  | _ => 0

theorem idx_bd (l : List UInt8) (c : UInt8) : -1 ≤ Lib.indexByte l c ∧ Lib.indexByte l c < l.length := by
  refine ⟨Lib.indexByte_ge l c, ?_⟩
  induction l with
  | nil => simp [Lib.indexByte]
  | cons b t ih =>
    simp only [Lib.indexByte, List.length_cons]
    split
    · omega
    · split <;> omega

theorem len_toList (s : ByteArray) : s.toList.length = s.size := by rw [ByteArray.toList_eq]; simp
theorem ext_list {s t : ByteArray} (h : s.toList = t.toList) : s = t := by
  rw [ByteArray.toList_eq, ByteArray.toList_eq] at h
  rcases s with ⟨⟨a⟩⟩
  rcases t with ⟨⟨b⟩⟩
  simp only at h
  rw [h]
theorem toList_extract (s : ByteArray) (a b : Nat) : (s.extract a b).toList = (s.toList.drop a).take (b - a) := by
  rw [ByteArray.toList_eq, ByteArray.toList_eq]
  simp [ByteArray.data_extract, List.take_drop]

set_option maxRecDepth 100000 in
theorem split1_in (n sb l : Nat) (s0 : ByteArray) (J Jx : List ByteArray → World → Prop) (hs0 : s0.size < 4294967281)
    (hJ : ∀ s W W', J s W → BoxSteps sb W W' → J s W') (hJx : ∀ s W W', Jx s W → BoxSteps sb W W' → Jx s W')
    (hY : ∀ pre x W1, x.size ≤ s0.size → J pre W1 → YieldAt Fence.wide (n - 1) Tryd.prog l #[.string x] W1 fun e W' => (e = .returned (.bool true) ∧ J (pre ++ [x]) W' ∧ Up sb W1 W') ∨ (e = .returned (.bool false) ∧ Jx (pre ++ [x]) W'))
    (W : World) (hb1 : Blk W sb 9 #[.string s0]) (hb2 : Blk W (sb + 1) 9 #[.string ⟨#[44]⟩]) (hb3 : Blk W (sb + 2) 3 #[.int .i64 0]) (h0 : J [] W) :
    CallsIn Fence.wide n Tryd.prog 154 #[.func (.yield l) #[] #[], .pointer (some ⟨sb + 1, 0, none⟩), .pointer (some ⟨sb, 0, none⟩), .pointer (some ⟨sb + 2, 0, none⟩)] W fun e W' => (∃ v, e = .returned v) ∧
      ((∃ xs, xs = (splitG s0.size s0.toList).map (fun x => ⟨x.toArray⟩) ∧ J xs W') ∨ (∃ pre, pre <+: (splitG s0.size s0.toList).map (fun x => (⟨x.toArray⟩ : ByteArray)) ∧ Jx pre W')) := by
  have hdp : Fence.wide.depth.isSome = true → 1 ≤ n := fun h => absurd h (by simp [Fence.wide])
  have q1 := hb1.cell 0
  have q2 := hb2.cell 0
  have q3 := hb3.cell 0
  simp only [List.getElem?_toArray, List.getElem?_cons_zero] at q1 q2 q3
  refine callsIn_of_wp Tryd.func154 rfl trivial ?_
  simp only [Tryd.ntmps154, List.size_toArray, List.length_cons, List.length_nil, Nat.reduceAdd, Nat.reduceSub, Array.replicate_succ, Array.replicate_zero, List.push_toArray, List.append_toArray, List.nil_append, List.cons_append]
  gi_wp2
  gi_loopw [7, 8] (fun i fr wr => ∃ (pre : List ByteArray) (s : ByteArray) (f : Nat), s.size ≤ s0.size ∧ s.size ≤ f ∧ Aside ((splitG s0.size s0.toList).map (fun x => (⟨x.toArray⟩ : ByteArray)) = pre ++ (splitG f s.toList).map (fun x => (⟨x.toArray⟩ : ByteArray))) ∧
      Blk wr sb 9 #[.string s] ∧ Blk wr (sb + 1) 9 #[.string ⟨#[44]⟩] ∧ Blk wr (sb + 2) 3 #[.int .i64 0] ∧ J pre wr) (fun i fr wr => lenAt sb wr)
  case atStart => exact ⟨[], s0, s0.size, Nat.le_refl _, Nat.le_refl _, rfl, hb1, hb2, hb3, h0⟩
  case round =>
    obtain ⟨pre, s, f, hsz, hf, hsp, c1, c2, c3, hj⟩ := hrel
    have p1 := c1.cell 0
    have p2 := c2.cell 0
    have p3 := c3.cell 0
    simp only [List.getElem?_toArray, List.getElem?_cons_zero] at p1 p2 p3
    have hI := fun W' (m : Nat) => (callsIn_wide (n := m)).2 (Tryd.strings_Index_one s 44 W')
    have hd : s.data.toList = s.toList := (ByteArray.toList_eq s).symm
    have hl : s.toList.length = s.size := by rw [ByteArray.toList_eq]; simp
    have bd := idx_bd s.toList 44
    simp only [hd] at hI
    have hmk : (⟨s.toList.toArray⟩ : ByteArray) = s := by rw [← hd]
    by_cases hneg : Lib.indexByte s.toList 44 < 0
    · have hpc : (splitG f s.toList).map (fun x => (⟨x.toArray⟩ : ByteArray)) = [s] := by
        cases f with
        | zero => simp [splitG, hmk]
        | succ f => simp only [splitG]; rw [if_pos hneg]; simp [hmk]
      rw [hpc] at hsp
      generalize Lib.indexByte s.toList 44 = k at *
      have HI := Lib.hid hI
      obtain ⟨fn, tmps, assign, body, hy, hR⟩ := hY pre s wr hsz hj
      clear hI hY hpc hd hmk
      gi_wp2_with (refine ⟨trivial, hdp, ?_⟩; refine (HI.out _ _).mono ?_; rintro e w' ⟨rfl, rfl⟩)
      refine ⟨hdp, ?_⟩
      refine hR.mono ?_
      rintro e W3 (⟨rfl, hJ3, hk3⟩ | ⟨rfl, hJx3⟩)
      · gi_wp2
        go_end0
        exact ⟨⟨_, rfl⟩, .inl ⟨_, hsp.out.symm, hJ3⟩⟩
      · gi_wp2
        go_end0
        exact ⟨⟨_, rfl⟩, .inr ⟨_, ⟨[], by rw [hsp.out]; simp⟩, hJx3⟩⟩
    · obtain ⟨k, hk⟩ := Int.eq_ofNat_of_zero_le (Int.not_lt.1 hneg)
      rw [hk] at bd hI
      have hks : k < s.size := by omega
      have ht : (⟨(s.toList.take k).toArray⟩ : ByteArray) = s.extract 0 k := ext_list (by rw [toList_extract]; simp [ByteArray.toList_eq])
      have hx1 : (s.extract 0 k).size ≤ s0.size := by rw [← ht]; show (s.toList.take k).length ≤ _; rw [List.length_take]; omega
      have hdr : (s.extract (k + 1) s.size).toList = s.toList.drop (k + 1) := by rw [toList_extract, List.take_of_length_le (by simp [hl])]
      obtain ⟨g, rfl⟩ : ∃ g, f = g + 1 := ⟨f - 1, by omega⟩
      have hpc : (splitG (g + 1) s.toList).map (fun x => (⟨x.toArray⟩ : ByteArray)) = s.extract 0 k :: (splitG g (s.extract (k + 1) s.size).toList).map (fun x => (⟨x.toArray⟩ : ByteArray)) := by
        simp only [splitG]; rw [if_neg hneg, hk, hdr, ← ht]; simp
      rw [hpc] at hsp
      have hrl : (s.extract (k + 1) s.size).size + (k + 1) = s.size := by rw [← len_toList, hdr, List.length_drop, hl]; omega
      obtain ⟨fn, tmps, assign, body, hy, hR⟩ := hY pre (s.extract 0 k) wr hx1 hj
      have HI := Lib.hid hI
      have HK := Lib.hid hk
      have HT := Lib.hid hrl
      clear hI hY hpc hd hmk hk hneg ht hdr hrl
      gi_wp2_with (refine ⟨trivial, hdp, ?_⟩; refine (HI.out _ _).mono ?_; rintro e w' ⟨rfl, rfl⟩)
      refine ⟨hdp, ?_⟩
      refine hR.mono ?_
      rintro e W3 (⟨rfl, hJ3, hk3⟩ | ⟨rfl, hJx3⟩)
      · have d1 : Blk W3 sb 9 #[.string s] := (hk3.2 sb (Nat.le_refl _) c1.lt).trans c1
        have d2 : Blk W3 (sb + 1) 9 #[.string ⟨#[44]⟩] := (hk3.2 _ (by omega) c2.lt).trans c2
        have d3 : Blk W3 (sb + 2) 3 #[.int .i64 0] := (hk3.2 _ (by omega) c3.lt).trans c3
        have p1' := d1.cell 0
        have p2' := d2.cell 0
        have p3' := d3.cell 0
        have f1 := d1.frozen 0
        simp only [List.getElem?_toArray, List.getElem?_cons_zero] at p1' p2' p3'
        gi_wp2
        have e := HT.out
        refine ⟨⟨pre ++ [s.extract 0 k], s.extract (k + 1) s.size, g, by omega, by omega, ?_, d1.setTo rfl, d2.far (by simp) _, d3.far (by simp) _, hJ _ _ _ hJ3 ⟨(Below.refl sb W3).setCell (p := ⟨sb, 0, none⟩) (Nat.le_refl _) _, fun j hj _ => Below.heap_setCell W3 ⟨sb, 0, none⟩ _ j (by simp; omega)⟩⟩, ?_⟩
        · show _ = _
          rw [hsp.out, List.append_assoc, List.singleton_append]
        · have l1 : lenAt sb (W3.setCell ⟨sb, 0, none⟩ (.string (s.extract (k + 1) s.size))) = (s.extract (k + 1) s.size).size := by
            have dd : Blk (W3.setCell ⟨sb, 0, none⟩ (.string (s.extract (k + 1) s.size))) sb 9 #[.string (s.extract (k + 1) s.size)] := d1.setTo rfl
            have := dd.cell 0
            simp only [List.getElem?_toArray, List.getElem?_cons_zero] at this
            unfold lenAt
            rw [this]
          have l2 : lenAt sb w' = s.size := by unfold lenAt; rw [p1]
          rw [l1, l2]
          omega
      · gi_wp2
        refine bodyPost_ret (results_none rfl _ _ _) rfl ?_
        exact ⟨⟨_, rfl⟩, .inr ⟨_, ⟨_, by rw [hsp.out, List.append_assoc, List.singleton_append]⟩, hJx3⟩⟩
end Go.Proofs.YtaelddnkdklijaaDoor.Pd
