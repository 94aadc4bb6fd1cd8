/- The walks of backoff.Due, job.again, job.Lease, and of the reference's Delay. -/
import Derived.Test.YtaelddnkdklijaaDoorJc
set_option linter.unusedSimpArgs false
set_option linter.unusedVariables false
namespace Go.Proofs.YtaelddnkdklijaaDoor.Ja
open Go.RowKit Go.Proofs.YtaelddnkdklijaaDoor.Jp Go.Proofs.YtaelddnkdklijaaDoor.Jw

theorem jobSize : (Tryd.prog.info? 35).map (·.size) = some 10 := by kernel_rfl

theorem delayF_bd (b c t k : Int) (h : limOk ⟨b, c, t⟩ = true) (hk : 0 ≤ k) : 1 ≤ delayF ⟨b, c, t⟩ k ∧ delayF ⟨b, c, t⟩ k ≤ 1073741824 := by
  obtain ⟨h1, h2, h3, h4, h5, h6⟩ := (limOk_iff b c t).1 h
  have hpos : 1 ≤ 2 ^ k.toNat := Nat.one_le_two_pow
  have hr : 1 * 1 ≤ b * ((2 ^ k.toNat : Nat) : Int) := Int.mul_le_mul h1 (by omega) (by omega) (by omega)
  simp only [delayF]
  omega

theorem due_ok (b c t now k : Int) (w : World) (h : limOk ⟨b, c, t⟩ = true) (hk : 0 ≤ k) (h0 : 0 ≤ now) (h1 : now + delayF ⟨b, c, t⟩ k < 32503680000) : Calls Tryd.prog 44 #[.agg #[.int .i64 b, .int .i64 c, .int .i64 t], .int .i64 now, .int .i64 k] w
    fun e w' => e = .returned (.tuple #[.int .i64 (now + delayF ⟨b, c, t⟩ k), .int .i64 0]) ∧ Below w.heap.size w w' := by
  obtain ⟨h2, h3⟩ := delayF_bd b c t k h hk
  have hc := delay_ok b c t k
  generalize delayF ⟨b, c, t⟩ k = d at *
  go_enter Tryd.func44, Tryd.ntmps44
  go_wp2_with (first
    | (go_at_call 72; refine (hc _ h hk).mono ?_; rintro e w1 ⟨rfl, hb1⟩; obtain ⟨hc1, hf1⟩ := bl_cell hb1))
  go_ret2
  exact ⟨rfl, by repeat' (first | (with_reducible exact Below.refl _ _) | (with_reducible assumption) | (with_reducible refine bl_alloc ?_ (Nat.le_refl _) _) | (with_reducible refine bl_drew ?_) | (with_reducible refine bl_drewN ?_ _) | (with_reducible refine bl_setRow ?_ (by first | (simp; done) | (simp; omega) | omega) _) | (with_reducible refine bl_setCell ?_ (by first | (simp; done) | (simp; omega) | omega) _) | (with_reducible refine bl_trans ?_ (Nat.le_refl _) (by assumption)))⟩

theorem due_late (b c t now k : Int) (w : World) (h : limOk ⟨b, c, t⟩ = true) (hk : 0 ≤ k) (h0 : 0 ≤ now) (h4 : now < 32503680000) (h1 : 32503680000 ≤ now + delayF ⟨b, c, t⟩ k) : Calls Tryd.prog 44 #[.agg #[.int .i64 b, .int .i64 c, .int .i64 t], .int .i64 now, .int .i64 k] w
    fun e w' => e = .returned (.tuple #[.int .i64 0, .int .i64 4]) ∧ Below w.heap.size w w' := by
  obtain ⟨h2, h3⟩ := delayF_bd b c t k h hk
  have hc := delay_ok b c t k
  generalize delayF ⟨b, c, t⟩ k = d at *
  go_enter Tryd.func44, Tryd.ntmps44
  go_wp2_with (first
    | (go_at_call 72; refine (hc _ h hk).mono ?_; rintro e w1 ⟨rfl, hb1⟩; obtain ⟨hc1, hf1⟩ := bl_cell hb1))
  go_ret2
  exact ⟨rfl, by repeat' (first | (with_reducible exact Below.refl _ _) | (with_reducible assumption) | (with_reducible refine bl_alloc ?_ (Nat.le_refl _) _) | (with_reducible refine bl_drew ?_) | (with_reducible refine bl_drewN ?_ _) | (with_reducible refine bl_setRow ?_ (by first | (simp; done) | (simp; omega) | omega) _) | (with_reducible refine bl_setCell ?_ (by first | (simp; done) | (simp; omega) | omega) _) | (with_reducible refine bl_trans ?_ (Nat.le_refl _) (by assumption)))⟩

theorem again_e (id : Int) (name rule payload : ByteArray) (status due tries worker token till : Int) (now : Int) (w : World) (hr : rule.toList = []) :
    Calls Tryd.prog 43 #[.agg #[.int .i64 id, .string name, .string rule, .string payload, .int .i64 status, .int .i64 due, .int .i64 tries, .int .i64 worker, .int .i64 token, .int .i64 till], .int .i64 now] w
      fun e w' => e = .returned (.tuple #[.agg #[.int .i64 0, .string ⟨#[]⟩, .string ⟨#[]⟩, .string ⟨#[]⟩, .int .i64 0, .int .i64 0, .int .i64 0, .int .i64 0, .int .i64 0, .int .i64 0], .bool false]) ∧ Below w.heap.size w w' := by
  go_enter Tryd.func43, Tryd.ntmps43
  go_wp2_with fail
  refine bodyPost_ret ?_ rfl ⟨rfl, ?_⟩
  · simp [results, Tryd.results43, go_sem, *]
  · repeat' (first | (with_reducible exact Below.refl _ _) | (with_reducible assumption) | (with_reducible refine bl_alloc ?_ (Nat.le_refl _) _) | (with_reducible refine bl_drew ?_) | (with_reducible refine bl_drewN ?_ _) | (with_reducible refine bl_setRow ?_ (by first | (simp; done) | (simp; omega) | omega) _) | (with_reducible refine bl_setCell ?_ (by first | (simp; done) | (simp; omega) | omega) _) | (with_reducible refine bl_trans ?_ (Nat.le_refl _) (by assumption)))

/-- What cron.Next is asked. -/
def NextC (r : Rl) (now t : Int) (is : Bool) (en : Int) : Prop := ∀ w : World, Calls Tryd.prog 71 #[.agg #[.int .u64 r.mi, .int .u64 r.ho, .int .u64 r.da, .int .u64 r.mo, .int .u64 r.we, .bool r.anyD, .bool r.anyW], .int .i64 now] w
  fun e w' => e = .returned (.tuple #[.int .i64 t, .bool is, .int .i64 en]) ∧ Below w.heap.size w w'

set_option maxHeartbeats 400000 in
set_option maxRecDepth 100000 in
theorem again_n (pe : ByteArray → Int) (rv : ByteArray → Rl) (id : Int) (name rule payload : ByteArray) (status due tries worker token till : Int) (now t : Int) (is : Bool) (en : Int) (w : World) (hr : rule.toList.isEmpty = false) (hP : ParseC pe rv rule) (hN : NextC (rv rule) now t is en) :
    Calls Tryd.prog 43 #[.agg #[.int .i64 id, .string name, .string rule, .string payload, .int .i64 status, .int .i64 due, .int .i64 tries, .int .i64 worker, .int .i64 token, .int .i64 till], .int .i64 now] w
      fun e w' => e = .returned (.tuple #[.agg #[.int .i64 id, .string name, .string rule, .string payload, .int .i64 1, .int .i64 t, .int .i64 0, .int .i64 0, .int .i64 0, .int .i64 0], .bool is]) ∧ Below w.heap.size w w' := by
  go_enter Tryd.func43, Tryd.ntmps43
  go_wp2_with (first
    | (go_at_call 36; refine (hP _).mono ?_; rintro e w1 ⟨rfl, hb1⟩; have z1 : w.heap.size + 2 ≤ w1.heap.size := (by have h := hb1.size; (try simp at h); omega); have H1 : Below w.heap.size w w1 := (by repeat' (first | (with_reducible exact Below.refl _ _) | (with_reducible assumption) | (with_reducible refine bl_alloc ?_ (Nat.le_refl _) _) | (with_reducible refine bl_drew ?_) | (with_reducible refine bl_drewN ?_ _) | (with_reducible refine bl_setRow ?_ (by first | (simp; done) | (simp; omega) | omega) _) | (with_reducible refine bl_setCell ?_ (by first | (simp; done) | (simp; omega) | omega) _) | (with_reducible refine bl_trans ?_ (Nat.le_refl _) (by assumption)))); have b1 : Blk w1 (w.heap.size) 35 #[.int .i64 id, .string name, .string rule, .string payload, .int .i64 status, .int .i64 due, .int .i64 tries, .int .i64 worker, .int .i64 token, .int .i64 till] := (by repeat' (first | (with_reducible exact Blk.new _ _ _) | (with_reducible refine Blk.new' _ _ ?_; simp; done) | (with_reducible assumption) | (with_reducible refine Blk.alloc ?_ _) | (with_reducible refine Blk.drew ?_) | (with_reducible refine Blk.drewN ?_ _) | (with_reducible refine Blk.far ?_ (by first | (simp; done) | (simp; omega) | omega) _) | (with_reducible apply Blk.setTo) | (with_reducible refine Blk.rowFar ?_ (by first | (simp; done) | (simp; omega) | omega) _) | (with_reducible refine Blk.below ?_ hb1 (by first | (simp; done) | (simp; omega) | omega)) | rfl)); have b1q := b1.cell; have b1f := b1.frozen; have b1l := b1.lt; have c1 : Blk w1 (w.heap.size + 1) 35 #[.int .i64 0, .string ⟨#[]⟩, .string ⟨#[]⟩, .string ⟨#[]⟩, .int .i64 0, .int .i64 0, .int .i64 0, .int .i64 0, .int .i64 0, .int .i64 0] := (by repeat' (first | (with_reducible exact Blk.new _ _ _) | (with_reducible refine Blk.new' _ _ ?_; simp; done) | (with_reducible assumption) | (with_reducible refine Blk.alloc ?_ _) | (with_reducible refine Blk.drew ?_) | (with_reducible refine Blk.drewN ?_ _) | (with_reducible refine Blk.far ?_ (by first | (simp; done) | (simp; omega) | omega) _) | (with_reducible apply Blk.setTo) | (with_reducible refine Blk.rowFar ?_ (by first | (simp; done) | (simp; omega) | omega) _) | (with_reducible refine Blk.below ?_ hb1 (by first | (simp; done) | (simp; omega) | omega)) | rfl)); have c1q := c1.cell; have c1f := c1.frozen; have c1l := c1.lt; clear hb1)
    | (go_at_call 71; refine (hN _).mono ?_; rintro e w2 ⟨rfl, hb2⟩; have z2 : w.heap.size + 2 ≤ w2.heap.size := (by have h := hb2.size; (try simp at h); omega); have H2 : Below w.heap.size w w2 := (by repeat' (first | (with_reducible exact Below.refl _ _) | (with_reducible assumption) | (with_reducible refine bl_alloc ?_ (Nat.le_refl _) _) | (with_reducible refine bl_drew ?_) | (with_reducible refine bl_drewN ?_ _) | (with_reducible refine bl_setRow ?_ (by first | (simp; done) | (simp; omega) | omega) _) | (with_reducible refine bl_setCell ?_ (by first | (simp; done) | (simp; omega) | omega) _) | (with_reducible refine bl_trans ?_ (Nat.le_refl _) (by assumption)))); have b2 : Blk w2 (w.heap.size) 35 #[.int .i64 id, .string name, .string rule, .string payload, .int .i64 status, .int .i64 due, .int .i64 tries, .int .i64 worker, .int .i64 token, .int .i64 till] := (by repeat' (first | (with_reducible exact Blk.new _ _ _) | (with_reducible refine Blk.new' _ _ ?_; simp; done) | (with_reducible assumption) | (with_reducible refine Blk.alloc ?_ _) | (with_reducible refine Blk.drew ?_) | (with_reducible refine Blk.drewN ?_ _) | (with_reducible refine Blk.far ?_ (by first | (simp; done) | (simp; omega) | omega) _) | (with_reducible apply Blk.setTo) | (with_reducible refine Blk.rowFar ?_ (by first | (simp; done) | (simp; omega) | omega) _) | (with_reducible refine Blk.below ?_ hb2 (by first | (simp; done) | (simp; omega) | omega)) | rfl)); have b2q := b2.cell; have b2f := b2.frozen; have b2l := b2.lt; have c2 : Blk w2 (w.heap.size + 1) 35 #[.int .i64 0, .string ⟨#[]⟩, .string ⟨#[]⟩, .string ⟨#[]⟩, .int .i64 0, .int .i64 0, .int .i64 0, .int .i64 0, .int .i64 0, .int .i64 0] := (by repeat' (first | (with_reducible exact Blk.new _ _ _) | (with_reducible refine Blk.new' _ _ ?_; simp; done) | (with_reducible assumption) | (with_reducible refine Blk.alloc ?_ _) | (with_reducible refine Blk.drew ?_) | (with_reducible refine Blk.drewN ?_ _) | (with_reducible refine Blk.far ?_ (by first | (simp; done) | (simp; omega) | omega) _) | (with_reducible apply Blk.setTo) | (with_reducible refine Blk.rowFar ?_ (by first | (simp; done) | (simp; omega) | omega) _) | (with_reducible refine Blk.below ?_ hb2 (by first | (simp; done) | (simp; omega) | omega)) | rfl)); have c2q := c2.cell; have c2f := c2.frozen; have c2l := c2.lt; clear hb2)
    | (go_at_call 45; refine (hold_calls _ _ _ _ _ _ _ _ _ _ _ _ _ _ _ _).mono ?_; rintro e w3 ⟨rfl, hb3⟩; have z3 : w.heap.size + 2 ≤ w3.heap.size := (by have h := hb3.size; (try simp at h); omega); have H3 : Below w.heap.size w w3 := (by repeat' (first | (with_reducible exact Below.refl _ _) | (with_reducible assumption) | (with_reducible refine bl_alloc ?_ (Nat.le_refl _) _) | (with_reducible refine bl_drew ?_) | (with_reducible refine bl_drewN ?_ _) | (with_reducible refine bl_setRow ?_ (by first | (simp; done) | (simp; omega) | omega) _) | (with_reducible refine bl_setCell ?_ (by first | (simp; done) | (simp; omega) | omega) _) | (with_reducible refine bl_trans ?_ (Nat.le_refl _) (by assumption)))); have c3 : Blk w3 (w.heap.size + 1) 35 #[.int .i64 0, .string ⟨#[]⟩, .string ⟨#[]⟩, .string ⟨#[]⟩, .int .i64 0, .int .i64 0, .int .i64 0, .int .i64 0, .int .i64 0, .int .i64 0] := (by repeat' (first | (with_reducible exact Blk.new _ _ _) | (with_reducible refine Blk.new' _ _ ?_; simp; done) | (with_reducible assumption) | (with_reducible refine Blk.alloc ?_ _) | (with_reducible refine Blk.drew ?_) | (with_reducible refine Blk.drewN ?_ _) | (with_reducible refine Blk.far ?_ (by first | (simp; done) | (simp; omega) | omega) _) | (with_reducible apply Blk.setTo) | (with_reducible refine Blk.rowFar ?_ (by first | (simp; done) | (simp; omega) | omega) _) | (with_reducible refine Blk.below ?_ hb3 (by first | (simp; done) | (simp; omega) | omega)) | rfl)); have c3q := c3.cell; have c3f := c3.frozen; have c3l := c3.lt; clear hb3)
    | (refine wpList_store_row rfl 35 _ _ rfl _ _ rfl rfl _ _ c3 ?_ rfl ?_ ?_; (· exact jobSize); (· simp [Value.oneCell'])))
  exact bodyPost_ret (res_row_tmp rfl rfl (c3.row _) Tryd.underlying35 rfl jobSize) rfl ⟨rfl, by repeat' (first | (with_reducible exact Below.refl _ _) | (with_reducible assumption) | (with_reducible refine bl_alloc ?_ (Nat.le_refl _) _) | (with_reducible refine bl_drew ?_) | (with_reducible refine bl_drewN ?_ _) | (with_reducible refine bl_setRow ?_ (by first | (simp; done) | (simp; omega) | omega) _) | (with_reducible refine bl_setCell ?_ (by first | (simp; done) | (simp; omega) | omega) _) | (with_reducible refine bl_trans ?_ (Nat.le_refl _) (by assumption)))⟩
end Go.Proofs.YtaelddnkdklijaaDoor.Ja
