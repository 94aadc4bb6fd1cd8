/- JobKeeps returns true for every job, every worker, token, second and limits; each argument reads as it did. No condition but the row's own. -/
import Derived.Test.YtaelddnkdklijaaDoorKe
import Derived.Test.YtaelddnkdklijaaDoorKl
namespace Go.Proofs.YtaelddnkdklijaaDoor.jobKeeps
open Go Go.ChangeShapes Go.WideShapes Go.ChangeAt Go.RowKit Go.Joins Go.Deep Go.Proofs.YtaelddnkdklijaaDoor.Ke Go.Proofs.YtaelddnkdklijaaDoor.Jk
open Go.ChangeMaps (open_string shut_string)
set_option linter.unusedVariables false

set_option maxRecDepth 100000 in
set_option maxHeartbeats 1000000 in
theorem contract (H : Type) (enc : TypeId × Value → H) (W : World) (base : Nat) (args : Array Value) (ds gs : List (DataW H)) (before : List MemPlace)
    (hval : ∀ (j : Nat) t v, Tryd.f5.params[j]? = some t → args[j]? = some v → Value.okWide Tryd.prog W .any base t v)
    (hW : DataW.Whole enc Tryd.prog Tryd.f5.params.toList Rows.jobKeepsSpec.vars false W args.toList ds gs before)
    (hsz0 : (DataW.weightsEach Tryd.prog (Tryd.f5.params.toList ++ Rows.jobKeepsSpec.plain.varTypes Tryd.prog) (ds ++ gs)).all (· ≤ reachBytes) = true)
    (hlaid : laidMetH Tryd.prog Rows.jobKeepsRow.laid W) (hsh : W.ShapedOpen Tryd.prog) :
    Calls Tryd.prog 5 args W fun e W' => ∃ v, e = .returned v ∧ Rows.jobKeepsSpec.post enc Tryd.prog Tryd.f5 false true false false W args v W' := by
  obtain ⟨m, he⟩ := env_of hlaid hsh
  have hsz : (DataW.weightsEach Tryd.prog (Tryd.f5.params.toList ++ Rows.jobKeepsSpec.plain.varTypes Tryd.prog) (ds ++ gs)).all (· ≤ reachBytes) = true := hsz0
  have hW' := hW
  obtain ⟨p, q, hA0, hV, rfl, hfz, hnd⟩ := hW
  have hA : DataW.TrodAll enc Tryd.prog W 0 (fun _ => true) true Tryd.f5.params.toList args.toList ds p := hA0
  rw [Tryd.params5] at hA hval hsz
  obtain ⟨v0, vs0, d0, ds0, p0, q0, hargs, rfl, rfl, h0, r0⟩ := trodAll_cons hA
  obtain ⟨v1, vs1, d1, ds1, p1, q1, rfl, rfl, rfl, h1, r1⟩ := trodAll_cons r0
  obtain ⟨v2, vs2, d2, ds2, p2, q2, rfl, rfl, rfl, h2, r2⟩ := trodAll_cons r1
  obtain ⟨v3, vs3, d3, ds3, p3, q3, rfl, rfl, rfl, h3, r3⟩ := trodAll_cons r2
  obtain ⟨v4, vs4, d4, ds4, p4, q4, rfl, rfl, rfl, h4, r4⟩ := trodAll_cons r3
  obtain ⟨rfl, rfl, rfl⟩ := trodAll_nil r4
  obtain rfl : args = #[v0, v1, v2, v3, v4] := by cases args; simp_all
  obtain ⟨rfl, rfl⟩ := trodVars_none hV
  have k0 := h0
  have lt0 : ∀ x ∈ p0, x.block < W.heap.size := by obtain ⟨m, hm⟩ := k0; exact DataW.trod_lt m _ _ _ hm
  obtain ⟨a0_0, a0_1, a0_2, a0_3, a0_4, a0_5, a0_6, a0_7, a0_8, a0_9, y0_0, y0_1, y0_2, y0_3, y0_4, y0_5, y0_6, y0_7, y0_8, y0_9, n0, rfl, rfl, rfl, e0_0, e0_1, e0_2, e0_3, e0_4, e0_5, e0_6, e0_7, e0_8, e0_9⟩ := open_agg10 Tryd.underlying49 (by kernel_rfl) cellsJ (hval 0 49 v0 rfl rfl) h0
  obtain ⟨id, g0_0, rfl, wf_id⟩ := DataW.trod_int Tryd.underlying3 e0_0
  obtain ⟨name, g0_1, rfl, sz_name⟩ := DataW.trod_string Tryd.underlying9 e0_1
  obtain ⟨rule, g0_2, rfl, sz_rule⟩ := DataW.trod_string Tryd.underlying9 e0_2
  obtain ⟨payload, g0_3, rfl, sz_payload⟩ := DataW.trod_string Tryd.underlying9 e0_3
  obtain ⟨status, g0_4, rfl, wf_status⟩ := DataW.trod_int Tryd.underlying3 e0_4
  obtain ⟨due, g0_5, rfl, wf_due⟩ := DataW.trod_int Tryd.underlying3 e0_5
  obtain ⟨tries, g0_6, rfl, wf_tries⟩ := DataW.trod_int Tryd.underlying3 e0_6
  obtain ⟨worker, g0_7, rfl, wf_worker⟩ := DataW.trod_int Tryd.underlying3 e0_7
  obtain ⟨token, g0_8, rfl, wf_token⟩ := DataW.trod_int Tryd.underlying3 e0_8
  obtain ⟨till, g0_9, rfl, wf_till⟩ := DataW.trod_int Tryd.underlying3 e0_9
  simp at g0_0 g0_1 g0_2 g0_3 g0_4 g0_5 g0_6 g0_7 g0_8 g0_9
  subst g0_0 g0_1 g0_2 g0_3 g0_4 g0_5 g0_6 g0_7 g0_8 g0_9
  unfold maxLen at sz_name
  unfold maxLen at sz_rule
  unfold maxLen at sz_payload
  obtain ⟨wo, rfl, rfl, rfl, wf_wo⟩ := open_int Tryd.underlying3 (hval 1 3 v1 rfl rfl) h1
  obtain ⟨tk, rfl, rfl, rfl, wf_tk⟩ := open_int Tryd.underlying3 (hval 2 3 v2 rfl rfl) h2
  obtain ⟨ti, rfl, rfl, rfl, wf_ti⟩ := open_int Tryd.underlying3 (hval 3 3 v3 rfl rfl) h3
  have k4 := h4
  have lt4 : ∀ x ∈ p4, x.block < W.heap.size := by obtain ⟨m, hm⟩ := k4; exact DataW.trod_lt m _ _ _ hm
  obtain ⟨a4_0, a4_1, a4_2, y4_0, y4_1, y4_2, n4, rfl, rfl, rfl, e4_0, e4_1, e4_2⟩ := open_agg3 Tryd.underlying23 (by kernel_rfl) cellsL (hval 4 23 v4 rfl rfl) h4
  obtain ⟨b, g4_0, rfl, wf_b⟩ := DataW.trod_int Tryd.underlying3 e4_0
  obtain ⟨c, g4_1, rfl, wf_c⟩ := DataW.trod_int Tryd.underlying3 e4_1
  obtain ⟨t, g4_2, rfl, wf_t⟩ := DataW.trod_int Tryd.underlying3 e4_2
  simp at g4_0 g4_1 g4_2
  subst g4_0 g4_1 g4_2
  clear hA0 hsz0 hsz
  have walk : Calls Tryd.prog 5 #[.agg #[.int .i64 id, .string name, .string rule, .string payload, .int .i64 status, .int .i64 due, .int .i64 tries, .int .i64 worker, .int .i64 token, .int .i64 till], .int .i64 wo, .int .i64 tk, .int .i64 ti, .agg #[.int .i64 b, .int .i64 c, .int .i64 t]] W fun e w' => e = .returned (.bool true) ∧ Below W.heap.size W w' :=
    Kl.keeps_calls m id name rule payload status due tries worker token till wo tk ti b c t W (by omega) he
  refine walk.mono fun e W' ⟨he, bel⟩ => ?_
  subst he
  exact ⟨_, rfl, _, _, _, [], _, [], hW', trodAll_mk1 (shut_bool Tryd.underlying4 _), trodAll_cons_mk (Below.trod laidOut (by kernel_rfl) (of_decide_eq_true (by kernel_rfl)) k0 bel lt0) (trodAll_cons_mk (shut_int Tryd.underlying3 wf_wo) (trodAll_cons_mk (shut_int Tryd.underlying3 wf_tk) (trodAll_cons_mk (shut_int Tryd.underlying3 wf_ti) (trodAll_cons_mk (Below.trod laidOut (by kernel_rfl) (of_decide_eq_true (by kernel_rfl)) k4 bel lt4) trodAll_mk0)))), rfl, bel.frame _, fun h => by cases h⟩
def wargs : Array Value := #[.agg #[.int .i64 0, .string ⟨#[]⟩, .string ⟨#[]⟩, .string ⟨#[]⟩, .int .i64 0, .int .i64 0, .int .i64 0, .int .i64 0, .int .i64 0, .int .i64 0], .int .i64 0, .int .i64 0, .int .i64 0, .agg #[.int .i64 0, .int .i64 0, .int .i64 0]]
theorem laid_met (os : Os) : laidMet Tryd.prog Rows.jobKeepsRow.laid ((laidWorld os).forCall (fun _ _ => 0) ⟨#[], wargs, []⟩).memory :=
  laidMet_of_run' 8 (by kernel_rfl) (by kernel_rfl)
theorem reads (os : Os) {H : Type} (enc : TypeId × Value → H) : ∃ places, DataW.whole enc Tryd.prog ((laidWorld os).forCall (fun _ _ => 0) ⟨#[], wargs, []⟩).memory Tryd.f5.params.toList Rows.jobKeepsSpec.vars false wargs.toList 8 = some ([.agg [.lit (.int .i64 0), .lit (.string []), .lit (.string []), .lit (.string []), .lit (.int .i64 0), .lit (.int .i64 0), .lit (.int .i64 0), .lit (.int .i64 0), .lit (.int .i64 0), .lit (.int .i64 0)], .lit (.int .i64 0), .lit (.int .i64 0), .lit (.int .i64 0), .agg [.lit (.int .i64 0), .lit (.int .i64 0), .lit (.int .i64 0)]], [], places) :=
  ⟨[], by kernel_rfl⟩

set_option maxRecDepth 100000 in
theorem lifted (os : Os) (started : os.Started) (H : Type) (enc : TypeId × Value → H) (F : Stop.Interp) :
    ReturnsInHanded {} Tryd.checked os 5 .any ((OpenSpec.ofChange Rows.jobKeepsSpec).preRow enc Tryd.prog Tryd.f5 Rows.jobKeepsRow.domain false Rows.jobKeepsRow.laid) (((OpenSpec.ofChange Rows.jobKeepsSpec).at F).post enc Tryd.prog Tryd.f5 false true false false) := by
  obtain ⟨places, hx⟩ := reads os enc
  refine returnsInHanded_of_row (C := Tryd.checked) (s := OpenSpec.ofChange Rows.jobKeepsSpec) own started (by kernel_rfl) Tryd.func5
    (witness_row_at (enc := enc) (C := Tryd.checked) false (laidWorld os) wargs rfl (by kernel_rfl) (by kernel_rfl) (by kernel_rfl)
      (OpenSpec.preRow_of_cond 8 hx (by kernel_rfl) (fun k hk => by cases hk) (by kernel_rfl) (laid_met os))) ?_
  intro W base args ds gs before hval hW _ _ hsz hl hs _
  exact contract H enc W base args ds gs before hval hW hsz hl hs

theorem said : Rows.JobKeepsSaid :=
  OpenClaim.holds_of_cond 5 Tryd.f5 rfl rfl rfl rfl rfl rfl rfl ⟨rfl, rfl, rfl, rfl, rfl⟩ rfl rfl rfl rfl rfl (by kernel_rfl) Tryd.func5 (by kernel_rfl)
    (of_decide_eq_true (by kernel_rfl)) (by unfold Func.isWrapper; first | (rw [if_pos (by decide +kernel)]; kernel_rfl) | (rw [if_neg (by decide +kernel)]; exact ⟨rfl, rfl⟩))
    (fun os started H enc _ F => by rw [OpenClaim.pre_eq_preRow]; exact lifted os started H enc F)

theorem plain (f : FuncId) (fn : Func) (hf : Tryd.pinned.checked.prog.funcNamed "tickler/ticklerlaw19.JobKeeps" = some f) (hfn : Tryd.pinned.checked.prog.funcs[f]? = some fn) :
    true = Tryd.pinned.checked.prog.looks [] ∧ ∀ (j : Nat) t, fn.params[j]? = some t → Tryd.pinned.checked.prog.wantsStandIn t = false := by
  obtain rfl : f = 5 := Option.some.inj ((show Tryd.prog.funcNamed "tickler/ticklerlaw19.JobKeeps" = some 5 by kernel_rfl).symm.trans hf) |>.symm
  obtain rfl : fn = Tryd.f5 := (Option.some.inj (Tryd.func5.symm.trans hfn)).symm
  refine ⟨by kernel_rfl, fun j t ht => ?_⟩
  rw [Tryd.params5] at ht
  have hm := Array.mem_of_getElem? ht
  simp only [List.mem_toArray, List.mem_cons, List.not_mem_nil, or_false] at hm
  rcases hm with rfl | rfl | rfl | rfl | rfl
  · exact (show Tryd.prog.wantsStandIn 49 = false by kernel_rfl)
  · exact (show Tryd.prog.wantsStandIn 3 = false by kernel_rfl)
  · exact (show Tryd.prog.wantsStandIn 3 = false by kernel_rfl)
  · exact (show Tryd.prog.wantsStandIn 3 = false by kernel_rfl)
  · exact (show Tryd.prog.wantsStandIn 23 = false by kernel_rfl)

/-- The card. -/
theorem card : Rows.JobKeepsCardSaid :=
  Claim7.holds_tied_plain_at .later [] _ _ _ _ said (fun _ h => by cases h) (by kernel_rfl) (fun _ h => by cases h) jobKeeps_row_tie rfl ⟨rfl, rfl⟩ (by kernel_rfl) rfl plain (by kernel_rfl)
#print axioms card
end Go.Proofs.YtaelddnkdklijaaDoor.jobKeeps
namespace Go.Proofs.YtaelddnkdklijaaDoor
/-- The statement, under a short name. -/
theorem jobKeeps_holds : Rows.JobKeepsCardSaid := jobKeeps.card
end Go.Proofs.YtaelddnkdklijaaDoor

