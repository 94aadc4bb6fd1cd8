/- JobBack returns true for every job and every text; each argument reads as it did. No condition but the row's own. -/
import Derived.Test.YtaelddnkdklijaaDoorKe
import Derived.Test.YtaelddnkdklijaaDoorVh
namespace Go.Proofs.YtaelddnkdklijaaDoor.jobBack
open Go Go.ChangeShapes Go.WideShapes Go.ChangeAt Go.RowKit Go.Joins Go.Deep Go.Proofs.YtaelddnkdklijaaDoor.Ke Go.Proofs.YtaelddnkdklijaaDoor.Jk
open Go.ChangeMaps (open_string shut_string)
set_option linter.unusedVariables false

set_option maxRecDepth 100000 in
set_option maxHeartbeats 1000000 in
theorem contract (H : Type) (enc : TypeId × Value → H) (W : World) (base : Nat) (args : Array Value) (ds gs : List (DataW H)) (before : List MemPlace)
    (hval : ∀ (j : Nat) t v, Tryd.f6.params[j]? = some t → args[j]? = some v → Value.okWide Tryd.prog W .any base t v)
    (hW : DataW.Whole enc Tryd.prog Tryd.f6.params.toList Rows.jobBackSpec.vars false W args.toList ds gs before)
    (hsz0 : (DataW.weightsEach Tryd.prog (Tryd.f6.params.toList ++ Rows.jobBackSpec.plain.varTypes Tryd.prog) (ds ++ gs)).all (· ≤ reachBytes) = true)
    (hlaid : laidMetH Tryd.prog Rows.jobBackRow.laid W) (hsh : W.ShapedOpen Tryd.prog) :
    Calls Tryd.prog 6 args W fun e W' => ∃ v, e = .returned v ∧ Rows.jobBackSpec.post enc Tryd.prog Tryd.f6 false true false false W args v W' := by
  obtain ⟨m, he⟩ := env_of hlaid hsh
  have hsz : (DataW.weightsEach Tryd.prog (Tryd.f6.params.toList ++ Rows.jobBackSpec.plain.varTypes Tryd.prog) (ds ++ gs)).all (· ≤ reachBytes) = true := hsz0
  have hW' := hW
  obtain ⟨p, q, hA0, hV, rfl, hfz, hnd⟩ := hW
  have hA : DataW.TrodAll enc Tryd.prog W 0 (fun _ => true) true Tryd.f6.params.toList args.toList ds p := hA0
  rw [Tryd.params6] at hA hval hsz
  obtain ⟨v0, vs0, d0, ds0, p0, q0, hargs, rfl, rfl, h0, r0⟩ := trodAll_cons hA
  obtain ⟨v1, vs1, d1, ds1, p1, q1, rfl, rfl, rfl, h1, r1⟩ := trodAll_cons r0
  obtain ⟨rfl, rfl, rfl⟩ := trodAll_nil r1
  obtain rfl : args = #[v0, v1] := by cases args; simp_all
  obtain ⟨rfl, rfl⟩ := trodVars_none hV
  have k0 := h0
  have lt0 : ∀ x ∈ p0, x.block < W.heap.size := by obtain ⟨m, hm⟩ := k0; exact DataW.trod_lt m _ _ _ hm
  obtain ⟨a0_0, a0_1, a0_2, a0_3, a0_4, a0_5, a0_6, a0_7, a0_8, a0_9, y0_0, y0_1, y0_2, y0_3, y0_4, y0_5, y0_6, y0_7, y0_8, y0_9, n0, rfl, rfl, rfl, e0_0, e0_1, e0_2, e0_3, e0_4, e0_5, e0_6, e0_7, e0_8, e0_9⟩ := open_agg10 Tryd.underlying49 (by kernel_rfl) cellsJ (hval 0 49 v0 rfl rfl) h0
  obtain ⟨id, g0_0, rfl, wf_id⟩ := DataW.trod_int Tryd.underlying3 e0_0
  obtain ⟨name, g0_1, rfl, sz_name⟩ := DataW.trod_string Tryd.underlying9 e0_1
  obtain ⟨rule, g0_2, rfl, sz_rule⟩ := DataW.trod_string Tryd.underlying9 e0_2
  obtain ⟨payload, g0_3, rfl, sz_payload⟩ := DataW.trod_string Tryd.underlying9 e0_3
  obtain ⟨status, g0_4, rfl, wf_status⟩ := DataW.trod_int Tryd.underlying3 e0_4
  obtain ⟨due, g0_5, rfl, wf_due⟩ := DataW.trod_int Tryd.underlying3 e0_5
  obtain ⟨tries, g0_6, rfl, wf_tries⟩ := DataW.trod_int Tryd.underlying3 e0_6
  obtain ⟨worker, g0_7, rfl, wf_worker⟩ := DataW.trod_int Tryd.underlying3 e0_7
  obtain ⟨token, g0_8, rfl, wf_token⟩ := DataW.trod_int Tryd.underlying3 e0_8
  obtain ⟨till, g0_9, rfl, wf_till⟩ := DataW.trod_int Tryd.underlying3 e0_9
  simp at g0_0 g0_1 g0_2 g0_3 g0_4 g0_5 g0_6 g0_7 g0_8 g0_9
  subst g0_0 g0_1 g0_2 g0_3 g0_4 g0_5 g0_6 g0_7 g0_8 g0_9
  unfold maxLen at sz_name
  unfold maxLen at sz_rule
  unfold maxLen at sz_payload
  obtain ⟨s, rfl, rfl, rfl, wf_s⟩ := open_string Tryd.underlying9 (hval 1 9 v1 rfl rfl) h1
  have sz_s : s.size ≤ 140737488351232 := by
    have z := sized_string hsz (j := 1) (t := 9) rfl rfl
    rw [Array.length_toList] at z
    exact z
  clear hA0 hsz0 hsz
  have walk : Calls Tryd.prog 6 #[.agg #[.int .i64 id, .string name, .string rule, .string payload, .int .i64 status, .int .i64 due, .int .i64 tries, .int .i64 worker, .int .i64 token, .int .i64 till], .string s] W fun e w' => e = .returned (.bool true) ∧ Below W.heap.size W w' :=
    Vh.back_calls m id name rule payload status due tries worker token till s W (by omega) (by omega) he
  refine walk.mono fun e W' ⟨he, bel⟩ => ?_
  subst he
  exact ⟨_, rfl, _, _, _, [], _, [], hW', trodAll_mk1 (shut_bool Tryd.underlying4 _), trodAll_cons_mk (Below.trod laidOut (by kernel_rfl) (of_decide_eq_true (by kernel_rfl)) k0 bel lt0) (trodAll_cons_mk (shut_string Tryd.underlying9 wf_s) trodAll_mk0), rfl, bel.frame _, fun h => by cases h⟩
def wargs : Array Value := #[.agg #[.int .i64 0, .string ⟨#[]⟩, .string ⟨#[]⟩, .string ⟨#[]⟩, .int .i64 0, .int .i64 0, .int .i64 0, .int .i64 0, .int .i64 0, .int .i64 0], .string ⟨#[]⟩]
theorem laid_met (os : Os) : laidMet Tryd.prog Rows.jobBackRow.laid ((laidWorld os).forCall (fun _ _ => 0) ⟨#[], wargs, []⟩).memory :=
  laidMet_of_run' 8 (by kernel_rfl) (by kernel_rfl)
theorem reads (os : Os) {H : Type} (enc : TypeId × Value → H) : ∃ places, DataW.whole enc Tryd.prog ((laidWorld os).forCall (fun _ _ => 0) ⟨#[], wargs, []⟩).memory Tryd.f6.params.toList Rows.jobBackSpec.vars false wargs.toList 8 = some ([.agg [.lit (.int .i64 0), .lit (.string []), .lit (.string []), .lit (.string []), .lit (.int .i64 0), .lit (.int .i64 0), .lit (.int .i64 0), .lit (.int .i64 0), .lit (.int .i64 0), .lit (.int .i64 0)], .lit (.string [])], [], places) :=
  ⟨[], by kernel_rfl⟩

set_option maxRecDepth 100000 in
theorem lifted (os : Os) (started : os.Started) (H : Type) (enc : TypeId × Value → H) (F : Stop.Interp) :
    ReturnsInHanded {} Tryd.checked os 6 .any ((OpenSpec.ofChange Rows.jobBackSpec).preRow enc Tryd.prog Tryd.f6 Rows.jobBackRow.domain false Rows.jobBackRow.laid) (((OpenSpec.ofChange Rows.jobBackSpec).at F).post enc Tryd.prog Tryd.f6 false true false false) := by
  obtain ⟨places, hx⟩ := reads os enc
  refine returnsInHanded_of_row (C := Tryd.checked) (s := OpenSpec.ofChange Rows.jobBackSpec) own started (by kernel_rfl) Tryd.func6
    (witness_row_at (enc := enc) (C := Tryd.checked) false (laidWorld os) wargs rfl (by kernel_rfl) (by kernel_rfl) (by kernel_rfl)
      (OpenSpec.preRow_of_cond 8 hx (by kernel_rfl) (fun k hk => by cases hk) (by kernel_rfl) (laid_met os))) ?_
  intro W base args ds gs before hval hW _ _ hsz hl hs _
  exact contract H enc W base args ds gs before hval hW hsz hl hs

theorem said : Rows.JobBackSaid :=
  OpenClaim.holds_of_cond 6 Tryd.f6 rfl rfl rfl rfl rfl rfl rfl ⟨rfl, rfl, rfl, rfl, rfl⟩ rfl rfl rfl rfl rfl (by kernel_rfl) Tryd.func6 (by kernel_rfl)
    (of_decide_eq_true (by kernel_rfl)) (by unfold Func.isWrapper; first | (rw [if_pos (by decide +kernel)]; kernel_rfl) | (rw [if_neg (by decide +kernel)]; exact ⟨rfl, rfl⟩))
    (fun os started H enc _ F => by rw [OpenClaim.pre_eq_preRow]; exact lifted os started H enc F)

theorem plain (f : FuncId) (fn : Func) (hf : Tryd.pinned.checked.prog.funcNamed "tickler/ticklerlaw19.JobBack" = some f) (hfn : Tryd.pinned.checked.prog.funcs[f]? = some fn) :
    true = Tryd.pinned.checked.prog.looks [] ∧ ∀ (j : Nat) t, fn.params[j]? = some t → Tryd.pinned.checked.prog.wantsStandIn t = false := by
  obtain rfl : f = 6 := Option.some.inj ((show Tryd.prog.funcNamed "tickler/ticklerlaw19.JobBack" = some 6 by kernel_rfl).symm.trans hf) |>.symm
  obtain rfl : fn = Tryd.f6 := (Option.some.inj (Tryd.func6.symm.trans hfn)).symm
  refine ⟨by kernel_rfl, fun j t ht => ?_⟩
  rw [Tryd.params6] at ht
  have hm := Array.mem_of_getElem? ht
  simp only [List.mem_toArray, List.mem_cons, List.not_mem_nil, or_false] at hm
  rcases hm with rfl | rfl
  · exact (show Tryd.prog.wantsStandIn 49 = false by kernel_rfl)
  · exact (show Tryd.prog.wantsStandIn 9 = false by kernel_rfl)

/-- The card. -/
theorem card : Rows.JobBackCardSaid :=
  Claim7.holds_tied_plain_at .later [] _ _ _ _ said (fun _ h => by cases h) (by kernel_rfl) (fun _ h => by cases h) jobBack_row_tie rfl ⟨rfl, rfl⟩ (by kernel_rfl) rfl plain (by kernel_rfl)
#print axioms card
end Go.Proofs.YtaelddnkdklijaaDoor.jobBack
namespace Go.Proofs.YtaelddnkdklijaaDoor
/-- The statement, under a short name. -/
theorem jobBack_holds : Rows.JobBackCardSaid := jobBack.card
end Go.Proofs.YtaelddnkdklijaaDoor

