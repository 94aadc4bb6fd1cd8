/- Job's Check, Lease, Fail, Finish: what they answer, for every input. -/
import Derived.Test.YtaelddnkdklijaaDoorJi
import Derived.Test.YtaelddnkdklijaaDoorPf
import Derived.Test.YtaelddnkdklijaaDoorPh
set_option linter.unusedSimpArgs false
set_option linter.unusedVariables false
namespace Go.Proofs.YtaelddnkdklijaaDoor.Jk
open Go Go.RowKit Go.Shelf Go.Proofs Go.Proofs.YtaelddnkdklijaaDoor.Jp Go.Proofs.YtaelddnkdklijaaDoor.Jw Go.Proofs.YtaelddnkdklijaaDoor.Ja Go.Proofs.YtaelddnkdklijaaDoor.Cp Go.Proofs.YtaelddnkdklijaaDoor.Ca Go.Proofs.YtaelddnkdklijaaDoor.Pe Go.Proofs.YtaelddnkdklijaaDoor.Pf Go.Proofs.YtaelddnkdklijaaDoor.Pg Go.Proofs.YtaelddnkdklijaaDoor.Ph

/-- What the walks ask of the world: two variables of the library's. -/
structure Env (m : Int) (w : World) : Prop where
  cut : w.cell? ⟨3, 0, none⟩ = some (.int .i64 m)
  tab : TabAt 0 Lib.deBruijn64tab w
theorem Env.below {m : Int} {w w' : World} (h : Env m w) (hb : Below w.heap.size w w') : Env m w' :=
  ⟨(hb.cell (p := ⟨3, 0, none⟩) (World.block_lt_of_cell? w _ h.cut)).trans h.cut, TabAt.below h.tab hb⟩

def peF (s : ByteArray) : Int := (parseF s).2
def rlOf (r : Rule) : Rl := ⟨r.mi, r.ho, r.da, r.mo, r.we, r.anyD, r.anyW⟩
def rvF (s : ByteArray) : Rl := rlOf (parseF s).1
def nxF (s : ByteArray) (now : Int) : Int × Bool := ((nextA (parseF s).1 now).1, (nextA (parseF s).1 now).2.1)

theorem parse_rok (s : ByteArray) : Rok (parseF s).1 := by
  have hz : Rok zeroR := ⟨by decide, by decide, by decide, by decide, by decide⟩
  unfold parseF
  split
  · exact hz
  · split
    · rename_i h
      obtain ⟨a0, a1, a2, a3, a4, hL⟩ := five _ h
      rw [hL]
      have b0 := fieldF_lt 0 59 a0 (by omega) (by omega)
      have b1 := fieldF_lt 0 23 a1 (by omega) (by omega)
      have b2 := fieldF_lt 1 31 a2 (by omega) (by omega)
      have b3 := fieldF_lt 1 12 a3 (by omega) (by omega)
      have b4 := fieldF_lt 0 7 a4 (by omega) (by omega)
      simp only [ruleOf]
      generalize fieldF 0 59 a0 = x0 at *
      generalize fieldF 0 23 a1 = x1 at *
      generalize fieldF 1 31 a2 = x2 at *
      generalize fieldF 1 12 a3 = x3 at *
      generalize fieldF 0 7 a4 = x4 at *
      rcases x0 with _ | x0
      · exact hz
      rcases x1 with _ | x1
      · exact hz
      rcases x2 with _ | x2
      · exact hz
      rcases x3 with _ | x3
      · exact hz
      rcases x4 with _ | x4
      · exact hz
      have h4 := b4 x4 rfl
      refine ⟨b0 x0 rfl, b1 x1 rfl, b2 x2 rfl, b3 x3 rfl, ?_⟩
      show wk x4 < _
      unfold wk
      exact Nat.or_lt_two_pow (n := 64) (Nat.lt_of_le_of_lt Nat.and_le_left h4) (by omega)
    · exact hz

theorem parseC (s : ByteArray) (m : Int) (w : World) (hs : s.size < 9223372036854775808) (he : Env m w) : ParseC peF rvF s w := fun W hW =>
  parse_calls s m W hs (he.below hW).cut

theorem nextC (s : ByteArray) (now m : Int) (w : World) (he : Env m w) : NextC (rvF s) now (nxF s now).1 (nxF s now).2 (nextA (parseF s).1 now).2.2 w := fun W hW =>
  next_calls (parseF s).1 now W (parse_rok s) (he.below hW).tab

theorem check_t (m : Int) (id : Int) (name rule payload : ByteArray) (status due tries worker token till : Int) (w : World) (hs : rule.size < 9223372036854775808) (he : Env m w) :
    Calls Tryd.prog 13 #[.agg #[.int .i64 id, .string name, .string rule, .string payload, .int .i64 status, .int .i64 due, .int .i64 tries, .int .i64 worker, .int .i64 token, .int .i64 till]] w fun e w' => e = .returned (.int .i64 (eno (jobOk peF ⟨id, name, rule, payload, status, due, tries, worker, token, till⟩) 9)) ∧ Below w.heap.size w w' :=
  check_calls peF rvF id name rule payload status due tries worker token till w (fun _ => parseC rule m w hs he)

theorem lease_t (m : Int) (id : Int) (name rule payload : ByteArray) (status due tries worker token till : Int) (wo tk ti : Int) (w : World) (hs : rule.size < 9223372036854775808) (he : Env m w) :
    Calls Tryd.prog 18 #[.agg #[.int .i64 id, .string name, .string rule, .string payload, .int .i64 status, .int .i64 due, .int .i64 tries, .int .i64 worker, .int .i64 token, .int .i64 till], .int .i64 wo, .int .i64 tk, .int .i64 ti] w fun e w' => ∃ a n, leaseF peF ⟨id, name, rule, payload, status, due, tries, worker, token, till⟩ wo tk ti = (a, n) ∧ e = .returned (.tuple #[.agg #[.int .i64 a.id, .string a.name, .string a.rule, .string a.payload, .int .i64 a.status, .int .i64 a.due, .int .i64 a.tries, .int .i64 a.worker, .int .i64 a.token, .int .i64 a.till], .int .i64 n]) ∧ Below w.heap.size w w' := by
  have hP : rule.toList.isEmpty = false → ParseC peF rvF rule w := fun _ => parseC rule m w hs he
  unfold leaseF
  cases hJ : jobOk peF ⟨id, name, rule, payload, status, due, tries, worker, token, till⟩
  · exact (lease_bad peF rvF id name rule payload status due tries worker token till wo tk ti w hP hJ).mono fun e w' h => ⟨zero, 9, by simp, h⟩
  by_cases h1 : status = 1
  · subst h1
    cases hm : holderMay wo tk ti
    · exact (lease_range peF rvF id name rule payload due tries worker token till wo tk ti w hP hJ hm).mono fun e w' h => ⟨zero, 4, by simp, h⟩
    · exact (lease_ok peF rvF id name rule payload due tries worker token till wo tk ti w hP hJ hm).mono fun e w' h => ⟨_, _, by simp; exact ⟨rfl, rfl⟩, h⟩
  · exact (lease_order peF rvF id name rule payload status due tries worker token till wo tk ti w hP hJ h1).mono fun e w' h => ⟨zero, 81, by simp [h1], h⟩

theorem fail_t (m : Int) (id : Int) (name rule payload : ByteArray) (status due tries worker token till : Int) (b c t now : Int) (w : World) (hs : rule.size < 9223372036854775808) (he : Env m w) :
    Calls Tryd.prog 16 #[.agg #[.int .i64 id, .string name, .string rule, .string payload, .int .i64 status, .int .i64 due, .int .i64 tries, .int .i64 worker, .int .i64 token, .int .i64 till], .agg #[.int .i64 b, .int .i64 c, .int .i64 t], .int .i64 now] w fun e w' => ∃ a n, failF peF nxF ⟨id, name, rule, payload, status, due, tries, worker, token, till⟩ ⟨b, c, t⟩ now = (a, n) ∧ e = .returned (.tuple #[.agg #[.int .i64 a.id, .string a.name, .string a.rule, .string a.payload, .int .i64 a.status, .int .i64 a.due, .int .i64 a.tries, .int .i64 a.worker, .int .i64 a.token, .int .i64 a.till], .int .i64 n]) ∧ Below w.heap.size w w' := by
  have hP : rule.toList.isEmpty = false → ParseC peF rvF rule w := fun _ => parseC rule m w hs he
  have hN := nextC rule now m w he
  have hC := fun W (hB : Below w.heap.size w W) => check_calls peF rvF id name rule payload status due tries worker token till W (fun h => (hP h).mono hB)
  have hD := fun W (_ : Below w.heap.size w W) => limCheck_calls b c t W
  have hE := fun W (_ : Below w.heap.size w W) => leased_calls id name rule payload status due tries worker token till now W
  unfold failF
  cases hJ : jobOk peF ⟨id, name, rule, payload, status, due, tries, worker, token, till⟩
  · rw [hJ] at hC
    exact (fail_e0 id name rule payload status due tries worker token till b c t now _ _ _ w hC hD hE rfl).mono fun e w' h => ⟨zero, 9, by simp, h⟩
  cases hL : limOk ⟨b, c, t⟩
  · rw [hJ] at hC
    rw [hL] at hD
    exact (fail_e1 id name rule payload status due tries worker token till b c t now _ _ _ w hC hD hE rfl rfl).mono fun e w' h => ⟨zero, 4, by simp, h⟩
  by_cases h2 : status = 2
  · cases hn : within now 0 32503679999
    · rw [hJ] at hC
      rw [hL] at hD
      rw [if_pos h2, hn] at hE
      exact (fail_e2 id name rule payload status due tries worker token till b c t now _ _ _ w hC hD hE rfl rfl rfl).mono fun e w' h => ⟨zero, 4, by simp [h2], h⟩
    · have hz : 0 ≤ tries ∧ tries ≤ 16 := by
        have := hJ
        unfold jobOk sizesOk within at this
        simp only [Bool.and_eq_true, decide_eq_true_eq] at this
        omega
      have hn' : 0 ≤ now ∧ now ≤ 32503679999 := by
        unfold within at hn
        simpa using hn
      by_cases hd : now + delayF ⟨b, c, t⟩ (min (tries + 1) 16 - 1) < 32503680000
      · by_cases ht : min (tries + 1) 16 < t
        · exact (fail_a peF rvF id name rule payload status due tries worker token till b c t now w hP hJ hL h2 hn hz.1 hz.2 hn'.1 (by omega) hd ht).mono fun e w' h => ⟨_, _, by simp [h2, maxTime, hd, ht]; exact ⟨rfl, rfl⟩, h⟩
        · cases hr : rule.toList.isEmpty
          · generalize nxF rule now = q at *
            obtain ⟨qt, is⟩ := q
            cases is
            · exact (fail_bf peF rvF id name rule payload status due tries worker token till b c t now w hP hJ hL h2 hn hz.1 hz.2 hn'.1 (by omega) hd (by omega) hr _ _ hN).mono fun e w' h => ⟨_, _, by simp [h2, maxTime, ht]; exact ⟨rfl, rfl⟩, h⟩
            · exact (fail_bt peF rvF id name rule payload status due tries worker token till b c t now w hP hJ hL h2 hn hz.1 hz.2 hn'.1 (by omega) hd (by omega) hr _ _ hN).mono fun e w' h => ⟨_, _, by simp [h2, maxTime, ht]; exact ⟨rfl, rfl⟩, h⟩
          · exact (fail_be peF rvF id name rule payload status due tries worker token till b c t now w hP hJ hL h2 hn hz.1 hz.2 hn'.1 (by omega) hd (by omega) (by simpa using hr)).mono fun e w' h => ⟨_, _, by simp [h2, maxTime, ht]; exact ⟨rfl, rfl⟩, h⟩
      · have hd' : 32503680000 ≤ now + delayF ⟨b, c, t⟩ (min (tries + 1) 16 - 1) := by omega
        cases hr : rule.toList.isEmpty
        · generalize nxF rule now = q at *
          obtain ⟨qt, is⟩ := q
          cases is
          · exact (fail_cf peF rvF id name rule payload status due tries worker token till b c t now w hP hJ hL h2 hn hz.1 hz.2 hn'.1 (by omega) hd' hr _ _ hN).mono fun e w' h => ⟨_, _, by simp [h2, maxTime, hd]; exact ⟨rfl, rfl⟩, h⟩
          · exact (fail_ct peF rvF id name rule payload status due tries worker token till b c t now w hP hJ hL h2 hn hz.1 hz.2 hn'.1 (by omega) hd' hr _ _ hN).mono fun e w' h => ⟨_, _, by simp [h2, maxTime, hd]; exact ⟨rfl, rfl⟩, h⟩
        · exact (fail_ce peF rvF id name rule payload status due tries worker token till b c t now w hP hJ hL h2 hn hz.1 hz.2 hn'.1 (by omega) hd' (by simpa using hr)).mono fun e w' h => ⟨_, _, by simp [h2, maxTime, hd]; exact ⟨rfl, rfl⟩, h⟩
  · rw [hJ] at hC
    rw [hL] at hD
    rw [if_neg h2] at hE
    exact (fail_e2 id name rule payload status due tries worker token till b c t now _ _ _ w hC hD hE rfl rfl rfl).mono fun e w' h => ⟨zero, 81, by simp [h2], h⟩

/-- A job that is done, when it comes again; does it; an error's number. -/
def finF (pe : ByteArray → Int) (nx : ByteArray → Int → Int × Bool) (j : Job) (now : Int) : Job × Bool × Int :=
  if jobOk pe j = false then (zero, false, 9)
  else if ¬ j.status = 2 then (zero, false, 81)
  else if within now 0 32503679999 = false then (zero, false, 4)
  else if j.rule.toList.isEmpty = false ∧ (nx j.rule now).2 = true then (⟨j.id, j.name, j.rule, j.payload, 1, (nx j.rule now).1, 0, 0, 0, 0⟩, true, 0)
  else (zero, false, 0)

theorem fin_t (m : Int) (id : Int) (name rule payload : ByteArray) (status due tries worker token till : Int) (now : Int) (w : World) (hs : rule.size < 9223372036854775808) (he : Env m w) :
    Calls Tryd.prog 15 #[.agg #[.int .i64 id, .string name, .string rule, .string payload, .int .i64 status, .int .i64 due, .int .i64 tries, .int .i64 worker, .int .i64 token, .int .i64 till], .int .i64 now] w fun e w' => ∃ a is n, finF peF nxF ⟨id, name, rule, payload, status, due, tries, worker, token, till⟩ now = (a, is, n) ∧ e = .returned (.tuple #[.agg #[.int .i64 a.id, .string a.name, .string a.rule, .string a.payload, .int .i64 a.status, .int .i64 a.due, .int .i64 a.tries, .int .i64 a.worker, .int .i64 a.token, .int .i64 a.till], .bool is, .int .i64 n]) ∧ Below w.heap.size w w' := by
  have hP : rule.toList.isEmpty = false → ParseC peF rvF rule w := fun _ => parseC rule m w hs he
  have hN := nextC rule now m w he
  have hC := fun W (hB : Below w.heap.size w W) => check_calls peF rvF id name rule payload status due tries worker token till W (fun h => (hP h).mono hB)
  have hE := fun W (_ : Below w.heap.size w W) => leased_calls id name rule payload status due tries worker token till now W
  unfold finF
  cases hJ : jobOk peF ⟨id, name, rule, payload, status, due, tries, worker, token, till⟩
  · rw [hJ] at hC
    exact (fin_e0 id name rule payload status due tries worker token till now _ _ w hC hE rfl).mono fun e w' h => ⟨zero, false, 9, by simp, h⟩
  rw [hJ] at hC
  by_cases h2 : status = 2
  · rw [if_pos h2] at hE
    cases hn : within now 0 32503679999
    · rw [hn] at hE
      exact (fin_e2 id name rule payload status due tries worker token till now _ _ w hC hE rfl rfl).mono fun e w' h => ⟨zero, false, 4, by simp [h2], h⟩
    · rw [hn] at hE
      cases hr : rule.toList.isEmpty
      · have hA : AgainC id name rule payload status due tries worker token till now (.agg #[.int .i64 id, .string name, .string rule, .string payload, .int .i64 1, .int .i64 (nxF rule now).1, .int .i64 0, .int .i64 0, .int .i64 0, .int .i64 0]) (nxF rule now).2 w := fun W hW =>
          again_n peF rvF id name rule payload status due tries worker token till now _ _ _ W hr ((hP hr).mono hW) (hN.mono hW)
        generalize nxF rule now = q at *
        obtain ⟨qt, is⟩ := q
        cases is
        · exact (fin_no id name rule payload status due tries worker token till now _ _ w hC hE rfl rfl _ _ _ _ _ _ _ _ _ _ hA).mono fun e w' h => ⟨zero, false, 0, by simp [h2], h⟩
        · exact (fin_yes id name rule payload status due tries worker token till now _ _ w hC hE rfl rfl _ _ _ _ _ _ _ _ _ _ hA).mono fun e w' h => ⟨_, _, _, by simp [h2]; exact ⟨rfl, rfl, rfl⟩, h⟩
      · have hA : AgainC id name rule payload status due tries worker token till now (.agg #[.int .i64 0, .string ⟨#[]⟩, .string ⟨#[]⟩, .string ⟨#[]⟩, .int .i64 0, .int .i64 0, .int .i64 0, .int .i64 0, .int .i64 0, .int .i64 0]) false w := fun W hW => again_e id name rule payload status due tries worker token till now W (by simpa using hr)
        exact (fin_no id name rule payload status due tries worker token till now _ _ w hC hE rfl rfl _ _ _ _ _ _ _ _ _ _ hA).mono fun e w' h => ⟨zero, false, 0, by simp [h2], h⟩
  · rw [if_neg h2] at hE
    exact (fin_e2 id name rule payload status due tries worker token till now _ _ w hC hE rfl rfl).mono fun e w' h => ⟨zero, false, 81, by simp [h2], h⟩
end Go.Proofs.YtaelddnkdklijaaDoor.Jk
