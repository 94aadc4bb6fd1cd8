/- A loop over a function whose iterator keeps a state of its own in one box: the caller's law. -/
import Derived.Test.YtaelddnkdklijaaDoorJw
import Derived.RangeFuncNested
import Derived.RangeFuncBound
import Derived.RangeFuncCalls
import Derived.RangeFuncLeaves
import Derived.Shelf.Abstract
import Derived.Shelf.RegionOpen
import Derived.OwnWalkIn
import Derived.TacticsInMore
import Derived.LoopNIn
import Derived.LoopIn
set_option linter.unusedVariables false
namespace Go.Proofs.YtaelddnkdklijaaDoor.Rf
open Go Go.RowKit Go.Shelf Go.Proofs Go.Proofs.YtaelddnkdklijaaDoor.Jw

/-- What lies from block B on lies as it lay. -/
def Up (B : Nat) (W W' : World) : Prop := W.heap.size ≤ W'.heap.size ∧ ∀ k, B ≤ k → k < W.heap.size → W'.heap[k]? = W.heap[k]?
theorem Up.refl (B : Nat) (W : World) : Up B W W := ⟨Nat.le_refl _, fun _ _ _ => rfl⟩
theorem Up.trans {B : Nat} {U V W : World} (h : Up B U V) (k : Up B V W) : Up B U W :=
  ⟨Nat.le_trans h.1 k.1, fun i hi hl => (k.2 i hi (Nat.lt_of_lt_of_le hl h.1)).trans (h.2 i hi hl)⟩

/-- The iterator's own steps: nothing but its box sb, and what is new. -/
def BoxSteps (sb : Nat) (W W' : World) : Prop := Below sb W W' ∧ ∀ k, sb < k → k < W.heap.size → W'.heap[k]? = W.heap[k]?

def SeqBox {α : Type} (F : Fence) (n : Nat) (P : Program) (g : Nat) (lb : Array Value) (enc : α → Value) (Ok : α → Prop) (B sb : Nat) (S Sp : List α → Prop) (w : World) : Prop :=
  ∀ (l : Nat) (J Jx : List α → World → Prop) (W : World), Below w.heap.size w W → (∀ s W W', J s W → BoxSteps sb W W' → J s W') → (∀ s W W', Jx s W → BoxSteps sb W W' → Jx s W') →
    (∀ pre x W1, Ok x → J pre W1 → YieldAt F (n - 1) P l #[enc x] W1 fun e W' => (e = .returned (.bool true) ∧ J (pre ++ [x]) W' ∧ Up B W1 W') ∨ (e = .returned (.bool false) ∧ Jx (pre ++ [x]) W')) →
    J [] W →
    CallsIn F n P g (#[.func (.yield l) #[] #[]] ++ lb) W fun e W' => (∃ v, e = .returned v) ∧ ((∃ xs, S xs ∧ J xs W') ∨ (∃ pre, Sp pre ∧ Jx pre W'))

def boxPost {α : Type} (B : Nat) (I : List α → World → Prop) (Ix : Code → List α → World → Prop) (xs : List α) (W : World) : Exit → Act → World → Prop
  | .normal, _, W' => Up B W W' ∧ I xs W'
  | .ret, _, W' => Up B W W' ∧ Ix .ret xs W'
  | .exit id, _, W' => Up B W W' ∧ Ix (.exit id) xs W'
  | .goto t, _, W' => Up B W W' ∧ Ix (.goto t) xs W'
  | .panic _, _, _ => False
  | .outgrown, _, _ => False

theorem below_put {B l : Nat} {W : World} (h : B ≤ l) (o : Obj) : Below B W (W.putObj l o) :=
  ⟨rfl, rfl, rfl, by simp, fun i hi => World.putObj_heap_other (by omega)⟩

variable {F : Fence} {n : Nat} {P : Program}

theorem wpIn_rangeFunc_box {α : Type} {g : Operand} {ps : Array Tmp} {assign body : Code} {Q : Exit → Act → World → Prop} {a : Act} {w : World}
    (hro : F.round = none) (h1 : 1 ≤ n) {gf : Nat} {lb : Array Value} (hg : a.eval g = .func (.func gf) #[] lb) (hFg : F.fn gf) (eg : ∀ args w, (callFunc gf args).run P w = .ok (.enter gf args) w)
    {enc : α → Value} {Ok : α → Prop} {B sb : Nat} {S Sp : List α → Prop} {w0 : World} (hB : B ≤ sb) (hsb : sb < w.heap.size) (hseq : SeqBox F (n - 1) P gf lb enc Ok B sb S Sp w0) (hb0 : Below w0.heap.size w0 w) (hps : ps.size = 1)
    (I : List α → World → Prop) (Ix : Code → List α → World → Prop) (hI : ∀ s W W', I s W → Below B W W' → I s W') (hIx : ∀ c s W W', Ix c s W → Below B W W' → Ix c s W') (h0 : I [] w) (a₁ : α → Act)
    (hassign : ∀ (l : Nat) (x : α) (W : World) (K : Act → World → Prop), K (a₁ x) W →
      assign.wpIn (F.inRound l) (n - 1 - 1) P (Exit.then K (fun _ _ _ => False)) { tmps := (ps.zip #[enc x]).foldl (fun t (p, v) => t.setIfInBounds p v) a.tmps, defers := [] } W)
    (hbody : ∀ (l : Nat) (pre : List α) (x : α) (W : World), Ok x → I pre W → w.heap.size ≤ W.heap.size → body.wpIn (F.inRound l) (n - 1 - 1) P (boxPost B I Ix (pre ++ [x]) W) (a₁ x) W)
    (hdone : ∀ (D : Nat) (xs : List α) (W : World), w.heap.size ≤ D → S xs → I xs W → W.heap[D]? = some (.deferred (some [])) → Q .normal { a with defers := { target := .collected D, args := #[] } :: a.defers } W)
    (hstop : ∀ (D : Nat) (c : Code) (pre : List α) (W : World), w.heap.size ≤ D → Sp pre → Ix c pre W → W.heap[D]? = some (.deferred (some [])) → c.wpIn F n P Q { a with defers := { target := .collected D, args := #[] } :: a.defers } W) :
    (Code.rangeFunc g ps assign body).wpIn F n P Q a w := by
  refine wpIn_rangeFunc fun fn hfn => ?_
  rw [hro]
  let D := w.heap.size
  let l := D + 1
  let rc : LoopState → Option Code → Loop := fun st pe => { state := st, pending := pe, fn, tmps := a.tmps, params := ps, assign, body, defers := D }
  obtain ⟨W1, hW1⟩ : ∃ W1, (w.alloc (.deferred (some []))).alloc (.loop (rc .ready none)) = W1 := ⟨_, rfl⟩
  have bel : Below w.heap.size w W1 := by rw [← hW1]; exact ((Below.refl _ w).alloc (Nat.le_refl _) _).alloc (by simp) _
  have hL1 : W1.heap[l]? = some (.loop (rc .ready none)) := by
    have := World.alloc_heap_new (w.alloc (.deferred (some []))) (.loop (rc .ready none))
    rw [World.size_alloc] at this
    rw [← hW1]; exact this
  have hD1 : W1.heap[D]? = some (.deferred (some [])) := by
    rw [← hW1]; exact (Below.heap_alloc _ _ _ (by simp [D])).trans (World.alloc_heap_new w _)
  have hBw : B ≤ w.heap.size := by omega
  have hI1 : I [] W1 := hI _ _ _ h0 (bel.mono hBw)
  refine ⟨l, [{ target := .collected D, args := #[] }], W1, { target := .fn (.func gf) lb, args := #[.func (.yield l) #[] #[]] }, W1, gf, #[.func (.yield l) #[] #[]] ++ lb, W1, ?_, ?_, ?_, ?_, fun _ => h1, ?_⟩
  · rw [← hW1]; exact run_enterLoop_outer _ _ _ _ _
  · simp only [resolve, hg]
    simp [go_sem]
  · intro f' hf'; simp [Target.leads] at hf'; subst hf'; exact hFg
  · simp [invoke, go_sem, eg]
  have stepsB : ∀ {U V : World}, BoxSteps sb U V → Below B U V := fun h => h.1.mono hB
  have stepsAt : ∀ {U V : World} {k : Nat} {o : Obj}, BoxSteps sb U V → D ≤ k → U.heap[k]? = some o → V.heap[k]? = some o := fun h hk ho =>
    (h.2 _ (by omega) (Array.getElem?_eq_some_iff.1 ho).1).trans ho
  refine (hseq l (fun pre W => I pre W ∧ W.heap[l]? = some (.loop (rc .ready none)) ∧ W.heap[D]? = some (.deferred (some [])))
    (fun pre W => ∃ c, Ix c pre W ∧ W.heap[l]? = some (.loop (rc .done (some c))) ∧ W.heap[D]? = some (.deferred (some [])))
    W1 (hb0.trans (bel.mono hb0.size))
    (fun s U V hs hst => ⟨hI _ _ _ hs.1 (stepsB hst), stepsAt hst (by omega) hs.2.1, stepsAt hst (by omega) hs.2.2⟩)
    (fun s U V hs hst => by
      obtain ⟨c, hc, hl, hd⟩ := hs
      exact ⟨c, hIx _ _ _ _ hc (stepsB hst), stepsAt hst (by omega) hl, stepsAt hst (by omega) hd⟩)
    ?_ ⟨hI1, hL1, hD1⟩).mono ?_
  · rintro pre x W hok ⟨hi, hl, hd⟩
    have hlt : l < W.heap.size := (Array.getElem?_eq_some_iff.1 hl).1
    have hy := run_yield (P := P) (args := #[enc x]) hl (by simp [rc, hps])
    obtain ⟨W2, hW2⟩ : ∃ W2, W.putObj l (.loop { rc .ready none with state := .busy }) = W2 := ⟨_, rfl⟩
    have hl2 : W2.heap[l]? = some (.loop { rc .ready none with state := .busy }) := by rw [← hW2]; exact World.putObj_heap_same hlt
    have hd2 : W2.heap[D]? = some (.deferred (some [])) := by rw [← hW2]; exact (World.putObj_heap_other (by omega)).trans hd
    have hi2 : I pre W2 := by rw [← hW2]; exact hI _ _ _ hi (below_put (by omega) _)
    have hz2 : W2.heap.size = W.heap.size := by rw [← hW2]; simp
    refine ⟨fn, _, assign, body, hy, roundIn_of_wpIn hfn (hassign l x W _ ⟨W2, by rw [← hW2]; exact run_beginRound hl rfl, ?_⟩)⟩
    refine wpIn_mono (hbody l pre x W2 hok hi2 (by omega)) ?_
    have fin : ∀ (jump : Option Code) (W3 : World), Up B W2 W3 →
        (Instr.endRound l jump).run P W3 = .ok (.bool jump.isNone) (W3.putObj l (.loop (rc (if jump.isNone then .ready else .done) jump))) ∧
        (W3.putObj l (.loop (rc (if jump.isNone then .ready else .done) jump))).heap[l]? = some (.loop (rc (if jump.isNone then .ready else .done) jump)) ∧
        (W3.putObj l (.loop (rc (if jump.isNone then .ready else .done) jump))).heap[D]? = some (.deferred (some [])) := fun jump W3 hu => by
      have hl3 := (hu.2 l (by omega) (by omega)).trans hl2
      exact ⟨run_endRound jump hl3, World.putObj_heap_same (Array.getElem?_eq_some_iff.1 hl3).1, (World.putObj_heap_other (by omega)).trans ((hu.2 D (by omega) (by omega)).trans hd2)⟩
    rintro e a3 W3 hp
    cases e with
    | normal =>
      obtain ⟨hu, hi3⟩ := hp
      obtain ⟨hr, hl4, hd4⟩ := fin none W3 hu
      refine ⟨_, _, hr, .inl ⟨rfl, ⟨hI _ _ _ hi3 (below_put (by omega) _), hl4, hd4⟩, ?_, ?_⟩⟩
      · simp only [World.putObj_size]; have := hu.1; omega
      · intro k hk hlk
        by_cases e : k = l
        · subst e; exact hl4.trans hl.symm
        · rw [World.putObj_heap_other e, hu.2 k hk (by omega), ← hW2, World.putObj_heap_other e]
    | ret =>
      obtain ⟨hu, hi3⟩ := hp
      obtain ⟨hr, hl4, hd4⟩ := fin (some .ret) W3 hu
      exact ⟨_, _, hr, .inr ⟨rfl, .ret, hIx _ _ _ _ hi3 (below_put (by omega) _), hl4, hd4⟩⟩
    | exit id =>
      obtain ⟨hu, hi3⟩ := hp
      obtain ⟨hr, hl4, hd4⟩ := fin (some (.exit id)) W3 hu
      exact ⟨_, _, hr, .inr ⟨rfl, .exit id, hIx _ _ _ _ hi3 (below_put (by omega) _), hl4, hd4⟩⟩
    | goto t =>
      obtain ⟨hu, hi3⟩ := hp
      obtain ⟨hr, hl4, hd4⟩ := fin (some (.goto t)) W3 hu
      exact ⟨_, _, hr, .inr ⟨rfl, .goto t, hIx _ _ _ _ hi3 (below_put (by omega) _), hl4, hd4⟩⟩
    | panic ch => exact hp.elim
    | outgrown => exact hp.elim
  · rintro e W2 ⟨⟨v, rfl⟩, (⟨xs, hS, hi, hl, hd⟩ | ⟨pre, hSp, c, hi, hl, hd⟩)⟩
    · exact ⟨none, _, run_endLoop hl (by simp [rc]), hdone D xs _ (Nat.le_refl _) hS (hI _ _ _ hi (below_put (by omega) _)) ((World.putObj_heap_other (by omega)).trans hd)⟩
    · exact ⟨some c, _, run_endLoop hl (by simp [rc]), hstop D c pre _ (Nat.le_refl _) hSp (hIx _ _ _ _ hi (below_put (by omega) _)) ((World.putObj_heap_other (by omega)).trans hd)⟩
end Go.Proofs.YtaelddnkdklijaaDoor.Rf
