/- The walk of cron's reading: item. -/
import Derived.Test.YtaelddnkdklijaaDoorPb
set_option linter.unusedSimpArgs false
set_option linter.unusedVariables false
namespace Go.Proofs.YtaelddnkdklijaaDoor.Pc
open Go.RowKit Go.Shelf Go.Proofs Go.Proofs.YtaelddnkdklijaaDoor.Jp Go.Proofs.YtaelddnkdklijaaDoor.Jw Go.Proofs.YtaelddnkdklijaaDoor.Cp Go.Proofs.YtaelddnkdklijaaDoor.Ca Go.Proofs.YtaelddnkdklijaaDoor.Pa Go.Proofs.YtaelddnkdklijaaDoor.Pb

def orSteps : Nat → Nat → Nat → Nat → Nat → Nat
  | 0, _, _, _, acc => acc
  | f + 1, i, hi, st, acc => if i ≤ hi then orSteps f (i + st) hi st (acc ||| 2 ^ i) else acc

theorem ret_ub {a a' : Int} {b b' : Bool} (h : a = a') (h' : b = b') : Ending.returned (.tuple #[.int .u64 a, .bool b]) = .returned (.tuple #[.int .u64 a', .bool b']) := by rw [h, h']
theorem or_val (x m : Nat) (hn : m < 64) (hx : x < 18446744073709551616) : bits .or .u64 (x : Int) (IntKind.u64.wrap (2 ^ m)) = ((x ||| 2 ^ m : Nat) : Int) := by
  have h2 : (2 : Nat) ^ m < 18446744073709551616 := Nat.lt_of_lt_of_le (Nat.pow_lt_pow_right (by omega) (show m < 64 by omega)) (by decide)
  have e : IntKind.u64.wrap (2 ^ m) = ((2 ^ m : Nat) : Int) := by
    have : ((2 : Int) ^ m) = ((2 ^ m : Nat) : Int) := by simp
    rw [this, IntKind.wrap_u64]
    generalize 2 ^ m = z at h2
    omega
  rw [e, bits_or_u64_nat x _ hx h2]

set_option maxRecDepth 100000 in
theorem item_fail (lo hi : Int) (s t by_ : ByteArray) (x y n : Int) (v ns wd ok : Bool) (w : World)
    (hf : (v = true ∧ (ns = false ∨ n = 0)) ∨ (ok = false) ∨ (v = true ∧ wd = false))
    (hC : ∀ W, Below w.heap.size w W → Calls Tryd.prog 130 #[.string s, .string ⟨#[47]⟩] W fun e w' => e = .returned (.tuple #[.string t, .string by_, .bool v]) ∧ ∃ n, w' = W.drewN n)
    (hN : ∀ W, Calls Tryd.prog 131 #[.string by_] W fun e w' => e = .returned (.tuple #[.int .i64 n, .bool ns]) ∧ Below W.heap.size W w')
    (hS : ∀ W, Below w.heap.size w W → Calls Tryd.prog 132 #[.agg #[.int .i64 lo, .int .i64 hi], .string t] W fun e w' => e = .returned (.tuple #[.agg #[.int .i64 x, .int .i64 y], .bool wd, .bool ok]) ∧ Below W.heap.size W w') :
    Calls Tryd.prog 103 #[.agg #[.int .i64 lo, .int .i64 hi], .string s] w fun e w' => e = .returned (.tuple #[.int .u64 0, .bool false]) ∧ Below w.heap.size w w' := by
  have HC := Lib.hid hC
  have HN := Lib.hid hN
  have HS := Lib.hid hS
  clear hC hN hS
  by_cases h1 : v = true ∧ (ns = false ∨ n = 0)
  · obtain ⟨rfl, h1⟩ := h1
    clear hf
    rcases h1 with rfl | rfl
    all_goals
      go_enter Tryd.func103, Tryd.ntmps103
      go_wp2_with (first
        | (go_at_call 130; refine (HC.out _ (by repeat' (first | (with_reducible exact Below.refl _ _) | (with_reducible assumption) | (with_reducible refine bl_alloc ?_ (Nat.le_refl _) _) | (with_reducible refine bl_drew ?_) | (with_reducible refine bl_drewN ?_ _) | (with_reducible refine bl_setRow ?_ (by first | (simp; done) | (simp; omega) | omega) _) | (with_reducible refine bl_setCell ?_ (by first | (simp; done) | (simp; omega) | omega) _) | (with_reducible refine bl_trans ?_ (Nat.le_refl _) (by assumption))))).mono ?_; rintro e w1 ⟨rfl, n1, rfl⟩)
        | (go_at_call 131; refine (HN.out _).mono ?_; rintro e w2 ⟨rfl, hb2⟩))
      all_goals
        go_ret2
        exact ⟨rfl, by repeat' (first | (with_reducible exact Below.refl _ _) | (with_reducible assumption) | (with_reducible refine bl_alloc ?_ (Nat.le_refl _) _) | (with_reducible refine bl_drew ?_) | (with_reducible refine bl_drewN ?_ _) | (with_reducible refine bl_setRow ?_ (by first | (simp; done) | (simp; omega) | omega) _) | (with_reducible refine bl_setCell ?_ (by first | (simp; done) | (simp; omega) | omega) _) | (with_reducible refine bl_trans ?_ (Nat.le_refl _) (by assumption)))⟩
  · have h2 : ok = false ∨ (v = true ∧ wd = false) := by
      rcases hf with h | h | h
      · exact absurd h h1
      · exact Or.inl h
      · exact Or.inr h
    have h3 : v = true → ns = true ∧ (n == 0) = false := by
      rintro rfl
      refine ⟨by cases ns <;> simp_all, by simpa using fun e => h1 ⟨rfl, Or.inr e⟩⟩
    clear h1 hf
    cases v
    · have h4 : ok = false := by
        rcases h2 with h | h
        · exact h
        · exact absurd h.1 (by simp)
      subst h4
      clear h2 h3
      go_enter Tryd.func103, Tryd.ntmps103
      go_wp2_with (first
        | (go_at_call 130; refine (HC.out _ (by repeat' (first | (with_reducible exact Below.refl _ _) | (with_reducible assumption) | (with_reducible refine bl_alloc ?_ (Nat.le_refl _) _) | (with_reducible refine bl_drew ?_) | (with_reducible refine bl_drewN ?_ _) | (with_reducible refine bl_setRow ?_ (by first | (simp; done) | (simp; omega) | omega) _) | (with_reducible refine bl_setCell ?_ (by first | (simp; done) | (simp; omega) | omega) _) | (with_reducible refine bl_trans ?_ (Nat.le_refl _) (by assumption))))).mono ?_; rintro e w1 ⟨rfl, n1, rfl⟩)
        | (go_at_call 132; refine (HS.out _ (by repeat' (first | (with_reducible exact Below.refl _ _) | (with_reducible assumption) | (with_reducible refine bl_alloc ?_ (Nat.le_refl _) _) | (with_reducible refine bl_drew ?_) | (with_reducible refine bl_drewN ?_ _) | (with_reducible refine bl_setRow ?_ (by first | (simp; done) | (simp; omega) | omega) _) | (with_reducible refine bl_setCell ?_ (by first | (simp; done) | (simp; omega) | omega) _) | (with_reducible refine bl_trans ?_ (Nat.le_refl _) (by assumption))))).mono ?_; rintro e w3 ⟨rfl, hb3⟩; have z3 : w.heap.size + 1 ≤ w3.heap.size := (by have h := hb3.size; (try simp at h); omega); have H3 : Below w.heap.size w w3 := (by repeat' (first | (with_reducible exact Below.refl _ _) | (with_reducible assumption) | (with_reducible refine bl_alloc ?_ (Nat.le_refl _) _) | (with_reducible refine bl_drew ?_) | (with_reducible refine bl_drewN ?_ _) | (with_reducible refine bl_setRow ?_ (by first | (simp; done) | (simp; omega) | omega) _) | (with_reducible refine bl_setCell ?_ (by first | (simp; done) | (simp; omega) | omega) _) | (with_reducible refine bl_trans ?_ (Nat.le_refl _) (by assumption)))); have p3 : Blk w3 (w.heap.size) 141 #[.int .i64 lo, .int .i64 hi] := (by repeat' (first | (with_reducible exact Blk.new _ _ _) | (with_reducible refine Blk.new' _ _ ?_; simp; done) | (with_reducible assumption) | (with_reducible refine Blk.alloc ?_ _) | (with_reducible refine Blk.drew ?_) | (with_reducible refine Blk.drewN ?_ _) | (with_reducible refine Blk.far ?_ (by first | (simp; done) | (simp; omega) | omega) _) | (with_reducible apply Blk.setTo) | (with_reducible refine Blk.rowFar ?_ (by first | (simp; done) | (simp; omega) | omega) _) | (with_reducible refine Blk.below ?_ hb3 (by first | (simp; done) | (simp; omega) | omega)) | rfl)); have p3q := p3.cell; have p3f := p3.frozen; have p3l := p3.lt; clear hb3))
      all_goals
        go_ret2
        exact ⟨rfl, by repeat' (first | (with_reducible exact Below.refl _ _) | (with_reducible assumption) | (with_reducible refine bl_alloc ?_ (Nat.le_refl _) _) | (with_reducible refine bl_drew ?_) | (with_reducible refine bl_drewN ?_ _) | (with_reducible refine bl_setRow ?_ (by first | (simp; done) | (simp; omega) | omega) _) | (with_reducible refine bl_setCell ?_ (by first | (simp; done) | (simp; omega) | omega) _) | (with_reducible refine bl_trans ?_ (Nat.le_refl _) (by assumption)))⟩
    · obtain ⟨rfl, h4⟩ := h3 rfl
      clear h3
      cases ok <;> cases wd
      case true.true => exact absurd h2 (by simp)
      all_goals
        clear h2
        go_enter Tryd.func103, Tryd.ntmps103
        go_wp2_with (first
          | (go_at_call 130; refine (HC.out _ (by repeat' (first | (with_reducible exact Below.refl _ _) | (with_reducible assumption) | (with_reducible refine bl_alloc ?_ (Nat.le_refl _) _) | (with_reducible refine bl_drew ?_) | (with_reducible refine bl_drewN ?_ _) | (with_reducible refine bl_setRow ?_ (by first | (simp; done) | (simp; omega) | omega) _) | (with_reducible refine bl_setCell ?_ (by first | (simp; done) | (simp; omega) | omega) _) | (with_reducible refine bl_trans ?_ (Nat.le_refl _) (by assumption))))).mono ?_; rintro e w1 ⟨rfl, n1, rfl⟩)
          | (go_at_call 131; refine (HN.out _).mono ?_; rintro e w2 ⟨rfl, hb2⟩; have z2 : w.heap.size + 1 ≤ w2.heap.size := (by have h := hb2.size; (try simp at h); omega); have H2 : Below w.heap.size w w2 := (by repeat' (first | (with_reducible exact Below.refl _ _) | (with_reducible assumption) | (with_reducible refine bl_alloc ?_ (Nat.le_refl _) _) | (with_reducible refine bl_drew ?_) | (with_reducible refine bl_drewN ?_ _) | (with_reducible refine bl_setRow ?_ (by first | (simp; done) | (simp; omega) | omega) _) | (with_reducible refine bl_setCell ?_ (by first | (simp; done) | (simp; omega) | omega) _) | (with_reducible refine bl_trans ?_ (Nat.le_refl _) (by assumption)))); have p2 : Blk w2 (w.heap.size) 141 #[.int .i64 lo, .int .i64 hi] := (by repeat' (first | (with_reducible exact Blk.new _ _ _) | (with_reducible refine Blk.new' _ _ ?_; simp; done) | (with_reducible assumption) | (with_reducible refine Blk.alloc ?_ _) | (with_reducible refine Blk.drew ?_) | (with_reducible refine Blk.drewN ?_ _) | (with_reducible refine Blk.far ?_ (by first | (simp; done) | (simp; omega) | omega) _) | (with_reducible apply Blk.setTo) | (with_reducible refine Blk.rowFar ?_ (by first | (simp; done) | (simp; omega) | omega) _) | (with_reducible refine Blk.below ?_ hb2 (by first | (simp; done) | (simp; omega) | omega)) | rfl)); have p2q := p2.cell; have p2f := p2.frozen; have p2l := p2.lt; clear hb2)
          | (go_at_call 132; refine (HS.out _ (by repeat' (first | (with_reducible exact Below.refl _ _) | (with_reducible assumption) | (with_reducible refine bl_alloc ?_ (Nat.le_refl _) _) | (with_reducible refine bl_drew ?_) | (with_reducible refine bl_drewN ?_ _) | (with_reducible refine bl_setRow ?_ (by first | (simp; done) | (simp; omega) | omega) _) | (with_reducible refine bl_setCell ?_ (by first | (simp; done) | (simp; omega) | omega) _) | (with_reducible refine bl_trans ?_ (Nat.le_refl _) (by assumption))))).mono ?_; rintro e w3 ⟨rfl, hb3⟩; have z3 : w.heap.size + 1 ≤ w3.heap.size := (by have h := hb3.size; (try simp at h); omega); have H3 : Below w.heap.size w w3 := (by repeat' (first | (with_reducible exact Below.refl _ _) | (with_reducible assumption) | (with_reducible refine bl_alloc ?_ (Nat.le_refl _) _) | (with_reducible refine bl_drew ?_) | (with_reducible refine bl_drewN ?_ _) | (with_reducible refine bl_setRow ?_ (by first | (simp; done) | (simp; omega) | omega) _) | (with_reducible refine bl_setCell ?_ (by first | (simp; done) | (simp; omega) | omega) _) | (with_reducible refine bl_trans ?_ (Nat.le_refl _) (by assumption)))); have p3 : Blk w3 (w.heap.size) 141 #[.int .i64 lo, .int .i64 hi] := (by repeat' (first | (with_reducible exact Blk.new _ _ _) | (with_reducible refine Blk.new' _ _ ?_; simp; done) | (with_reducible assumption) | (with_reducible refine Blk.alloc ?_ _) | (with_reducible refine Blk.drew ?_) | (with_reducible refine Blk.drewN ?_ _) | (with_reducible refine Blk.far ?_ (by first | (simp; done) | (simp; omega) | omega) _) | (with_reducible apply Blk.setTo) | (with_reducible refine Blk.rowFar ?_ (by first | (simp; done) | (simp; omega) | omega) _) | (with_reducible refine Blk.below ?_ hb3 (by first | (simp; done) | (simp; omega) | omega)) | rfl)); have p3q := p3.cell; have p3f := p3.frozen; have p3l := p3.lt; clear hb3))
        all_goals
          go_ret2
          exact ⟨rfl, by repeat' (first | (with_reducible exact Below.refl _ _) | (with_reducible assumption) | (with_reducible refine bl_alloc ?_ (Nat.le_refl _) _) | (with_reducible refine bl_drew ?_) | (with_reducible refine bl_drewN ?_ _) | (with_reducible refine bl_setRow ?_ (by first | (simp; done) | (simp; omega) | omega) _) | (with_reducible refine bl_setCell ?_ (by first | (simp; done) | (simp; omega) | omega) _) | (with_reducible refine bl_trans ?_ (Nat.le_refl _) (by assumption)))⟩

set_option maxRecDepth 100000 in
theorem item_ok (lo hi : Int) (s t by_ : ByteArray) (x y st : Nat) (n : Int) (v ns wd : Bool) (w : World) (hx : x ≤ y) (hy : y < 64) (hs1 : 1 ≤ st) (hs2 : st ≤ 99)
    (hf : (v = false ∧ st = 1) ∨ (v = true ∧ ns = true ∧ wd = true ∧ n = st))
    (hC : ∀ W, Below w.heap.size w W → Calls Tryd.prog 130 #[.string s, .string ⟨#[47]⟩] W fun e w' => e = .returned (.tuple #[.string t, .string by_, .bool v]) ∧ ∃ n, w' = W.drewN n)
    (hN : ∀ W, Calls Tryd.prog 131 #[.string by_] W fun e w' => e = .returned (.tuple #[.int .i64 n, .bool ns]) ∧ Below W.heap.size W w')
    (hS : ∀ W, Below w.heap.size w W → Calls Tryd.prog 132 #[.agg #[.int .i64 lo, .int .i64 hi], .string t] W fun e w' => e = .returned (.tuple #[.agg #[.int .i64 x, .int .i64 y], .bool wd, .bool true]) ∧ Below W.heap.size W w') :
    Calls Tryd.prog 103 #[.agg #[.int .i64 lo, .int .i64 hi], .string s] w fun e w' => e = .returned (.tuple #[.int .u64 (orSteps 65 x y st 0 : Nat), .bool true]) ∧ Below w.heap.size w w' := by
  have HC := Lib.hid hC
  have HN := Lib.hid hN
  have HS := Lib.hid hS
  clear hC hN hS
  generalize hR' : orSteps 65 x y st 0 = R
  have hR := Lib.hid hR'
  clear hR'
  rcases hf with ⟨rfl, h2⟩ | ⟨rfl, rfl, rfl, h2⟩
  · obtain rfl := h2
    go_enter Tryd.func103, Tryd.ntmps103
    go_wp2_with (first
      | (go_at_call 130; refine (HC.out _ (by repeat' (first | (with_reducible exact Below.refl _ _) | (with_reducible assumption) | (with_reducible refine bl_alloc ?_ (Nat.le_refl _) _) | (with_reducible refine bl_drew ?_) | (with_reducible refine bl_drewN ?_ _) | (with_reducible refine bl_setRow ?_ (by first | (simp; done) | (simp; omega) | omega) _) | (with_reducible refine bl_setCell ?_ (by first | (simp; done) | (simp; omega) | omega) _) | (with_reducible refine bl_trans ?_ (Nat.le_refl _) (by assumption))))).mono ?_; rintro e w1 ⟨rfl, n1, rfl⟩)
      | (go_at_call 132; refine (HS.out _ (by repeat' (first | (with_reducible exact Below.refl _ _) | (with_reducible assumption) | (with_reducible refine bl_alloc ?_ (Nat.le_refl _) _) | (with_reducible refine bl_drew ?_) | (with_reducible refine bl_drewN ?_ _) | (with_reducible refine bl_setRow ?_ (by first | (simp; done) | (simp; omega) | omega) _) | (with_reducible refine bl_setCell ?_ (by first | (simp; done) | (simp; omega) | omega) _) | (with_reducible refine bl_trans ?_ (Nat.le_refl _) (by assumption))))).mono ?_; rintro e w3 ⟨rfl, hb3⟩; have z3 : w.heap.size + 1 ≤ w3.heap.size := (by have h := hb3.size; (try simp at h); omega); have H3 : Below w.heap.size w w3 := (by repeat' (first | (with_reducible exact Below.refl _ _) | (with_reducible assumption) | (with_reducible refine bl_alloc ?_ (Nat.le_refl _) _) | (with_reducible refine bl_drew ?_) | (with_reducible refine bl_drewN ?_ _) | (with_reducible refine bl_setRow ?_ (by first | (simp; done) | (simp; omega) | omega) _) | (with_reducible refine bl_setCell ?_ (by first | (simp; done) | (simp; omega) | omega) _) | (with_reducible refine bl_trans ?_ (Nat.le_refl _) (by assumption)))); have p3 : Blk w3 (w.heap.size) 141 #[.int .i64 lo, .int .i64 hi] := (by repeat' (first | (with_reducible exact Blk.new _ _ _) | (with_reducible refine Blk.new' _ _ ?_; simp; done) | (with_reducible assumption) | (with_reducible refine Blk.alloc ?_ _) | (with_reducible refine Blk.drew ?_) | (with_reducible refine Blk.drewN ?_ _) | (with_reducible refine Blk.far ?_ (by first | (simp; done) | (simp; omega) | omega) _) | (with_reducible apply Blk.setTo) | (with_reducible refine Blk.rowFar ?_ (by first | (simp; done) | (simp; omega) | omega) _) | (with_reducible refine Blk.below ?_ hb3 (by first | (simp; done) | (simp; omega) | omega)) | rfl)); have p3q := p3.cell; have p3f := p3.frozen; have p3l := p3.lt; clear hb3))
    have r3 : Blk (w3.alloc (Obj.cells #[.int .i64 x, .int .i64 y] 141)) w3.heap.size 141 #[.int .i64 x, .int .i64 y] := by refine Blk.new' _ _ ?_; simp
    go_loop [4, 11] (fun d i => ∃ (f j acc : Nat), j ≤ 200 ∧ i = .int .i64 j ∧ d = .int .u64 acc ∧ acc < 18446744073709551616 ∧ y + 1 ≤ j + f ∧ Hid (orSteps f j y 1 acc = R)) (fun d i => (300 - intOf i).toNat)
    case atStart => exact ⟨65, x, 0, by omega, rfl, rfl, by omega, by omega, hR⟩
    case round =>
      obtain ⟨f, j, acc, hj, rfl, rfl, ha, hf, hd⟩ := hrel
      by_cases c1 : (j : Int) ≤ y
      · have ho := or_val acc j (by omega) ha
        obtain ⟨g, rfl⟩ : ∃ g, f = g + 1 := ⟨f - 1, by omega⟩
        go_wp2
        go_round
        case rel =>
          refine ⟨g, j + 1, acc ||| 2 ^ j, by omega, by go_num, ?_, Nat.or_lt_two_pow (n := 64) ha (Nat.pow_lt_pow_right (by omega) (by omega)), by omega, Lib.hid ?_⟩
          · rfl
          · have e := hd.out
            rw [← e]
            simp only [orSteps]
            rw [if_pos (by omega)]
        case measure => simp [intOf]; omega
      · go_wp2
        go_ret2
        refine ⟨ret_ub ?_ rfl, by repeat' (first | (with_reducible exact Below.refl _ _) | (with_reducible assumption) | (with_reducible refine bl_alloc ?_ (Nat.le_refl _) _) | (with_reducible refine bl_drew ?_) | (with_reducible refine bl_drewN ?_ _) | (with_reducible refine bl_setRow ?_ (by first | (simp; done) | (simp; omega) | omega) _) | (with_reducible refine bl_setCell ?_ (by first | (simp; done) | (simp; omega) | omega) _) | (with_reducible refine bl_trans ?_ (Nat.le_refl _) (by assumption)))⟩
        have e := hd.out
        rw [← e]
        cases f with
        | zero => rfl
        | succ g => simp only [orSteps]; rw [if_neg (by omega)]
  · have h4 : (n == 0) = false := by simp; omega
    go_enter Tryd.func103, Tryd.ntmps103
    go_wp2_with (first
      | (go_at_call 130; refine (HC.out _ (by repeat' (first | (with_reducible exact Below.refl _ _) | (with_reducible assumption) | (with_reducible refine bl_alloc ?_ (Nat.le_refl _) _) | (with_reducible refine bl_drew ?_) | (with_reducible refine bl_drewN ?_ _) | (with_reducible refine bl_setRow ?_ (by first | (simp; done) | (simp; omega) | omega) _) | (with_reducible refine bl_setCell ?_ (by first | (simp; done) | (simp; omega) | omega) _) | (with_reducible refine bl_trans ?_ (Nat.le_refl _) (by assumption))))).mono ?_; rintro e w1 ⟨rfl, n1, rfl⟩)
      | (go_at_call 131; refine (HN.out _).mono ?_; rintro e w2 ⟨rfl, hb2⟩; have z2 : w.heap.size + 1 ≤ w2.heap.size := (by have h := hb2.size; (try simp at h); omega); have H2 : Below w.heap.size w w2 := (by repeat' (first | (with_reducible exact Below.refl _ _) | (with_reducible assumption) | (with_reducible refine bl_alloc ?_ (Nat.le_refl _) _) | (with_reducible refine bl_drew ?_) | (with_reducible refine bl_drewN ?_ _) | (with_reducible refine bl_setRow ?_ (by first | (simp; done) | (simp; omega) | omega) _) | (with_reducible refine bl_setCell ?_ (by first | (simp; done) | (simp; omega) | omega) _) | (with_reducible refine bl_trans ?_ (Nat.le_refl _) (by assumption)))); have p2 : Blk w2 (w.heap.size) 141 #[.int .i64 lo, .int .i64 hi] := (by repeat' (first | (with_reducible exact Blk.new _ _ _) | (with_reducible refine Blk.new' _ _ ?_; simp; done) | (with_reducible assumption) | (with_reducible refine Blk.alloc ?_ _) | (with_reducible refine Blk.drew ?_) | (with_reducible refine Blk.drewN ?_ _) | (with_reducible refine Blk.far ?_ (by first | (simp; done) | (simp; omega) | omega) _) | (with_reducible apply Blk.setTo) | (with_reducible refine Blk.rowFar ?_ (by first | (simp; done) | (simp; omega) | omega) _) | (with_reducible refine Blk.below ?_ hb2 (by first | (simp; done) | (simp; omega) | omega)) | rfl)); have p2q := p2.cell; have p2f := p2.frozen; have p2l := p2.lt; clear hb2)
      | (go_at_call 132; refine (HS.out _ (by repeat' (first | (with_reducible exact Below.refl _ _) | (with_reducible assumption) | (with_reducible refine bl_alloc ?_ (Nat.le_refl _) _) | (with_reducible refine bl_drew ?_) | (with_reducible refine bl_drewN ?_ _) | (with_reducible refine bl_setRow ?_ (by first | (simp; done) | (simp; omega) | omega) _) | (with_reducible refine bl_setCell ?_ (by first | (simp; done) | (simp; omega) | omega) _) | (with_reducible refine bl_trans ?_ (Nat.le_refl _) (by assumption))))).mono ?_; rintro e w3 ⟨rfl, hb3⟩; have z3 : w.heap.size + 1 ≤ w3.heap.size := (by have h := hb3.size; (try simp at h); omega); have H3 : Below w.heap.size w w3 := (by repeat' (first | (with_reducible exact Below.refl _ _) | (with_reducible assumption) | (with_reducible refine bl_alloc ?_ (Nat.le_refl _) _) | (with_reducible refine bl_drew ?_) | (with_reducible refine bl_drewN ?_ _) | (with_reducible refine bl_setRow ?_ (by first | (simp; done) | (simp; omega) | omega) _) | (with_reducible refine bl_setCell ?_ (by first | (simp; done) | (simp; omega) | omega) _) | (with_reducible refine bl_trans ?_ (Nat.le_refl _) (by assumption)))); have p3 : Blk w3 (w.heap.size) 141 #[.int .i64 lo, .int .i64 hi] := (by repeat' (first | (with_reducible exact Blk.new _ _ _) | (with_reducible refine Blk.new' _ _ ?_; simp; done) | (with_reducible assumption) | (with_reducible refine Blk.alloc ?_ _) | (with_reducible refine Blk.drew ?_) | (with_reducible refine Blk.drewN ?_ _) | (with_reducible refine Blk.far ?_ (by first | (simp; done) | (simp; omega) | omega) _) | (with_reducible apply Blk.setTo) | (with_reducible refine Blk.rowFar ?_ (by first | (simp; done) | (simp; omega) | omega) _) | (with_reducible refine Blk.below ?_ hb3 (by first | (simp; done) | (simp; omega) | omega)) | rfl)); have p3q := p3.cell; have p3f := p3.frozen; have p3l := p3.lt; clear hb3))
    have r3 : Blk (w3.alloc (Obj.cells #[.int .i64 x, .int .i64 y] 141)) w3.heap.size 141 #[.int .i64 x, .int .i64 y] := by refine Blk.new' _ _ ?_; simp
    subst h2
    go_loop [4, 11] (fun d i => ∃ (f j acc : Nat), j ≤ 200 ∧ i = .int .i64 j ∧ d = .int .u64 acc ∧ acc < 18446744073709551616 ∧ y + 1 ≤ j + f ∧ Hid (orSteps f j y st acc = R)) (fun d i => (300 - intOf i).toNat)
    case atStart => exact ⟨65, x, 0, by omega, rfl, rfl, by omega, by omega, hR⟩
    case round =>
      obtain ⟨f, j, acc, hj, rfl, rfl, ha, hf, hd⟩ := hrel
      by_cases c1 : (j : Int) ≤ y
      · have ho := or_val acc j (by omega) ha
        obtain ⟨g, rfl⟩ : ∃ g, f = g + 1 := ⟨f - 1, by omega⟩
        go_wp2
        go_round
        case rel =>
          refine ⟨g, j + st, acc ||| 2 ^ j, by omega, by go_num, ?_, Nat.or_lt_two_pow (n := 64) ha (Nat.pow_lt_pow_right (by omega) (by omega)), by omega, Lib.hid ?_⟩
          · rfl
          · have e := hd.out
            rw [← e]
            simp only [orSteps]
            rw [if_pos (by omega)]
        case measure => simp [intOf]; omega
      · go_wp2
        go_ret2
        refine ⟨ret_ub ?_ rfl, by repeat' (first | (with_reducible exact Below.refl _ _) | (with_reducible assumption) | (with_reducible refine bl_alloc ?_ (Nat.le_refl _) _) | (with_reducible refine bl_drew ?_) | (with_reducible refine bl_drewN ?_ _) | (with_reducible refine bl_setRow ?_ (by first | (simp; done) | (simp; omega) | omega) _) | (with_reducible refine bl_setCell ?_ (by first | (simp; done) | (simp; omega) | omega) _) | (with_reducible refine bl_trans ?_ (Nat.le_refl _) (by assumption)))⟩
        have e := hd.out
        rw [← e]
        cases f with
        | zero => rfl
        | succ g => simp only [orSteps]; rw [if_neg (by omega)]

def itemF (lo hi : Nat) (s : List UInt8) : Option Nat :=
  if ((Lib.cut s [47]).2.2 = true → (numF (Lib.cut s [47]).2.1).isSome = true ∧ (numF (Lib.cut s [47]).2.1).getD 0 ≠ 0 ∧ (spreadF lo hi (Lib.cut s [47]).1).2.2.1 = true) ∧ (spreadF lo hi (Lib.cut s [47]).1).2.2.2 = true then
    some (orSteps 65 (spreadF lo hi (Lib.cut s [47]).1).1.toNat (spreadF lo hi (Lib.cut s [47]).1).2.1.toNat (if (Lib.cut s [47]).2.2 then (numF (Lib.cut s [47]).2.1).getD 0 else 1) 0)
  else none

theorem numF_bd (l : List UInt8) : (numF l).getD 0 ≤ 99 := by
  match l with
  | [] => simp [numF]
  | [a] =>
    show (if dig a then some (a.toNat - 48) else none).getD 0 ≤ 99
    have := a.toNat_lt
    by_cases h : dig a = true
    · rw [if_pos h]; unfold dig at h; simp at h; simp; omega
    · rw [if_neg h]; simp
  | [a, b] =>
    show (if dig a && dig b then some (10 * (a.toNat - 48) + (b.toNat - 48)) else none).getD 0 ≤ 99
    by_cases h : (dig a && dig b) = true
    · rw [if_pos h]; unfold dig at h; simp at h; simp; omega
    · rw [if_neg h]; simp
  | a :: b :: c :: t => simp [numF]

theorem spread_bd (lo hi : Nat) (s : List UInt8) (hl : lo ≤ hi) (h : (spreadF lo hi s).2.2.2 = true) : 0 ≤ (spreadF lo hi s).1 ∧ (spreadF lo hi s).1 ≤ (spreadF lo hi s).2.1 ∧ (spreadF lo hi s).2.1 ≤ hi := by
  unfold spreadF at *
  split
  · simp; omega
  · rename_i h1
    rw [if_neg h1] at h
    simp only [Bool.and_eq_true, decide_eq_true_eq] at h
    refine ⟨?_, h.2, h.1.2⟩
    simp only
    omega

theorem item_calls (lo hi : Nat) (m : Int) (s : ByteArray) (w : World) (hl : lo ≤ hi) (hh : hi < 64) (hs : s.size < 4294967281) (hm : w.cell? ⟨3, 0, none⟩ = some (.int .i64 m)) : Calls Tryd.prog 103 #[.agg #[.int .i64 lo, .int .i64 hi], .string s] w
    fun e w' => e = .returned (.tuple #[.int .u64 ((itemF lo hi s.toList).getD 0 : Nat), .bool (itemF lo hi s.toList).isSome]) ∧ Below w.heap.size w w' := by
  have hl' : s.toList.length = s.size := by rw [ByteArray.toList_eq]; simp
  have hd : s.data.toList = s.toList := (ByteArray.toList_eq s).symm
  have hc := cut_len s.toList [47]
  have hw : 3 < w.heap.size := World.block_lt_of_cell? w _ hm
  have hC := fun W (hB : Below w.heap.size w W) => Tryd.strings_Cut s ⟨#[47]⟩ m W hs ((hB.cell (p := ⟨3, 0, none⟩) hw).trans hm)
  rw [hd] at hC
  have e47 : (⟨#[47]⟩ : ByteArray).data.toList = [47] := rfl
  rw [e47] at hC
  unfold itemF
  generalize hA : (Lib.cut s.toList [47]).1 = A at *
  generalize hB : (Lib.cut s.toList [47]).2.1 = B at *
  generalize hV : (Lib.cut s.toList [47]).2.2 = V at *
  have hN := fun W => number_calls ⟨B.toArray⟩ W (by show B.length < _; omega)
  have hS := fun W (hB : Below w.heap.size w W) => spread_calls lo hi m ⟨A.toArray⟩ W (by show A.length < _; omega) ((hB.cell (p := ⟨3, 0, none⟩) hw).trans hm)
  have e1 : (⟨A.toArray⟩ : ByteArray).toList = A := by simp [ByteArray.toList_eq]
  have e2 : (⟨B.toArray⟩ : ByteArray).toList = B := by simp [ByteArray.toList_eq]
  rw [e1] at hS
  rw [e2] at hN
  have bn := numF_bd B
  have bs := spread_bd lo hi A hl
  generalize (numF B).getD 0 = n at *
  generalize (numF B).isSome = ns at *
  generalize (spreadF lo hi A).1 = x at *
  generalize (spreadF lo hi A).2.1 = y at *
  generalize (spreadF lo hi A).2.2.1 = wd at *
  generalize (spreadF lo hi A).2.2.2 = ok at *
  split
  · rename_i h
    obtain ⟨h1, rfl⟩ := h
    obtain ⟨b1, b2, b3⟩ := bs rfl
    obtain ⟨x, rfl⟩ := Int.eq_ofNat_of_zero_le b1
    obtain ⟨y, rfl⟩ := Int.eq_ofNat_of_zero_le (Int.le_trans b1 b2)
    refine item_ok lo hi s ⟨A.toArray⟩ ⟨B.toArray⟩ x y (if V then n else 1) n V ns wd w (by omega) (by omega) ?_ ?_ ?_ hC hN hS
    · split
      · rename_i hv; have := h1 hv; omega
      · omega
    · split <;> omega
    · cases V
      · exact Or.inl ⟨rfl, rfl⟩
      · exact Or.inr ⟨rfl, (h1 rfl).1, (h1 rfl).2.2, rfl⟩
  · rename_i h
    refine item_fail lo hi s ⟨A.toArray⟩ ⟨B.toArray⟩ x y n V ns wd ok w ?_ hC hN hS
    cases ok
    · exact Or.inr (Or.inl rfl)
    · cases V
      · exact absurd ⟨fun h => absurd h (by simp), rfl⟩ h
      · cases wd
        · exact Or.inr (Or.inr ⟨rfl, rfl⟩)
        · refine Or.inl ⟨rfl, ?_⟩
          cases ns
          · exact Or.inl rfl
          · refine Or.inr ?_
            by_cases hn : n = 0
            · omega
            · exact absurd ⟨fun _ => ⟨rfl, hn, rfl⟩, rfl⟩ h
end Go.Proofs.YtaelddnkdklijaaDoor.Pc
