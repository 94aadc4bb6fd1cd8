/- The walks of cron's reading: number, spread, item. -/
import Derived.Test.YtaelddnkdklijaaDoorCa
import Derived.Lib.ConvBytes
set_option linter.unusedSimpArgs false
set_option linter.unusedVariables false
namespace Go.Proofs.YtaelddnkdklijaaDoor.Pa
open Go.RowKit Go.Shelf Go.Proofs Go.Proofs.YtaelddnkdklijaaDoor.Jp Go.Proofs.YtaelddnkdklijaaDoor.Jw Go.Proofs.YtaelddnkdklijaaDoor.Cp Go.Proofs.YtaelddnkdklijaaDoor.Ca

def dig (a : UInt8) : Bool := 48 ≤ a.toNat && a.toNat ≤ 57
def numF : List UInt8 → Option Nat
  | [a] => if dig a then some (a.toNat - 48) else none
  | [a, b] => if dig a && dig b then some (10 * (a.toNat - 48) + (b.toNat - 48)) else none
  | _ => none

theorem number_len (s : ByteArray) (w : World) (h : s.size < 1 ∨ 2 < s.size) (hs : s.size < 9223372036854775808) : Calls Tryd.prog 131 #[.string s] w fun e w' => e = .returned (.tuple #[.int .i64 0, .bool false]) ∧ w = w' := by
  have h1 : ((s.size : Int) < 1) ∨ ((2 : Int) < s.size) := by omega
  rcases h1 with h1 | h1
  all_goals
    go_enter Tryd.func131, Tryd.ntmps131
    go_wp2_with fail
    go_ret2
    exact ⟨rfl, rfl⟩

/-- '[]byte(s)': what a walk needs of it. -/
theorem bytesOf (src dst e : TypeId) (s : ByteArray) (w : World) (hs : Tryd.prog.underlying src = some .string) (hd : Tryd.prog.underlying dst = some (.slice e)) (he : Tryd.prog.underlying e = some (.int .u8)) :
    ∃ (cap : Nat) (W : World), (convert src dst (.string s)).run Tryd.prog w = .ok (.slice (some ⟨w.heap.size, 0, none⟩) s.size cap) W ∧ Below w.heap.size w W ∧ w.heap.size < W.heap.size ∧
      (∀ j, j < s.size → W.cell? ⟨w.heap.size, j, none⟩ = some (.int .u8 (s.data.toList.getD j 0).toNat)) := by
  refine ⟨_, _, Lib.run_convert_string_bytes w src dst e s hs hd he, ?_, ?_, fun j hj => Lib.bytesWorld_cell w e s j hj⟩
  · exact ⟨rfl, rfl, rfl, by rw [Lib.bytesWorld_size]; omega, fun i hi => Lib.bytesWorld_at_old w e s i hi⟩
  · rw [Lib.bytesWorld_size]; omega

theorem ret_ib {a a' : Int} {b b' : Bool} (h : a = a') (h' : b = b') : Ending.returned (.tuple #[.int .i64 a, .bool b]) = .returned (.tuple #[.int .i64 a', .bool b']) := by rw [h, h']

theorem dig_cases (a : UInt8) : (dig a = false ∧ a.toNat < 48) ∨ (dig a = false ∧ 57 < a.toNat ∧ a.toNat < 256) ∨ (dig a = true ∧ 48 ≤ a.toNat ∧ a.toNat ≤ 57) := by
  have := a.toNat_lt
  unfold dig
  by_cases h1 : 48 ≤ a.toNat <;> by_cases h2 : a.toNat ≤ 57 <;> simp [h1, h2] <;> omega

set_option maxRecDepth 100000 in
theorem number_one (a : UInt8) (w : World) : Calls Tryd.prog 131 #[.string ⟨#[a]⟩] w fun e w' => e = .returned (.tuple #[.int .i64 ((numF [a]).getD 0 : Nat), .bool (numF [a]).isSome]) ∧ Below w.heap.size w w' := by
  obtain ⟨cap, W, hc, hB, hZ, hR⟩ := bytesOf 9 107 5 ⟨#[a]⟩ w (by kernel_rfl) (by kernel_rfl) (by kernel_rfl)
  have h0 := hR 0 (Nat.lt_succ_self 0)
  have e0 : ((⟨#[a]⟩ : ByteArray).size : Int) = 1 := rfl
  simp only [List.getD_cons_zero] at h0
  clear hR
  have hn : numF [a] = if dig a then some (a.toNat - 48) else none := rfl
  rcases dig_cases a with ⟨hd, h⟩ | ⟨hd, h⟩ | ⟨hd, h⟩
  all_goals
    rw [hd] at hn
    simp only [if_true, if_false, Bool.false_eq_true] at hn
    rw [hn]
    generalize a.toNat = x at *
    clear hd hn
    go_enter Tryd.func131, Tryd.ntmps131
    go_upto_region 4 with fail
    go_wp2_with fail
    refine wp_loop_rounds 3 ?_
    rw [rounds_succ]
    go_wp2_with fail
    try (rw [rounds_succ]; go_wp2_with fail)
    go_ret2
    exact ⟨ret_ib (by simp only [Option.getD_none, Option.getD_some]; try omega) rfl, hB⟩

set_option maxRecDepth 100000 in
theorem number_two (a b : UInt8) (w : World) : Calls Tryd.prog 131 #[.string ⟨#[a, b]⟩] w fun e w' => e = .returned (.tuple #[.int .i64 ((numF [a, b]).getD 0 : Nat), .bool (numF [a, b]).isSome]) ∧ Below w.heap.size w w' := by
  obtain ⟨cap, W, hc, hB, hZ, hR⟩ := bytesOf 9 107 5 ⟨#[a, b]⟩ w (by kernel_rfl) (by kernel_rfl) (by kernel_rfl)
  have h0 := hR 0 (by show 0 < 2; omega)
  have h1 := hR 1 (by show 1 < 2; omega)
  have e0 : ((⟨#[a, b]⟩ : ByteArray).size : Int) = 2 := rfl
  simp only [List.getD_cons_zero, List.getD_cons_succ] at h0 h1
  clear hR
  have hn : numF [a, b] = if dig a && dig b then some (10 * (a.toNat - 48) + (b.toNat - 48)) else none := rfl
  rcases dig_cases a with ⟨hd, h⟩ | ⟨hd, h⟩ | ⟨hd, h⟩ <;> rcases dig_cases b with ⟨he, k⟩ | ⟨he, k⟩ | ⟨he, k⟩
  all_goals
    rw [hd, he] at hn
    simp only [if_true, if_false, Bool.false_eq_true, Bool.and_true, Bool.and_false, Bool.and_self] at hn
    rw [hn]
    generalize a.toNat = x at *
    generalize b.toNat = y at *
    clear hd hn he
    go_enter Tryd.func131, Tryd.ntmps131
    go_upto_region 4 with fail
    go_wp2_with fail
    refine wp_loop_rounds 4 ?_
    rw [rounds_succ]
    go_wp2_with fail
    try (rw [rounds_succ]; go_wp2_with fail)
    try (rw [rounds_succ]; go_wp2_with fail)
    go_ret2
    exact ⟨ret_ib (by simp only [Option.getD_none, Option.getD_some]; try omega) rfl, hB⟩

theorem number_calls (s : ByteArray) (w : World) (hs : s.size < 9223372036854775808) : Calls Tryd.prog 131 #[.string s] w fun e w' => e = .returned (.tuple #[.int .i64 ((numF s.toList).getD 0 : Nat), .bool (numF s.toList).isSome]) ∧ Below w.heap.size w w' := by
  rcases s with ⟨⟨l⟩⟩
  have hl : (⟨⟨l⟩⟩ : ByteArray).toList = l := by simp [ByteArray.toList_eq]
  rw [hl]
  match l, hs with
  | [], hs => exact (number_len _ w (Or.inl (by show 0 < 1; omega)) hs).mono fun _ _ ⟨h, k⟩ => ⟨h, k ▸ Below.refl _ _⟩
  | [a], _ => exact number_one a w
  | [a, b], _ => exact number_two a b w
  | a :: b :: c :: t, hs => exact (number_len _ w (Or.inr (by show 2 < t.length + 3; omega)) hs).mono fun _ _ ⟨h, k⟩ => ⟨h, k ▸ Below.refl _ _⟩
end Go.Proofs.YtaelddnkdklijaaDoor.Pa
