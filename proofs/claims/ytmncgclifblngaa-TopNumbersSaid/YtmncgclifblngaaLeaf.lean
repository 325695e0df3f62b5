/-
  THE CONTRACTS of package arith's functions and of the law's own 'reckoned', each at whole numbers: what each call returns. Conditions: the operation's number is 0 to 13, a condition's 0 to 7; 'reckoned' at longs asks that the first number fits 64 bits.
-/
import Derived.Test.YtmncgclifblngaaRows
import Derived.WalkKit
import Derived.ProofKit
import Derived.OpenShut
import Derived.WalkLawsBesides
import Derived.Outline
import Derived.Deep.QuietTactic
import Derived.BigQuiet
import Derived.Lib.Hide
namespace Go.Proofs.Ytmncgclifblngaa
open Go.ChangeShapes Go.WideShapes Go.ChangeAt Go.RowKit

theorem w64_32 (a : Int) : wrap64 (wrap32 a) = wrap32 a := by unfold Go.RowKit.wrap64 Go.RowKit.wrap32; omega
theorem w64_8 (a : Int) : wrap64 (IntKind.i8.wrap a) = IntKind.i8.wrap a := by simp [Go.RowKit.wrap64, IntKind.wrap, IntKind.bits, IntKind.signed]; omega
theorem w64_16 (a : Int) : wrap64 (IntKind.i16.wrap a) = IntKind.i16.wrap a := by simp [Go.RowKit.wrap64, IntKind.wrap, IntKind.bits, IntKind.signed]; omega
theorem w64_u16 (a : Int) : wrap64 (IntKind.u16.wrap a) = IntKind.u16.wrap a := by simp [Go.RowKit.wrap64, IntKind.wrap, IntKind.bits, IntKind.signed]; omega
theorem bits_and31 (y : Int) : bits .and .i64 y 31 = y % 32 := by
  show IntKind.i64.wrap ((BitVec.ofInt 64 y &&& BitVec.ofInt 64 31).toNat : Int) = _
  rw [BitVec.toNat_and]
  have h : (BitVec.ofInt 64 31).toNat = 31 := by decide
  rw [h, nat_mask5, IntKind.wrap_i64]
  have : (BitVec.ofInt 64 y).toNat = (y % 18446744073709551616).toNat := by simp [BitVec.ofInt, BitVec.toNat]
  rw [this]; omega
theorem bits_and63 (y : Int) : bits .and .i64 y 63 = y % 64 := by
  show IntKind.i64.wrap ((BitVec.ofInt 64 y &&& BitVec.ofInt 64 63).toNat : Int) = _
  rw [BitVec.toNat_and]
  have h : (BitVec.ofInt 64 63).toNat = 63 := by decide
  rw [h, nat_mask6, IntKind.wrap_i64]
  have : (BitVec.ofInt 64 y).toNat = (y % 18446744073709551616).toNat := by simp [BitVec.ofInt, BitVec.toNat]
  rw [this]; omega
theorem bitsu_and31 (y : Int) : bits .and .u64 y 31 = y % 32 := by
  show IntKind.u64.wrap ((BitVec.ofInt 64 y &&& BitVec.ofInt 64 31).toNat : Int) = _
  rw [BitVec.toNat_and]
  have h : (BitVec.ofInt 64 31).toNat = 31 := by decide
  rw [h, nat_mask5, IntKind.wrap_u64]
  have : (BitVec.ofInt 64 y).toNat = (y % 18446744073709551616).toNat := by simp [BitVec.ofInt, BitVec.toNat]
  rw [this]; omega
theorem bitsu_and63 (y : Int) : bits .and .u64 y 63 = y % 64 := by
  show IntKind.u64.wrap ((BitVec.ofInt 64 y &&& BitVec.ofInt 64 63).toNat : Int) = _
  rw [BitVec.toNat_and]
  have h : (BitVec.ofInt 64 63).toNat = 63 := by decide
  rw [h, nat_mask6, IntKind.wrap_u64]
  have : (BitVec.ofInt 64 y).toNat = (y % 18446744073709551616).toNat := by simp [BitVec.ofInt, BitVec.toNat]
  rw [this]; omega
theorem wrapu_64 (y : Int) : IntKind.u64.wrap y % 64 = y % 64 := by rw [IntKind.wrap_u64]; omega
attribute [local go_sem] bits_and31 bits_and63 bitsu_and31 bitsu_and63
theorem wrap_any (a : Int) (w : World) : Calls Try.prog 11 #[.int .i64 a] w fun e w' => e = .returned (.int .i64 (wrap32 a)) ∧ w = w' := by
  go_enter Try.func11, Try.ntmps11
  go_wp2
  go_ret
  exact ⟨congrArg (fun x => Ending.returned (.int .i64 x)) (w64_32 a), rfl⟩
theorem ret_ib {x x' : Int} {y y' : Bool} (h : x = x') (h' : y = y') : Ending.returned (.tuple #[.int .i64 x, .bool y]) = .returned (.tuple #[.int .i64 x', .bool y']) := by rw [h, h']
def qd (a b : Int) : Int := if b = -1 then wrap64 (-a) else wrap64 (a.tdiv b)
def rd (a b : Int) : Int := if b = -1 then 0 else a.tmod b
theorem div_any (a b : Int) (w : World) (h : ¬ b = 0) : Calls Try.prog 16 #[.int .i64 a, .int .i64 b] w fun e w' => e = .returned (.tuple #[.int .i64 (qd a b), .int .i64 (rd a b)]) ∧ ∃ n, w' = w.drewN n := by
  by_cases h1 : b = -1
  · subst h1
    go_enter Try.func16, Try.ntmps16
    go_wp2
    go_ret2
    exact ⟨rfl, 0, rfl⟩
  · go_enter Try.func16, Try.ntmps16
    go_wp2
    go_quiet (fail)
    go_wp2
    go_ret2
    refine ⟨?_, _, rfl⟩
    simp [h1, qd, rd]
def L (k a b : Int) : Int × Bool :=
  if k = 1 then (wrap64 (a + b), true) else if k = 2 then (wrap64 (a - b), true) else if k = 3 then (wrap64 (a * b), true)
  else if k = 4 then (if b = 0 then (0, false) else (qd a b, true))
  else if k = 5 then (if b = 0 then (0, false) else (rd a b, true))
  else if k = 6 then (bits .and .i64 a b, true) else if k = 7 then (bits .or .i64 a b, true) else if k = 8 then (bits .xor .i64 a b, true)
  else if k = 9 then (wrap64 (a * 2 ^ (b % 64).toNat), true) else if k = 10 then (a / 2 ^ (b % 64).toNat, true)
  else if k = 11 then (wrap64 (IntKind.u64.wrap a / 2 ^ (b % 64).toNat), true) else (0, false)
theorem split14 {k : Int} (h : 0 ≤ k ∧ k < 14) : k = 0 ∨ k = 1 ∨ k = 2 ∨ k = 3 ∨ k = 4 ∨ k = 5 ∨ k = 6 ∨ k = 7 ∨ k = 8 ∨ k = 9 ∨ k = 10 ∨ k = 11 ∨ k = 12 ∨ k = 13 := by omega
theorem long_any (k a b : Int) (w : World) (h : 0 ≤ k ∧ k < 14) : Calls Try.prog 5 #[.int .i64 k, .int .i64 a, .int .i64 b] w fun e w' => e = .returned (.tuple #[.int .i64 (L k a b).1, .bool (L k a b).2]) ∧ ∃ n, w' = w.drewN n := by
  by_cases hb : b = 0
  · rcases split14 h with rfl | rfl | rfl | rfl | rfl | rfl | rfl | rfl | rfl | rfl | rfl | rfl | rfl | rfl
    all_goals
      subst hb
      go_enter Try.func5, Try.ntmps5
      go_wp2
      go_ret2
      exact ⟨by simp [L, Go.RowKit.wrap64], 0, rfl⟩
  · have hb' : (b == 0) = false := by simpa using hb
    rcases split14 h with rfl | rfl | rfl | rfl | rfl | rfl | rfl | rfl | rfl | rfl | rfl | rfl | rfl | rfl
    all_goals
      go_enter Try.func5, Try.ntmps5
      go_wp2_with (go_at_call 16; refine (div_any _ _ _ hb).mono ?_; rintro e w' ⟨rfl, n, rfl⟩)
      go_ret2
      first | exact ⟨by simp [L, hb], _, rfl⟩ | exact ⟨by simp [L, hb], 0, rfl⟩
def I (k a b : Int) : Int × Bool :=
  if k = 9 then (wrap32 (wrap64 (wrap32 a * 2 ^ (wrap32 b % 32).toNat)), true)
  else if k = 10 then (wrap32 a / 2 ^ (wrap32 b % 32).toNat, true)
  else if k = 11 then (wrap32 (wrap64 (wrap32 a % 4294967296 / 2 ^ (wrap32 b % 32).toNat)), true)
  else (wrap32 (L k (wrap32 a) (wrap32 b)).1, (L k (wrap32 a) (wrap32 b)).2)
theorem int_any (k a b : Int) (w : World) (h : 0 ≤ k ∧ k < 14) : Calls Try.prog 4 #[.int .i64 k, .int .i64 a, .int .i64 b] w fun e w' => e = .returned (.tuple #[.int .i64 (I k a b).1, .bool (I k a b).2]) ∧ ∃ n, w' = w.drewN n := by
  rcases split14 h with rfl | rfl | rfl | rfl | rfl | rfl | rfl | rfl | rfl | rfl | rfl | rfl | rfl | rfl
  all_goals
    go_enter Try.func4, Try.ntmps4
    go_wp2_with (first | (go_at_call 11; refine (wrap_any _ _).mono ?_; rintro e w' ⟨rfl, rfl⟩) | (go_at_call 5; refine (long_any _ _ _ _ h).mono ?_; rintro e w' ⟨rfl, n, rfl⟩))
    go_ret2
    first | exact ⟨by simp [I], _, rfl⟩ | exact ⟨by simp [I], 0, rfl⟩ 
theorem emod_le (a b : Int) (h : 0 ≤ a) : a % b ≤ a := by
  obtain ⟨n, rfl⟩ := Int.eq_ofNat_of_zero_le h
  rcases Int.natAbs_eq b with e | e
  · rw [e, ← Int.natCast_emod]; have := Nat.mod_le n b.natAbs; omega
  · rw [e, Int.emod_neg, ← Int.natCast_emod]; have := Nat.mod_le n b.natAbs; omega
theorem w32_mod (b : Int) : wrap32 b % 32 = b % 32 := by unfold Go.RowKit.wrap32; omega
theorem w32_in (b : Int) : -2147483648 ≤ wrap32 b ∧ wrap32 b ≤ 2147483647 := by unfold Go.RowKit.wrap32; omega
theorem w32_32 (b : Int) : wrap32 (wrap32 b) = wrap32 b := by unfold Go.RowKit.wrap32; omega
theorem w32_div (b : Int) (n : Nat) : wrap32 (wrap32 b / 2 ^ n) = wrap32 b / 2 ^ n := by
  have h := w32_in b
  generalize wrap32 b = x at h ⊢
  have hp : (0 : Int) < 2 ^ n := Int.pow_pos (by decide)
  have h1 : -2147483648 ≤ x / 2 ^ n := by
    rw [Int.le_ediv_iff_mul_le hp]
    have : (-2147483648 : Int) * 2 ^ n ≤ -2147483648 * 1 := Int.mul_le_mul_of_nonpos_left (by decide) (by omega)
    omega
  have h2 : x / 2 ^ n ≤ 2147483647 := by
    have := Int.ediv_le_ediv hp h.2
    have : (2147483647 : Int) / 2 ^ n ≤ 2147483647 := Int.ediv_le_self _ (by decide)
    omega
  unfold Go.RowKit.wrap32; omega
theorem w64_div (b : Int) (n : Nat) : wrap64 (wrap32 b / 2 ^ n) = wrap32 b / 2 ^ n := by rw [← w32_div, w64_32]
theorem w32_64 (a : Int) : wrap32 (wrap64 a) = wrap32 a := by unfold Go.RowKit.wrap64 Go.RowKit.wrap32; omega
theorem plain4 (a b : Int) : wrap64 (a.tdiv b) = qd a b := by
  unfold qd; split
  · subst b; rw [Int.tdiv_neg, Int.tdiv_one]
  · rfl
theorem plain5 (a b : Int) (h : -9223372036854775808 ≤ a ∧ a ≤ 9223372036854775807) (hb : ¬ b = 0) : wrap64 (a - wrap64 (wrap64 (a.tdiv b) * b)) = rd a b := by
  have e := Int.tmod_add_tdiv_mul a b
  have hm : ∀ x : Int, wrap64 x % 18446744073709551616 = x % 18446744073709551616 := fun x => by unfold Go.RowKit.wrap64; omega
  have h1 : (a - wrap64 (wrap64 (a.tdiv b) * b)) % 18446744073709551616 = (a.tmod b) % 18446744073709551616 := by
    rw [Int.sub_emod, hm, Int.mul_emod, hm, ← Int.mul_emod, ← Int.sub_emod]
    congr 1; omega
  have hw : wrap64 (a - wrap64 (wrap64 (a.tdiv b) * b)) = wrap64 (a.tmod b) := by
    unfold Go.RowKit.wrap64 at h1 ⊢; omega
  rw [hw]
  have hr : -9223372036854775808 ≤ a.tmod b ∧ a.tmod b ≤ 9223372036854775807 := by
    rcases Int.le_total 0 a with h0 | h0
    · have := Int.tmod_nonneg b h0
      have : a.tmod b ≤ a := by
        rw [Int.tmod_eq_emod_of_nonneg h0]; exact emod_le a b h0
      omega
    · obtain ⟨c, rfl⟩ : ∃ c, a = -c := ⟨-a, by omega⟩
      rw [Int.neg_tmod]
      have h0' : 0 ≤ c := by omega
      have := Int.tmod_nonneg b h0'
      have : c.tmod b ≤ c := by
        rw [Int.tmod_eq_emod_of_nonneg h0']; exact emod_le c b h0'
      omega
  unfold rd
  split
  · subst b; simp [Go.RowKit.wrap64]
  · unfold Go.RowKit.wrap64; omega
theorem reck_wide (k a b : Int) (w : World) (h : 0 ≤ k ∧ k < 14) (ha : -9223372036854775808 ≤ a ∧ a ≤ 9223372036854775807) :
    Calls Try.prog 6 #[.int .i64 k, .int .i64 a, .int .i64 b, .bool true] w fun e w' => e = .returned (.tuple #[.int .i64 (L k a b).1, .bool (L k a b).2]) ∧ w = w' := by
  have H5 := Lib.hid (plain5 a b ha)
  clear ha
  have hmod : IntKind.u64.wrap b % 64 = b % 64 := wrapu_64 b
  by_cases hb : b = 0
  · rcases split14 h with rfl | rfl | rfl | rfl | rfl | rfl | rfl | rfl | rfl | rfl | rfl | rfl | rfl | rfl
    all_goals
      subst hb
      go_enter Try.func6, Try.ntmps6
      go_wp2
      go_ret2
    all_goals exact ⟨by simp [L, Go.RowKit.wrap64], rfl⟩
  · have hb' : (b == 0) = false := by simpa using hb
    rcases split14 h with rfl | rfl | rfl | rfl | rfl | rfl | rfl | rfl | rfl | rfl | rfl | rfl | rfl | rfl
    all_goals
      go_enter Try.func6, Try.ntmps6
      go_wp2
      go_ret2
    all_goals refine ⟨ret_ib ?_ ?_, rfl⟩
    all_goals first | (simp [L]; done) | (simp [L, hb, plain4]; done) | (simp [L, hb, H5.out hb]; done)
theorem w32_0 : wrap32 0 = 0 := by unfold Go.RowKit.wrap32; omega
theorem reck_short (k a b : Int) (w : World) (h : 0 ≤ k ∧ k < 14) :
    Calls Try.prog 6 #[.int .i64 k, .int .i64 a, .int .i64 b, .bool false] w fun e w' => e = .returned (.tuple #[.int .i64 (I k a b).1, .bool (I k a b).2]) ∧ w = w' := by
  have hmod : IntKind.u64.wrap b % 64 = b % 64 := wrapu_64 b
  have H5 := Lib.hid (plain5 (wrap32 a) (wrap32 b) (by have := w32_in a; omega))
  by_cases hb : wrap32 b = 0
  · have hb' : (wrap64 (wrap32 b) == 0) = true := by rw [w64_32]; simpa using hb
    have Hb := Lib.hid hb
    clear hb
    rcases split14 h with rfl | rfl | rfl | rfl | rfl | rfl | rfl | rfl | rfl | rfl | rfl | rfl | rfl | rfl
    all_goals
      go_enter Try.func6, Try.ntmps6
      go_wp2
      go_ret2
    all_goals refine ⟨ret_ib ?_ ?_, rfl⟩
    all_goals first | (simp [I, L, w64_32, w32_64, w32_mod, w32_32, w32_div, w64_div, w32_0]; done) | (simp [I, L, w64_32, Hb.out, w32_0]; done)
  · have hb' : (wrap64 (wrap32 b) == 0) = false := by rw [w64_32]; simpa using hb
    have hb2 : ¬ wrap64 (wrap32 b) = 0 := by rw [w64_32]; exact hb
    have Hb := Lib.hid hb
    clear hb
    rcases split14 h with rfl | rfl | rfl | rfl | rfl | rfl | rfl | rfl | rfl | rfl | rfl | rfl | rfl | rfl
    all_goals
      go_enter Try.func6, Try.ntmps6
      go_wp2
      go_ret2
    all_goals refine ⟨ret_ib ?_ ?_, rfl⟩
    all_goals first | (simp [I, L, w64_32, w32_64, w32_mod, w32_32, w32_div, w64_div, w32_0]; done) | (simp [I, L, w64_32, w32_64, Hb.out, plain4]; done) | (simp [I, L, w64_32, w32_64, Hb.out, H5.out Hb.out]; done)
theorem narrow_any (k a : Int) (w : World) (h : 1 ≤ k ∧ k ≤ 4) : Calls Try.prog 12 #[.int .i64 k, .int .i64 a] w fun e w' =>
    e = .returned (.int .i64 (if k = 1 then IntKind.i8.wrap a else if k = 2 then IntKind.u16.wrap a else if k = 3 then IntKind.i16.wrap a else a)) ∧ w = w' := by
  have hk : k = 1 ∨ k = 2 ∨ k = 3 ∨ k = 4 := by omega
  rcases hk with rfl | rfl | rfl | rfl
  all_goals
    go_enter Try.func12, Try.ntmps12
    go_wp2
    go_ret
    refine ⟨?_, rfl⟩
    first | exact congrArg (fun x => Ending.returned (.int .i64 x)) (w64_8 a) | exact congrArg (fun x => Ending.returned (.int .i64 x)) (w64_u16 a) | exact congrArg (fun x => Ending.returned (.int .i64 x)) (w64_16 a) | rfl
theorem intneg_any (a : Int) (w : World) : Calls Try.prog 13 #[.int .i64 a] w fun e w' => e = .returned (.int .i64 (wrap32 (-wrap32 a))) ∧ w = w' := by
  go_enter Try.func13, Try.ntmps13
  go_wp2_with (go_at_call 11; refine (wrap_any _ _).mono ?_; rintro e w' ⟨rfl, rfl⟩)
  go_ret
  refine ⟨congrArg (fun x => Ending.returned (.int .i64 x)) ?_, rfl⟩
  try simp [w32_64]
theorem longneg_any (a : Int) (w : World) : Calls Try.prog 14 #[.int .i64 a] w fun e w' => e = .returned (.int .i64 (wrap64 (-a))) ∧ w = w' := by
  go_enter Try.func14, Try.ntmps14
  go_wp2
  go_ret
  exact ⟨rfl, rfl⟩
def ord (a b : Int) : Int := if a < b then -1 else if b < a then 1 else 0
theorem compare_any (a b : Int) (w : World) : Calls Try.prog 15 #[.int .i64 a, .int .i64 b] w fun e w' => e = .returned (.int .i64 (ord a b)) ∧ w = w' := by
  by_cases h1 : a < b
  · go_enter Try.func15, Try.ntmps15
    go_wp2
    go_ret
    exact ⟨by simp [ord, h1], rfl⟩
  · by_cases h2 : b < a
    · go_enter Try.func15, Try.ntmps15
      go_wp2
      go_ret
      exact ⟨by simp [ord, h1, h2], rfl⟩
    · go_enter Try.func15, Try.ntmps15
      go_wp2
      go_ret
      rw [show ord a b = 0 from by unfold ord; rw [if_neg (by omega), if_neg (by omega)]]; exact ⟨rfl, rfl⟩
def pureB (k : Int) : Bool := decide (1 ≤ k) && decide (k ≤ 11) && (k != 4) && (k != 5)
theorem pure_any (k : Int) (w : World) (h : 0 ≤ k ∧ k < 14) : Calls Try.prog 7 #[.int .i64 k] w fun e w' => e = .returned (.bool (pureB k)) ∧ w = w' := by
  rcases split14 h with rfl | rfl | rfl | rfl | rfl | rfl | rfl | rfl | rfl | rfl | rfl | rfl | rfl | rfl
  all_goals
    go_enter Try.func7, Try.ntmps7
    go_wp2
    go_ret
    exact ⟨by simp [pureB], rfl⟩

def condB (k a b : Int) : Bool :=
  if k = 1 then a == b else if k = 2 then a != b else if k = 3 then decide (a < b) else if k = 4 then decide (b ≤ a) else if k = 5 then decide (b < a) else if k = 6 then decide (a ≤ b) else false
def pick7 (k x0 x1 x2 x3 x4 x5 x6 : Int) : Int := if k = 0 then x0 else if k = 1 then x1 else if k = 2 then x2 else if k = 3 then x3 else if k = 4 then x4 else if k = 5 then x5 else if k = 6 then x6 else 0
theorem split8 {k : Int} (h : 0 ≤ k ∧ k < 8) : k = 0 ∨ k = 1 ∨ k = 2 ∨ k = 3 ∨ k = 4 ∨ k = 5 ∨ k = 6 ∨ k = 7 := by omega
theorem of_any (k x0 x1 x2 x3 x4 x5 x6 : Int) (w : World) (h : 0 ≤ k ∧ k < 8) :
    Calls Try.prog 17 #[.int .i64 k, .agg #[.int .i64 x0, .int .i64 x1, .int .i64 x2, .int .i64 x3, .int .i64 x4, .int .i64 x5, .int .i64 x6]] w fun e w' =>
      e = .returned (.int .i64 (pick7 k x0 x1 x2 x3 x4 x5 x6)) ∧ Below w.heap.size w w' := by
  rcases split8 h with rfl | rfl | rfl | rfl | rfl | rfl | rfl | rfl
  all_goals
    go_enter Try.func17, Try.ntmps17
    go_wp2
    go_ret
    exact ⟨rfl, (Below.refl _ _).alloc (Nat.le_refl _) _⟩
theorem not_any (k : Int) (w : World) (h : 0 ≤ k ∧ k < 8) :
    Calls Try.prog 9 #[.int .i64 k] w fun e w' => e = .returned (.int .i64 (pick7 k 0 2 1 4 3 6 5)) ∧ Below w.heap.size w w' := by
  go_enter Try.func9, Try.ntmps9
  go_wp2_with (go_at_call 17; refine (of_any _ _ _ _ _ _ _ _ _ h).mono ?_; rintro e w' ⟨rfl, hb⟩)
  go_ret
  exact ⟨rfl, hb⟩
theorem swap_any (k : Int) (w : World) (h : 0 ≤ k ∧ k < 8) :
    Calls Try.prog 10 #[.int .i64 k] w fun e w' => e = .returned (.int .i64 (pick7 k 0 1 2 5 6 3 4)) ∧ Below w.heap.size w w' := by
  go_enter Try.func10, Try.ntmps10
  go_wp2_with (go_at_call 17; refine (of_any _ _ _ _ _ _ _ _ _ h).mono ?_; rintro e w' ⟨rfl, hb⟩)
  go_ret
  exact ⟨rfl, hb⟩
theorem cond_any (k a b : Int) (w : World) (h : 0 ≤ k ∧ k < 8) :
    Calls Try.prog 8 #[.int .i64 k, .int .i64 a, .int .i64 b] w fun e w' => e = .returned (.bool (condB k a b)) ∧ Below w.heap.size w w' := by
  rcases split8 h with rfl | rfl | rfl | rfl | rfl | rfl | rfl | rfl
  all_goals
    go_enter Try.func8, Try.ntmps8
    go_wp2
    go_ret
    exact ⟨rfl, (Below.refl _ _).alloc (Nat.le_refl _) _⟩
end Go.Proofs.Ytmncgclifblngaa
