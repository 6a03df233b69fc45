/- The set of points as a number, and its small functions: With, Without, Has, Below. -/
import Derived.Test.YthalhapbllbefaaProg
import Derived.Test.YthalhapbllbefaaBase
import Derived.Test.YthalhapbllbefaaNum
namespace Go.Proofs.Ythalhapbllbefaa
open Go.RowKit

theorem wrap_pow {i : Nat} (h : i < 64) : IntKind.u64.wrap ((2 : Int) ^ i) = ((2 ^ i : Nat) : Int) := by
  have h1 := U64.pow h
  unfold U64 at h1
  have e : ((2 : Int) ^ i) = ((2 ^ i : Nat) : Int) := by norm_cast
  rw [e]
  generalize 2 ^ i = m at *
  simp only [IntKind.wrap, IntKind.bits, IntKind.signed]
  simp only [Bool.false_and, Bool.false_eq_true, if_false]
  omega
theorem wrap_pred {m : Nat} (h : U64 m) (h0 : 0 < m) : IntKind.u64.wrap ((m : Int) - 1) = ((m - 1 : Nat) : Int) := by
  unfold U64 at h
  simp only [IntKind.wrap, IntKind.bits, IntKind.signed]
  simp only [Bool.false_and, Bool.false_eq_true, if_false]
  omega
theorem div_pow (s i : Nat) : ((s : Int) / 2 ^ i) = ((s / 2 ^ i : Nat) : Int) := by norm_cast
theorem and_one (s : Nat) (hs : U64 s) : (bits .and .u64 (s : Int) 1 == 1) = s.testBit 0 := by
  have h := u64_and_nat s 1 hs (by omega)
  rw [show ((1 : Nat) : Int) = 1 from rfl] at h
  rw [h, nat_mask1, Nat.testBit_zero]
  by_cases h2 : s % 2 = 1
  · simp [h2]
  · have : s % 2 = 0 := by omega
    simp [this]
theorem has_eq (s i : Nat) (hs : U64 s) : (bits .and .u64 ((s : Int) / 2 ^ i) 1 == 1) = s.testBit i := by
  rw [div_pow, and_one _ (by have := Nat.div_le_self s (2 ^ i); unfold U64 at *; omega), Nat.testBit_div_two_pow, Nat.zero_add]
theorem ins_eq {s i : Nat} (hs : U64 s) (hi : i < 64) : bits .or .u64 (s : Int) (IntKind.u64.wrap ((2 : Int) ^ i)) = ((sIns s i : Nat) : Int) := by
  rw [wrap_pow hi]; exact u64_or_nat _ _ hs (U64.pow hi)
theorem del_eq {s i : Nat} (hs : U64 s) (hi : i < 64) : bits .andNot .u64 (s : Int) (IntKind.u64.wrap ((2 : Int) ^ i)) = ((sDel s i : Nat) : Int) := by
  rw [wrap_pow hi]; exact u64_andNot_nat _ _ hs (U64.pow hi)
theorem below_eq {i : Nat} (hi : i < 64) : IntKind.u64.wrap (IntKind.u64.wrap ((2 : Int) ^ i) - 1) = ((sBelow i : Nat) : Int) := by
  rw [wrap_pow hi]; exact wrap_pred (U64.pow hi) (Nat.two_pow_pos i)
theorem and_eq {a b : Nat} (ha : U64 a) (hb : U64 b) : bits .and .u64 (a : Int) (b : Int) = ((a &&& b : Nat) : Int) := u64_and_nat _ _ ha hb
theorem or_eq {a b : Nat} (ha : U64 a) (hb : U64 b) : bits .or .u64 (a : Int) (b : Int) = ((a ||| b : Nat) : Int) := u64_or_nat _ _ ha hb
theorem dif_eq {a b : Nat} (ha : U64 a) (hb : U64 b) : bits .andNot .u64 (a : Int) (b : Int) = ((sDif a b : Nat) : Int) := u64_andNot_nat _ _ ha hb

theorem ret_bool {a b : Bool} (h : a = b) : Ending.returned (.bool a) = .returned (.bool b) := by rw [h]
theorem ret_int {k : IntKind} {a b : Int} (h : a = b) : Ending.returned (.int k a) = .returned (.int k b) := by rw [h]

theorem has_any (s i : Nat) (w : World) (hs : U64 s) (hi : i < 64) :
    Calls Try.prog 63 #[.int .u64 s, .int .i64 i] w fun e w' => e = .returned (.bool (s.testBit i)) ∧ w = w' := by
  go_enter Try.func63, Try.ntmps63
  go_wp2
  go_ret
  exact ⟨ret_bool (has_eq s i hs), rfl⟩
theorem with_any (s i : Nat) (w : World) (hs : U64 s) (hi : i < 64) :
    Calls Try.prog 62 #[.int .u64 s, .int .i64 i] w fun e w' => e = .returned (.int .u64 (sIns s i : Nat)) ∧ w = w' := by
  go_enter Try.func62, Try.ntmps62
  go_wp2
  go_ret
  exact ⟨ret_int (ins_eq hs hi), rfl⟩
theorem without_any (s i : Nat) (w : World) (hs : U64 s) (hi : i < 64) :
    Calls Try.prog 60 #[.int .u64 s, .int .i64 i] w fun e w' => e = .returned (.int .u64 (sDel s i : Nat)) ∧ w = w' := by
  go_enter Try.func60, Try.ntmps60
  go_wp2
  go_ret
  exact ⟨ret_int (del_eq hs hi), rfl⟩
theorem below_any (n : Nat) (w : World) (hn : n < 64) :
    Calls Try.prog 51 #[.int .i64 n] w fun e w' => e = .returned (.int .u64 (sBelow n : Nat)) ∧ w = w' := by
  go_enter Try.func51, Try.ntmps51
  go_wp2
  go_ret
  exact ⟨ret_int (below_eq hn), rfl⟩
end Go.Proofs.Ythalhapbllbefaa
