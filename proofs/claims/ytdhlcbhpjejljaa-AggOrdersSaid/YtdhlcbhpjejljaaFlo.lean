/-
  The walks of packages whole and flo.
-/
import Derived.Test.YtdhlcbhpjejljaaMem
import Derived.Test.YtdhlcbhpjejljaaProg
namespace Go.Proofs.Ytdhlcbhpjejljaa
open Go.RowKit

/-- A number that fits into 64 bits with a sign. -/
def I64 (n : Int) : Prop := -9223372036854775808 ≤ n ∧ n ≤ 9223372036854775807
instance (n : Int) : Decidable (I64 n) := by unfold I64; infer_instance
def waddF (a b : Int) : Int × Bool := if I64 (a + b) then (a + b, true) else (0, false)
theorem wadd_yes {a b : Int} (ha : I64 a) (hb : I64 b) (h : ¬ ((a < 0 ↔ b < 0) ∧ (wrap64 (a + b) < 0 ↔ ¬ a < 0))) : waddF a b = (wrap64 (a + b), true) := by
  unfold I64 wrap64 at *
  have hI : I64 (a + b) := by unfold I64; omega
  unfold waddF
  rw [if_pos hI]; unfold I64 at hI
  congr 1; omega
theorem wadd_no {a b : Int} (ha : I64 a) (hb : I64 b) (h : (a < 0 ↔ b < 0) ∧ (wrap64 (a + b) < 0 ↔ ¬ a < 0)) : waddF a b = (0, false) := by
  unfold waddF
  rw [if_neg]
  unfold I64 wrap64 at *
  omega
theorem ret_tup2 {k : IntKind} {x y : Int} {p q : Bool} (h : (x, p) = (y, q)) : Ending.returned (.tuple #[.int k x, .bool p]) = .returned (.tuple #[.int k y, .bool q]) := by cases h; rfl
theorem wadd_any {a b : Int} {w : World} (ha : I64 a) (hb : I64 b) :
    Calls Try.prog 30 #[.int .i64 a, .int .i64 b] w fun e w' => e = .returned (.tuple #[.int .i64 (waddF a b).1, .bool (waddF a b).2]) ∧ w = w' := by
  by_cases h1 : a < 0 <;> by_cases h2 : b < 0 <;> by_cases h3 : wrap64 (a + b) < 0
  all_goals
    first
      | (have HR := Lib.hid (wadd_no ha hb (by simp [h1, h2, h3]))
         first
           | (have d1 : decide (wrap64 (a + b) < 0) = true := decide_eq_true h3; go_enter Try.func30, Try.ntmps30; go_wp2; go_ret2; exact ⟨ret_tup2 HR.out.symm, rfl⟩)
           | (have d1 : decide (wrap64 (a + b) < 0) = false := decide_eq_false h3; go_enter Try.func30, Try.ntmps30; go_wp2; go_ret2; exact ⟨ret_tup2 HR.out.symm, rfl⟩))
      | (have HR := Lib.hid (wadd_yes ha hb (by simp [h1, h2, h3]))
         first
           | (have d1 : decide (wrap64 (a + b) < 0) = true := decide_eq_true h3; go_enter Try.func30, Try.ntmps30; go_wp2; go_ret2; exact ⟨ret_tup2 HR.out.symm, rfl⟩)
           | (have d1 : decide (wrap64 (a + b) < 0) = false := decide_eq_false h3; go_enter Try.func30, Try.ntmps30; go_wp2; go_ret2; exact ⟨ret_tup2 HR.out.symm, rfl⟩))

/-- Is a float's word none of a number? -/
def nanB (b : Nat) : Bool := FloatKind.f64.format.order b b != some Ordering.eq
/-- A number that rises with the order. -/
def fkey (b : Nat) : Nat := if nanB b then 18446744073709551615 else if b / 9223372036854775808 = 1 then 9223372036854775807 - b % 9223372036854775808 else 9223372036854775808 + b
/-- A word of 64 bits. -/
def W64 (b : Nat) : Prop := b < 18446744073709551616
theorem fkey_nan {b : Nat} (h : nanB b = true) : (fkey b : Int) = 18446744073709551615 := by unfold fkey; rw [if_pos h]; rfl
theorem fkey_neg {b : Nat} (hb : W64 b) (h : nanB b = false) (h1 : ((b : Int) / 9223372036854775808 == 1) = true) : IntKind.u64.wrap (9223372036854775807 - bits BinOp.and .u64 (b : Int) 9223372036854775807) = fkey b := by
  have h2 : b / 9223372036854775808 = 1 := by have := eq_of_beq h1; omega
  rw [show (9223372036854775807 : Int) = ((9223372036854775807 : Nat) : Int) from rfl, u64_and_nat b _ hb (by omega), show b &&& 9223372036854775807 = b % 9223372036854775808 from Nat.and_two_pow_sub_one_eq_mod b 63, IntKind.wrap_u64]
  unfold fkey
  rw [if_neg (by rw [h]; simp), if_pos h2]; omega
theorem fkey_pos {b : Nat} (hb : W64 b) (h : nanB b = false) (h1 : ((b : Int) / 9223372036854775808 == 1) = false) : IntKind.u64.wrap (9223372036854775808 + (b : Int)) = fkey b := by
  have h2 : ¬ b / 9223372036854775808 = 1 := by have := beq_eq_false_iff_ne.1 h1; omega
  unfold W64 at hb
  rw [IntKind.wrap_u64]
  unfold fkey
  rw [if_neg (by rw [h]; simp), if_neg h2]; omega
theorem fkey_lt {b : Nat} (hb : W64 b) : fkey b < 18446744073709551616 := by
  unfold fkey W64 at *
  split
  · omega
  · split <;> omega

theorem bits_call (b : Nat) (w : World) : (callFunc 117 #[.float .f64 b]).run Try.prog w = .ok (.value (.int .u64 b)) w := by
  rw [run_callFunc_extern (fn := Try.f117) (e := Extern.MathFloatBits.float64bits) Try.func117 (by kernel_rfl) (by kernel_rfl) (by kernel_rfl) (by kernel_rfl)]
  rfl

set_option maxRecDepth 100000 in
theorem key_any {b : Nat} {w : World} (hb : W64 b) :
    Calls Try.prog 103 #[.float .f64 b] w fun e w' => e = .returned (.int .u64 (fkey b)) ∧ w = w' := by
  have hbc := bits_call b
  cases hn : nanB b with
  | true =>
    have HR := Lib.hid (fkey_nan hn)
    have hn' : (FloatKind.f64.format.order b b != some Ordering.eq) = true := hn
    clear hn
    go_enter Try.func103, Try.ntmps103
    go_wp2
    go_ret
    exact ⟨ret_int HR.out.symm, rfl⟩
  | false =>
    have hn' : (FloatKind.f64.format.order b b != some Ordering.eq) = false := hn
    cases h1 : ((b : Int) / 9223372036854775808 == 1) with
    | true =>
      have HR := Lib.hid (fkey_neg hb hn h1)
      clear hn
      go_enter Try.func103, Try.ntmps103
      go_wp2
      go_ret
      exact ⟨ret_int HR.out, rfl⟩
    | false =>
      have HR := Lib.hid (fkey_pos hb hn h1)
      clear hn
      go_enter Try.func103, Try.ntmps103
      go_wp2
      go_ret
      exact ⟨ret_int HR.out, rfl⟩

theorem less_any {a b : Nat} {w : World} (ha : W64 a) (hb : W64 b) :
    Calls Try.prog 63 #[.float .f64 a, .float .f64 b] w fun e w' => e = .returned (.bool (decide (fkey a < fkey b))) ∧ w = w' := by
  go_enter Try.func63, Try.ntmps63
  go_wp2_with fail
  refine (key_any ha).mono ?_
  rintro e w' ⟨rfl, rfl⟩
  go_wp2_with fail
  refine (key_any hb).mono ?_
  rintro e w' ⟨rfl, rfl⟩
  go_wp2
  go_ret
  exact ⟨by simp, rfl⟩

def leastF (a b : Nat) : Nat := if fkey b < fkey a then b else a
def mostF (a b : Nat) : Nat := if fkey a < fkey b then b else a
theorem ret_f {x y : Nat} (h : x = y) : Ending.returned (.float .f64 x) = .returned (.float .f64 y) := by rw [h]
theorem least_any {a b : Nat} {w : World} (ha : W64 a) (hb : W64 b) :
    Calls Try.prog 73 #[.float .f64 a, .float .f64 b] w fun e w' => e = .returned (.float .f64 (leastF a b)) ∧ w = w' := by
  by_cases h : fkey b < fkey a
  · have hd : decide (fkey b < fkey a) = true := by simp [h]
    have hr : leastF a b = b := by simp [leastF, h]
    have HR := Lib.hid hr; clear hr h
    go_enter Try.func73, Try.ntmps73
    go_wp2_with fail
    refine (less_any hb ha).mono ?_
    rintro e w' ⟨rfl, rfl⟩
    go_wp2
    go_ret
    exact ⟨ret_f HR.out.symm, rfl⟩
  · have hd : decide (fkey b < fkey a) = false := by simp [h]
    have hr : leastF a b = a := by simp [leastF, h]
    have HR := Lib.hid hr; clear hr h
    go_enter Try.func73, Try.ntmps73
    go_wp2_with fail
    refine (less_any hb ha).mono ?_
    rintro e w' ⟨rfl, rfl⟩
    go_wp2
    go_ret
    exact ⟨ret_f HR.out.symm, rfl⟩
theorem most_any {a b : Nat} {w : World} (ha : W64 a) (hb : W64 b) :
    Calls Try.prog 74 #[.float .f64 a, .float .f64 b] w fun e w' => e = .returned (.float .f64 (mostF a b)) ∧ w = w' := by
  by_cases h : fkey a < fkey b
  · have hd : decide (fkey a < fkey b) = true := by simp [h]
    have hr : mostF a b = b := by simp [mostF, h]
    have HR := Lib.hid hr; clear hr h
    go_enter Try.func74, Try.ntmps74
    go_wp2_with fail
    refine (less_any ha hb).mono ?_
    rintro e w' ⟨rfl, rfl⟩
    go_wp2
    go_ret
    exact ⟨ret_f HR.out.symm, rfl⟩
  · have hd : decide (fkey a < fkey b) = false := by simp [h]
    have hr : mostF a b = a := by simp [mostF, h]
    have HR := Lib.hid hr; clear hr h
    go_enter Try.func74, Try.ntmps74
    go_wp2_with fail
    refine (less_any ha hb).mono ?_
    rintro e w' ⟨rfl, rfl⟩
    go_wp2
    go_ret
    exact ⟨ret_f HR.out.symm, rfl⟩
end Go.Proofs.Ytdhlcbhpjejljaa
