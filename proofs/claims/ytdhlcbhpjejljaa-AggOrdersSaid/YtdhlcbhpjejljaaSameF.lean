import Derived.Test.YtdhlcbhpjejljaaKind
namespace Go.Proofs.Ytdhlcbhpjejljaa
open Go.RowKit
theorem same_nan {a b : Nat} {w : World} (ha : nanB a = true) (hb : nanB b = true) :
    Calls Try.prog 42 #[.float .f64 a, .float .f64 b] w fun e w' => e = .returned (.bool true) ∧ ∃ q, w' = w.drewN q := by
  go_enter Try.func42, Try.ntmps42
  go_wp2_with fail
  refine kind_any.mono ?_
  rintro e w' ⟨⟨k, rfl, hk⟩, q, rfl⟩
  rw [ha] at hk
  obtain rfl : k = 3 := eq_of_beq hk
  go_wp2_with fail
  refine kind_any.mono ?_
  rintro e w' ⟨⟨k, rfl, hk⟩, q, rfl⟩
  rw [ha] at hk
  obtain rfl : k = 3 := eq_of_beq hk
  go_wp2_with fail
  refine kind_any.mono ?_
  rintro e w' ⟨⟨k, rfl, hk⟩, q, rfl⟩
  rw [hb] at hk
  obtain rfl : k = 3 := eq_of_beq hk
  go_wp2
  go_ret
  exact ⟨rfl, _, by first | rfl | (simp; rfl)⟩
theorem read_one : ∃ m i, FloatKind.f64.format.read 4607182418800017408 = .number false (m + 1) i := ⟨_, _, rfl⟩
theorem quo_one {b : Nat} (hn : nanB b = false) : ∃ r, floatBits .quo .f64 4607182418800017408 b = some r := by
  obtain ⟨m, i, h1⟩ := read_one
  show ∃ r, ((FloatKind.f64.format.read 4607182418800017408).quotient _ (FloatKind.f64.format.read b)).map _ = some r
  rw [h1]
  unfold nanB Ieee.Format.order at hn
  cases hb : FloatKind.f64.format.read b with
  | nan => rw [hb] at hn; simp [Ieee.Datum.order] at hn
  | infinity s => exact ⟨_, rfl⟩
  | number t n j =>
    by_cases h0 : n = 0
    · subst h0; exact ⟨_, rfl⟩
    · simp [Ieee.Datum.quotient, h0]
/-- Below: a number has a minus. -/
def belowF (b : Nat) : Bool := FloatKind.f64.format.order b 0 == some Ordering.lt || (FloatKind.f64.format.order b 0 == some Ordering.eq && match floatBits .quo .f64 4607182418800017408 b with | some r => FloatKind.f64.format.order r 0 == some Ordering.lt | none => false)
theorem below_any {b : Nat} {w : World} (hn : nanB b = false) :
    Calls Try.prog 88 #[.float .f64 b] w fun e w' => e = .returned (.bool (belowF b)) ∧ w' = w := by
  obtain ⟨r, h⟩ := quo_one hn
  have hr : ∀ t, (binOp .quo t (.float .f64 4607182418800017408) (.float .f64 b)).run Try.prog w = .ok (.float .f64 r) w := fun t => run_float_arith w .quo t .f64 _ b r h
  have hB : belowF b = (FloatKind.f64.format.order b 0 == some Ordering.lt || (FloatKind.f64.format.order b 0 == some Ordering.eq && FloatKind.f64.format.order r 0 == some Ordering.lt)) := by unfold belowF; rw [h]
  have HB := Lib.hid hB
  clear h hB hn
  cases h1 : (FloatKind.f64.format.order b 0 == some Ordering.lt) with
  | true =>
    go_enter Try.func88, Try.ntmps88
    go_wp2
    go_ret
    exact ⟨by rw [HB.out, h1]; rfl, rfl⟩
  | false =>
    cases h2 : (FloatKind.f64.format.order b 0 == some Ordering.eq) with
    | true =>
      go_enter Try.func88, Try.ntmps88
      go_wp2
      go_ret
      exact ⟨by rw [HB.out, h1, h2]; rfl, rfl⟩
    | false =>
      go_enter Try.func88, Try.ntmps88
      go_wp2
      go_ret
      exact ⟨by rw [HB.out, h1, h2]; rfl, rfl⟩
/-- What Same of reals answers. -/
def same3F (a b : Nat) : Bool := if nanB a || nanB b then nanB a == nanB b else FloatKind.f64.format.order a b == some Ordering.eq && belowF a == belowF b
theorem same3_any {a b : Nat} {w : World} :
    Calls Try.prog 42 #[.float .f64 a, .float .f64 b] w fun e w' => e = .returned (.bool (same3F a b)) ∧ ∃ q, w' = w.drewN q := by
  cases ha : nanB a with
  | true =>
    have HS := Lib.hid (show same3F a b = nanB b by unfold same3F; rw [ha]; cases nanB b <;> rfl)
    go_enter Try.func42, Try.ntmps42
    go_wp2_with fail
    refine kind_any.mono ?_
    rintro e w' ⟨⟨k, rfl, hk⟩, q, rfl⟩
    rw [ha] at hk
    obtain rfl : k = 3 := eq_of_beq hk
    go_wp2_with fail
    refine kind_any.mono ?_
    rintro e w' ⟨⟨k, rfl, hk⟩, q, rfl⟩
    rw [ha] at hk
    obtain rfl : k = 3 := eq_of_beq hk
    go_wp2_with fail
    refine kind_any.mono ?_
    rintro e w' ⟨⟨k, rfl, hk⟩, q, rfl⟩
    have HK := Lib.hid (show ((3 : Int) == k) = nanB b by rw [← hk]; exact Bool.beq_comm)
    clear hk
    go_wp2
    go_ret
    exact ⟨by rw [HS.out, ← HK.out]; rfl, _, by first | rfl | (simp; rfl)⟩
  | false =>
    cases hb : nanB b with
    | true =>
      have HS := Lib.hid (show same3F a b = false by unfold same3F; rw [ha, hb]; rfl)
      go_enter Try.func42, Try.ntmps42
      go_wp2_with fail
      refine kind_any.mono ?_
      rintro e w' ⟨⟨k, rfl, hk⟩, q, rfl⟩
      rw [ha] at hk
      go_wp2_with fail
      refine kind_any.mono ?_
      rintro e w' ⟨⟨k', rfl, hk'⟩, q', rfl⟩
      rw [hb] at hk'
      obtain rfl : k' = 3 := eq_of_beq hk'
      clear hk hk'
      go_wp2_with fail
      refine kind_any.mono ?_
      rintro e w' ⟨⟨k2, rfl, hk2⟩, q2, rfl⟩
      rw [ha] at hk2
      go_wp2_with fail
      refine kind_any.mono ?_
      rintro e w' ⟨⟨k', rfl, hk'⟩, q', rfl⟩
      rw [hb] at hk'
      obtain rfl : k' = 3 := eq_of_beq hk'
      go_wp2
      go_ret
      exact ⟨by rw [HS.out]; first | rfl | (rw [← hk2]; rfl), _, by first | rfl | (simp; rfl)⟩
    | false =>
      have HS := Lib.hid (show same3F a b = (FloatKind.f64.format.order a b == some Ordering.eq && belowF a == belowF b) by unfold same3F; rw [ha, hb]; rfl)
      go_enter Try.func42, Try.ntmps42
      go_wp2_with fail
      refine kind_any.mono ?_
      rintro e w' ⟨⟨k, rfl, hk⟩, q, rfl⟩
      rw [ha] at hk
      go_wp2_with fail
      refine kind_any.mono ?_
      rintro e w' ⟨⟨k', rfl, hk'⟩, q', rfl⟩
      rw [hb] at hk'
      cases ho : (FloatKind.f64.format.order a b == some Ordering.eq) with
      | false =>
        go_wp2
        go_ret
        exact ⟨by rw [HS.out, ho]; rfl, _, by first | rfl | (simp; rfl)⟩
      | true =>
        go_wp2_with fail
        refine (below_any ha).mono ?_
        rintro e w' ⟨rfl, rfl⟩
        go_wp2_with fail
        refine (below_any hb).mono ?_
        rintro e w' ⟨rfl, rfl⟩
        go_wp2
        go_ret
        exact ⟨by rw [HS.out, ho]; rfl, _, by first | rfl | (simp; rfl)⟩
end Go.Proofs.Ytdhlcbhpjejljaa
