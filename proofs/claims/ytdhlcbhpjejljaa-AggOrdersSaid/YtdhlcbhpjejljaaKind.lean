import Derived.Test.YtdhlcbhpjejljaaFlo
import Derived.Laws.FloatArith
namespace Go.Proofs.Ytdhlcbhpjejljaa
open Go.RowKit
theorem sub_run (P : Program) (b : Nat) (w : World) : ∃ r k, ∀ t, (binOp .sub t (.float .f64 b) (.float .f64 b)).run P w = .ok (.float .f64 r) (w.drewN k) := by
  cases h : floatBits .sub .f64 b b with
  | some r => exact ⟨r, 0, fun t => run_float_arith w .sub t .f64 b b r h⟩
  | none =>
    have h' : FloatKind.f64.format.sub b b = none := h
    have hx : ∀ t, ∃ r, (binOp .sub t (.float .f64 b) (.float .f64 b)).run P w = .ok (.float .f64 r) (w.drewN 1) := by
      intro t
      simp [binOp, Op.floatArith, h', go_sem]
      rfl
    obtain ⟨r, hr⟩ := hx 0
    exact ⟨r, 1, fun t => by rw [← hr]; rfl⟩
theorem kind_any {b : Nat} {w : World} :
    Calls Try.prog 87 #[.float .f64 b] w fun e w' => (∃ k : Int, e = .returned (.int .i64 k) ∧ (k == 3) = nanB b) ∧ ∃ q, w' = w.drewN q := by
  cases hn : nanB b with
  | true =>
    have hn' : (FloatKind.f64.format.order b b != some Ordering.eq) = true := hn
    clear hn
    go_enter Try.func87, Try.ntmps87
    go_wp2
    go_ret
    exact ⟨⟨3, rfl, rfl⟩, 0, rfl⟩
  | false =>
    have hn' : (FloatKind.f64.format.order b b != some Ordering.eq) = false := hn
    clear hn
    cases hz : (FloatKind.f64.format.order b 0 == some Ordering.eq) with
    | true =>
      go_enter Try.func87, Try.ntmps87
      go_wp2
      go_ret
      exact ⟨⟨0, rfl, rfl⟩, 0, rfl⟩
    | false =>
      obtain ⟨r, q, hr⟩ := sub_run Try.prog b w
      cases hi : (FloatKind.f64.format.order r 0 != some Ordering.eq) with
      | true =>
        go_enter Try.func87, Try.ntmps87
        go_wp2
        go_ret
        exact ⟨⟨2, rfl, rfl⟩, q, rfl⟩
      | false =>
        go_enter Try.func87, Try.ntmps87
        go_wp2
        go_ret
        exact ⟨⟨1, rfl, rfl⟩, q, rfl⟩
end Go.Proofs.Ytdhlcbhpjejljaa
