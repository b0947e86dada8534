import Derived.Test.YtdhlcbhpjejljaaProg
import Derived.Test.YtdhlcbhpjejljaaMem
import Derived.Deep.DeepCutAuto
namespace Go.Proofs.Ytdhlcbhpjejljaa
open Go.RowKit
/-- Why the first bytes can't be a sum's. -/
def head1 (n b0 : Nat) : Bool := decide (0 < n ∧ (63 < b0 ∨ b0 / 32 % 2 = 1 ∧ b0 / 16 % 2 = 0))
def head3 (n b0 b1 : Nat) : Bool := decide (1 < n ∧ (69 < b1 ∨ 0 < b1 ∧ b0 / 16 % 2 = 0))
def head5 (n b0 b1 b2 : Nat) : Bool := decide (2 < n ∧ (70 < b1 + b2 ∨ 0 < b2 ∧ b0 / 16 % 2 = 0 ∨ b2 = 0 ∧ (0 < b1 ∨ b0 / 32 % 2 = 1)))
/-- The number of that error: 6, or 0. -/
def headF (b : List Nat) : Nat :=
  if head1 b.length (b.getD 0 0) then 6 else if head3 b.length (b.getD 0 0) (b.getD 1 0) then 6 else if head5 b.length (b.getD 0 0) (b.getD 1 0) (b.getD 2 0) then 6 else 0
theorem dt {p : Prop} [Decidable p] (h : p) : decide p = true := decide_eq_true h
theorem df {p : Prop} [Decidable p] (h : ¬ p) : decide p = false := decide_eq_false h

theorem and32_t {b : Nat} (hb : b < 256) (h : b / 32 % 2 = 1) : (bits BinOp.and IntKind.u8 (b : Int) 32 != 0) = true := by
  rw [show (32 : Int) = ((32 : Nat) : Int) from rfl, u8_and_nat b 32 hb (by omega), show b &&& 32 = b / 32 % 2 * 32 from nat_bit 5 b, h]; rfl
theorem and32_f {b : Nat} (hb : b < 256) (h : b / 32 % 2 = 0) : (bits BinOp.and IntKind.u8 (b : Int) 32 != 0) = false := by
  rw [show (32 : Int) = ((32 : Nat) : Int) from rfl, u8_and_nat b 32 hb (by omega), show b &&& 32 = b / 32 % 2 * 32 from nat_bit 5 b, h]; rfl
theorem and16_t {b : Nat} (hb : b < 256) (h : b / 16 % 2 = 0) : (bits BinOp.and IntKind.u8 (b : Int) 16 == 0) = true := by
  rw [show (16 : Int) = ((16 : Nat) : Int) from rfl, u8_and_nat b 16 hb (by omega), show b &&& 16 = b / 16 % 2 * 16 from nat_bit 4 b, h]; rfl
theorem and16_f {b : Nat} (hb : b < 256) (h : b / 16 % 2 = 1) : (bits BinOp.and IntKind.u8 (b : Int) 16 == 0) = false := by
  rw [show (16 : Int) = ((16 : Nat) : Int) from rfl, u8_and_nat b 16 hb (by omega), show b &&& 16 = b / 16 % 2 * 16 from nat_bit 4 b, h]; rfl

set_option maxRecDepth 100000 in
set_option maxHeartbeats 4000000 in
theorem head_any {A : Option Addr} {n c : Nat} {b : List Nat} {w : World} (hx : Bytes w A n c b) :
    Calls Try.prog 102 #[.slice A n c] w fun e w' => e = .returned (.int .i64 (headF b)) ∧ ∃ k, w' = w.drewN k := by
  obtain ⟨b0, hb0⟩ : ∃ b0, b0 = b.getD 0 0 := ⟨_, rfl⟩
  obtain ⟨b1, hb1⟩ : ∃ b1, b1 = b.getD 1 0 := ⟨_, rfl⟩
  obtain ⟨b2, hb2⟩ : ∃ b2, b2 = b.getD 2 0 := ⟨_, rfl⟩
  have hf : headF b = if head1 n b0 then 6 else if head3 n b0 b1 then 6 else if head5 n b0 b1 b2 then 6 else 0 := by unfold headF; rw [← hx.len, hb0, hb1, hb2]
  have HF := Lib.hid hf; clear hf
  have H0 : Hid (0 < n → ∃ ad, A = some ad ∧ b0 < 256 ∧ w.cell? ad = some (.int .u8 (b0 : Int))) := fun h => by
    obtain ⟨ad, x, e, ex, l, c⟩ := hx.at_ (k := 0) h
    rw [hb0, getD_some ex]; exact ⟨ad, e, l, c⟩
  have H1 : Hid (1 < n → ∃ ad, A = some ad ∧ b1 < 256 ∧ w.cell? ⟨ad.block, ad.off + 1, none⟩ = some (.int .u8 (b1 : Int))) := fun h => by
    obtain ⟨ad, x, e, ex, l, c⟩ := hx.at_ (k := 1) h
    rw [hb1, getD_some ex]; exact ⟨ad, e, l, c⟩
  have H2 : Hid (2 < n → ∃ ad, A = some ad ∧ b2 < 256 ∧ w.cell? ⟨ad.block, ad.off + 2, none⟩ = some (.int .u8 (b2 : Int))) := fun h => by
    obtain ⟨ad, x, e, ex, l, c⟩ := hx.at_ (k := 2) h
    rw [hb2, getD_some ex]; exact ⟨ad, e, l, c⟩
  clear hb0 hb1 hb2 hx
  go_enter Try.func102, Try.ntmps102
  go_upto_region 1 with fail
  go_cut [25] (fun s wx => s = .bool (head1 n b0) ∧ w = wx)
  case first =>
    rcases Nat.eq_zero_or_pos n with rfl | hn
    · have hr : head1 0 b0 = false := df (by omega)
      have HR := Lib.hid hr; clear hr
      go_wp2_with fail
      go_meet
      exact ⟨by rw [HR.out], rfl⟩
    obtain ⟨ad, rfl, l0, c0⟩ := H0.out hn
    by_cases h63 : 63 < b0
    · have hr : head1 n b0 = true := dt ⟨hn, .inl h63⟩
      have HR := Lib.hid hr; clear hr
      have g : decide ((63 : Int) < b0) = true := by simp; omega
      go_wp2_with fail
      go_meet
      exact ⟨by rw [HR.out], rfl⟩
    have g : decide ((63 : Int) < b0) = false := by simp; omega
    rcases Nat.mod_two_eq_zero_or_one (b0 / 32) with np | p
    · have hr : head1 n b0 = false := df (by omega)
      have HR := Lib.hid hr; clear hr
      have p32 := and32_f l0 np
      clear np
      go_wp2_with fail
      go_meet
      exact ⟨by rw [HR.out], rfl⟩
    have p32 := and32_t l0 p
    rcases Nat.mod_two_eq_zero_or_one (b0 / 16) with nq | q
    · have hr : head1 n b0 = true := dt ⟨hn, .inr ⟨p, nq⟩⟩
      have HR := Lib.hid hr; clear hr
      have p16 := and16_t l0 nq
      clear p nq
      go_wp2_with fail
      go_meet
      exact ⟨by rw [HR.out], rfl⟩
    · have hr : head1 n b0 = false := df (by omega)
      have HR := Lib.hid hr; clear hr
      have p16 := and16_f l0 q
      clear p q
      go_wp2_with fail
      go_meet
      exact ⟨by rw [HR.out], rfl⟩
  case rest =>
    obtain ⟨rfl, rfl⟩ := hcut
    cases h1 : head1 n b0 with
    | true =>
      have hr : headF b = 6 := by rw [HF.out, h1]; rfl
      have HR := Lib.hid hr; clear hr HF H0 H1 H2 h1
      go_wp2
      go_ret
      exact ⟨ret_int (by rw [HR.out]; rfl), 0, rfl⟩
    | false =>
    have HF' : Hid (headF b = if head3 n b0 b1 then 6 else if head5 n b0 b1 b2 then 6 else 0) := by unfold Hid; rw [HF.out, h1]; rfl
    have N1 : Hid (¬ (0 < n ∧ (63 < b0 ∨ b0 / 32 % 2 = 1 ∧ b0 / 16 % 2 = 0))) := of_decide_eq_false h1
    clear HF h1
    go_upto_region 3 with fail
    go_cut [47] (fun s wx => s = .bool (head3 n b0 b1) ∧ w = wx)
    case first =>
      by_cases hn : 1 < n
      · obtain ⟨ad, rfl, l0, c0⟩ := H0.out (by omega)
        obtain ⟨ad1, e1, l1, c1⟩ := H1.out hn
        injection e1 with e1; subst e1
        by_cases h69 : 69 < b1
        · have hr : head3 n b0 b1 = true := dt ⟨hn, .inl h69⟩
          have HR := Lib.hid hr; clear hr
          have g : decide ((69 : Int) < b1) = true := by simp; omega
          go_wp2_with fail
          go_meet
          exact ⟨by rw [HR.out], rfl⟩
        have g : decide ((69 : Int) < b1) = false := by simp; omega
        by_cases h1 : 0 < b1
        · have g1 : decide ((0 : Int) < b1) = true := by simp; omega
          rcases Nat.mod_two_eq_zero_or_one (b0 / 16) with nq | q
          · have hr : head3 n b0 b1 = true := dt ⟨hn, .inr ⟨h1, nq⟩⟩
            have HR := Lib.hid hr; clear hr
            have p16 := and16_t l0 nq
            clear nq
            go_wp2_with fail
            go_meet
            exact ⟨by rw [HR.out], rfl⟩
          · have hr : head3 n b0 b1 = false := df (by omega)
            have HR := Lib.hid hr; clear hr
            have p16 := and16_f l0 q
            clear q
            go_wp2_with fail
            go_meet
            exact ⟨by rw [HR.out], rfl⟩
        · have g1 : decide ((0 : Int) < b1) = false := by simp; omega
          have hr : head3 n b0 b1 = false := df (by omega)
          have HR := Lib.hid hr; clear hr
          go_wp2_with fail
          go_meet
          exact ⟨by rw [HR.out], rfl⟩
      · have g : decide ((1 : Int) < n) = false := by simp; omega
        have hr : head3 n b0 b1 = false := df (by omega)
        have HR := Lib.hid hr; clear hr
        go_wp2_with fail
        go_meet
        exact ⟨by rw [HR.out], rfl⟩
    case rest =>
      obtain ⟨rfl, rfl⟩ := hcut
      cases h3 : head3 n b0 b1 with
      | true =>
        have hr : headF b = 6 := by rw [HF'.out, h3]; rfl
        have HR := Lib.hid hr; clear hr HF' H0 H1 H2 h3
        go_wp2
        go_ret
        exact ⟨ret_int (by rw [HR.out]; rfl), 0, rfl⟩
      | false =>
      have HF : Hid (headF b = if head5 n b0 b1 b2 then 6 else 0) := by unfold Hid; rw [HF'.out, h3]; rfl
      clear HF' h3
      go_upto_region 5 with fail
      go_cut [94] (fun s wx => s = .bool (head5 n b0 b1 b2) ∧ ∃ k, wx = w.drewN k)
      case first =>
        by_cases hn : 2 < n
        · have gn : decide ((2 : Int) < n) = true := by simp; omega
          obtain ⟨ad, rfl, l0, c0⟩ := H0.out (by omega)
          obtain ⟨ad1, e1, l1, c1⟩ := H1.out (by omega)
          injection e1 with e1; subst e1
          obtain ⟨ad2, e2, l2, c2⟩ := H2.out (by omega)
          injection e2 with e2; subst e2
          by_cases h70 : 70 < b1 + b2
          · have hr : head5 n b0 b1 b2 = true := dt ⟨hn, .inl h70⟩
            have HR := Lib.hid hr; clear hr
            have g : decide ((70 : Int) < (b1 : Int) + b2) = true := by simp; omega
            go_quiet (fail)
            go_wp2_with fail
            go_meet
            exact ⟨by rw [HR.out], _, rfl⟩
          have g : decide ((70 : Int) < (b1 : Int) + b2) = false := by simp; omega
          by_cases h2 : 0 < b2
          · have g2 : decide ((0 : Int) < b2) = true := by simp; omega
            have g2' : ((b2 : Int) == 0) = false := by simp; omega
            rcases Nat.mod_two_eq_zero_or_one (b0 / 16) with nq | q
            · have hr : head5 n b0 b1 b2 = true := dt ⟨hn, .inr (.inl ⟨h2, nq⟩)⟩
              have HR := Lib.hid hr; clear hr
              have p16 := and16_t l0 nq
              clear nq
              go_quiet (fail)
              go_wp2_with fail
              go_meet
              exact ⟨by rw [HR.out], _, rfl⟩
            · have hr : head5 n b0 b1 b2 = false := df (by omega)
              have HR := Lib.hid hr; clear hr
              have p16 := and16_f l0 q
              clear q
              go_quiet (fail)
              go_wp2_with fail
              go_meet
              exact ⟨by rw [HR.out], _, rfl⟩
          · have g2 : decide ((0 : Int) < b2) = false := by simp; omega
            have g2' : ((b2 : Int) == 0) = true := by simp; omega
            by_cases h1 : 0 < b1
            · have g1 : decide ((0 : Int) < b1) = true := by simp; omega
              have hr : head5 n b0 b1 b2 = true := dt ⟨hn, .inr (.inr ⟨by omega, .inl h1⟩)⟩
              have HR := Lib.hid hr; clear hr
              go_quiet (fail)
              go_wp2_with fail
              go_meet
              exact ⟨by rw [HR.out], _, rfl⟩
            · have g1 : decide ((0 : Int) < b1) = false := by simp; omega
              rcases Nat.mod_two_eq_zero_or_one (b0 / 32) with np | p
              · have hr : head5 n b0 b1 b2 = false := df (by omega)
                have HR := Lib.hid hr; clear hr
                have p32 := and32_f l0 np
                clear np
                go_quiet (fail)
                go_wp2_with fail
                go_meet
                exact ⟨by rw [HR.out], _, rfl⟩
              · have hr : head5 n b0 b1 b2 = true := dt ⟨hn, .inr (.inr ⟨by omega, .inr p⟩)⟩
                have HR := Lib.hid hr; clear hr
                have p32 := and32_t l0 p
                clear p
                go_quiet (fail)
                go_wp2_with fail
                go_meet
                exact ⟨by rw [HR.out], _, rfl⟩
        · have gn : decide ((2 : Int) < n) = false := by simp; omega
          have hr : head5 n b0 b1 b2 = false := df (by omega)
          have HR := Lib.hid hr; clear hr
          go_quiet (fail)
          go_wp2_with fail
          go_meet
          exact ⟨by rw [HR.out], _, rfl⟩
      case rest =>
        obtain ⟨rfl, q, rfl⟩ := hcut
        cases h5 : head5 n b0 b1 b2 with
        | true =>
          have hr : headF b = 6 := by rw [HF.out, h5]; rfl
          have HR := Lib.hid hr; clear hr HF H0 H1 H2 h5
          go_wp2
          go_ret
          exact ⟨ret_int (by rw [HR.out]; rfl), q, rfl⟩
        | false =>
          have hr : headF b = 0 := by rw [HF.out, h5]; rfl
          have HR := Lib.hid hr; clear hr HF H0 H1 H2 h5
          go_wp2
          go_ret
          exact ⟨ret_int (by rw [HR.out]; rfl), q, rfl⟩
end Go.Proofs.Ytdhlcbhpjejljaa
