import Derived.Test.YtdhlcbhpjejljaaNat
import Derived.Deep.DeepCutAuto
namespace Go.Proofs.Ytdhlcbhpjejljaa
open Go.RowKit
theorem ne_int2 {a b : Nat} (h : a ≠ b) : ((a : Int) != (b : Int)) = true := by simp; omega
theorem take_next {xs ys : List Nat} {k x : Nat} (h : xs.take k = ys.take k) (hx : xs[k]? = some x) (hy : ys[k]? = some x) : xs.take (k + 1) = ys.take (k + 1) := by
  rw [List.take_add_one, List.take_add_one, h, hx, hy]
set_option maxRecDepth 100000 in
theorem same02_any {A B : Option Addr} {n c m d : Nat} {xs ys : List Nat} {w : World} (hx : Words w A n c xs) (hy : Words w B m d ys) :
    Calls Try.prog 29 #[.slice A n c, .slice B m d] w fun e w' => e = .returned (.bool (decide (xs = ys))) ∧ ∃ k, w' = w.drewN k := by
  have hm := hx.most
  have hm' := hy.most
  by_cases hnm : n = m
  · subst hnm
    go_enter Try.func29, Try.ntmps29
    go_wp2
    go_loopw [5] (fun i wr => ∃ (k q : Nat), k ≤ n ∧ i = .int .i64 k ∧ Hid (xs.take k = ys.take k) ∧ wr = w.drewN q) (fun i _ => n - (intOf i).toNat)
    case atStart => exact ⟨0, 0, Nat.zero_le _, rfl, rfl, rfl⟩
    case round =>
      obtain ⟨k, q, hkn, rfl, hv, rfl⟩ := hrel
      by_cases hk : k < n
      · obtain ⟨ad, x, rfl, hxj, hx32, hcx⟩ := hx.at_ (k := k) hk
        obtain ⟨bd, y, rfl, hyj, hy32, hcy⟩ := hy.at_ (k := k) hk
        have hi0 : (0 : Int) ≤ k := by omega
        have hin : (k : Int) < n := by omega
        by_cases hxy : x = y
        · subst hxy
          have hv' := Lib.hid (take_next hv.out hxj hyj)
          clear hv hxj hyj
          go_wp2
          go_quiet (fail)
          go_wp2
          go_roundw
          case rel => exact ⟨k + 1, _, by omega, by go_num, hv', by first | rfl | (simp; rfl)⟩
          case measure => simp [intOf]; omega
        · have hne := ne_int2 hxy
          have hf : decide (xs = ys) = false := decide_eq_false (fun e => hxy (by rw [e, hyj] at hxj; injection hxj with h; exact h.symm))
          have HF := Lib.hid hf
          clear hv hxj hyj hf hxy
          go_wp2
          go_quiet (fail)
          go_wp2
          go_ret
          exact ⟨by rw [HF.out]; rfl, _, by first | rfl | (simp; rfl)⟩
      · obtain rfl : k = n := by omega
        have hf : decide (xs = ys) = true := decide_eq_true (by have h := hv.out; rw [hx.len] at h; rw [List.take_length] at h; rw [← hx.len, hy.len, List.take_length] at h; exact h)
        have HF := Lib.hid hf
        clear hv hf
        go_wp2
        go_ret
        exact ⟨by rw [HF.out]; rfl, _, by first | rfl | (simp; rfl)⟩
  · have hne := ne_int2 hnm
    have hf : decide (xs = ys) = false := decide_eq_false (fun e => hnm (by rw [hx.len, hy.len, e]))
    have HF := Lib.hid hf
    clear hf hnm
    go_enter Try.func29, Try.ntmps29
    go_wp2
    go_ret
    exact ⟨by rw [HF.out]; rfl, 0, rfl⟩
end Go.Proofs.Ytdhlcbhpjejljaa
