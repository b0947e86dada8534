import Derived.Test.YtdhlcbhpjejljaaPut
import Derived.StillTailTactics
namespace Go.Proofs.Ytdhlcbhpjejljaa
open Go.RowKit


/-- What a call of Join leaves. -/
def JoinPost (g ca cb : Nat) (neg : Bool) (x : Nat) (neg' : Bool) (y : Nat) (w : World) (e : Ending) (w' : World) : Prop :=
  match putF neg x neg' y with
  | none => e = .returned (.bool false) ∧ Below w.heap.size w w'
  | some (ng, v) => e = .returned (.bool true) ∧ w.grownBy w' (some g) ∧ ∃ A n c, Own w' g 145 (sumv (ca ||| cb) ng A n c) ∧ Words w' A n c (wds v)

theorem JoinPost.no {g ca cb x y : Nat} {neg neg' : Bool} {w w' : World} (h : putF neg x neg' y = none) (hb : Below w.heap.size w w') : JoinPost g ca cb neg x neg' y w (.returned (.bool false)) w' := by
  unfold JoinPost; rw [h]; exact ⟨rfl, hb⟩
theorem JoinPost.yes {g ca cb x y v n c : Nat} {neg neg' ng : Bool} {A : Option Addr} {w w' : World} (h : putF neg x neg' y = some (ng, v)) (hb : w.grownBy w' (some g)) (ho : Own w' g 145 (sumv (ca ||| cb) ng A n c)) (hw : Words w' A n c (wds v)) :
    JoinPost g ca cb neg x neg' y w (.returned (.bool true)) w' := by
  unfold JoinPost; rw [h]; exact ⟨rfl, hb, A, n, c, ho, hw⟩

set_option maxRecDepth 100000 in
set_option maxHeartbeats 4000000 in
theorem sumjoin_any {g h ca cb n c m d : Nat} {neg neg' : Bool} {A B : Option Addr} {xs ys : List Nat} {w : World} (hs : Own w g 145 (sumv ca neg A n c)) (ht : Own w h 145 (sumv cb neg' B m d)) (hgh : g ≠ h)
    (hx : Words w A n c xs) (hy : Words w B m d ys) (hn : n ≤ 4294967295) (hm : m ≤ 4294967295) (hca : ca < 256) (hcb : cb < 256) :
    Calls Try.prog 72 #[.pointer (some ⟨g, 0, none⟩), .pointer (some ⟨h, 0, none⟩)] w (JoinPost g ca cb neg (val xs) neg' (val ys) w) := by
  have f0 : w.cell? ⟨g, 0, none⟩ = some (.bool true) := hs.cell 0
  have t0 : w.cell? ⟨h, 0, none⟩ = some (.bool true) := ht.cell 0
  have t2 : w.cell? ⟨h, 2, none⟩ = some (.bool neg') := ht.cell 2
  have t3 : w.cell? ⟨h, 3, none⟩ = some (.slice B m d) := ht.cell 3
  go_enter Try.func72, Try.ntmps72
  go_upto_region 1 with fail
  go_still_tail 18, (by kernel_rfl)
  still_call ((is_any (w := w.drew) f0).mono fun _ _ hh => ⟨hh.1, hh.2.symm⟩)
  repeat still_step
  still_call ((is_any (w := w.drew) t0).mono fun _ _ hh => ⟨hh.1, hh.2.symm⟩)
  repeat still_step
  refine wpStill_nil ?_
  change wpList _ _ _ _ _ w.drew
  go_wp2_with fail
  refine (put_any hs.drew (hx.keep (w' := w.drew) (fun _ _ => rfl)) (hy.keep (w' := w.drew) (fun _ _ => rfl)) hn hm).mono ?_
  intro e w1 hp
  cases hpf : putF neg (val xs) neg' (val ys) with
  | none =>
    have hp' : e = .returned (.bool false) ∧ Below w.drew.heap.size w.drew w1 := by unfold PutPost at hp; rw [hpf] at hp; exact hp
    obtain ⟨rfl, hb⟩ := hp'
    clear hp
    have HF := Lib.hid hpf; clear hpf
    go_wp2
    go_ret
    exact JoinPost.no HF.out ⟨hb.os, hb.tape, hb.output, hb.size, hb.block⟩
  | some r =>
    obtain ⟨ng, v⟩ := r
    have hp' : e = .returned (.bool true) ∧ w.drew.grownBy w1 (some g) ∧ ∃ A n c, Own w1 g 145 (sumv ca ng A n c) ∧ Words w1 A n c (wds v) := by unfold PutPost at hp; rw [hpf] at hp; exact hp
    obtain ⟨rfl, hg, A', n', c', ho, hw⟩ := hp'
    clear hp
    have HF := Lib.hid hpf; clear hpf
    have ht1 : Own w1 h 145 (sumv cb neg' B m d) := (hg.block h ht.lt (by simpa using hgh.symm)).trans ht
    have g1 : w1.cell? ⟨g, 1, none⟩ = some (.int .u8 (ca : Int)) := ho.cell 1
    have t1 : w1.cell? ⟨h, 1, none⟩ = some (.int .u8 (cb : Int)) := ht1.cell 1
    have fr := ho.free 1
    have hor := u8_or_nat ca cb hca hcb
    have hgh' := Lib.hid hgh
    clear hgh f0 t0 t2 t3
    go_wp2
    go_region
    go_wp2
    go_ret
    have h2 := (ho.set_ 1 (.int .u8 ((ca ||| cb : Nat) : Int))).drew
    have hg' : w.grownBy w1 (some g) := ⟨hg.os, hg.tape, hg.output, hg.size, hg.block⟩
    exact JoinPost.yes HF.out (only_drew (only_set hg' _ _)) h2 (hw.set_ ho (sumv_no _ _ _ _ _) _)
end Go.Proofs.Ytdhlcbhpjejljaa
