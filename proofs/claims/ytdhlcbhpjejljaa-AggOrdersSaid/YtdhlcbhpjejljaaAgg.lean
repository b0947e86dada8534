/-
  The walks of package agg.
-/
import Derived.Test.YtdhlcbhpjejljaaJoin
import Derived.Test.YtdhlcbhpjejljaaBytes
import Derived.Test.YtdhlcbhpjejljaaFlo
import Derived.Deep.RegionHeld3
import Derived.Deep.DeepCutAuto
namespace Go.Proofs.Ytdhlcbhpjejljaa
open Go.RowKit

theorem Own.store5 {w : World} {g : Nat} {e : TypeId} {a0 a1 a2 a3 a4 : Value} (h : Own w g e [a0, a1, a2, a3, a4]) (b0 b1 b2 b3 b4 : Value) :
    Own (((((w.setCell ⟨g, 0, none⟩ b0).setCell ⟨g, 1, none⟩ b1).setCell ⟨g, 2, none⟩ b2).setCell ⟨g, 3, none⟩ b3).setCell ⟨g, 4, none⟩ b4) g e [b0, b1, b2, b3, b4] := ((((h.set_ 0 b0).set_ 1 b1).set_ 2 b2).set_ 3 b3).set_ 4 b4
theorem Words.only {w w' : World} {A : Option Addr} {n c g : Nat} {e : TypeId} {xs : List Nat} {vs : List Value} (h : Words w A n c xs) (ho : Own w g e vs) (hk : NoKind .u32 vs) (hg : w.grownBy w' (some g)) : Words w' A n c xs := by
  refine ⟨h.1, h.2.1, h.2.2.1, h.2.2.2.1, fun j hj => ?_⟩
  obtain ⟨ad, e, hc⟩ := h.2.2.2.2 j hj
  refine ⟨ad, e, ?_⟩
  rw [← hc]
  rw [List.getElem?_eq_getElem hj] at hc
  simp only [List.getElem_map] at hc
  exact World.cell?_of_block (hg.block _ (lt_of_cell hc) (by simpa using ho.nokind hk hc))
theorem Typ.only {w w' : World} {A : Option Addr} {g : Nat} {e e' : TypeId} {vs : List Value} (h : Typ w A e) (ho : Own w g e' vs) (hne : e ≠ e') (hg : w.grownBy w' (some g)) : Typ w' A e := fun ad he => by
  obtain ⟨cs, fr, hc⟩ := h ad he
  refine ⟨cs, fr, (hg.block _ (Array.getElem?_eq_some_iff.1 hc).1 ?_).trans hc⟩
  intro hv; injection hv with hv
  unfold Own at ho
  rw [hv, ho] at hc; injection hc with hc; injection hc with _ ht; exact hne ht.symm
/-- A call's first steps: two structs that came by value lie in new blocks, and the result's own. -/
theorem three_new (w : World) (e : TypeId) (v1 v2 v3 : List Value) :
    Own (((w.alloc (.cells v1.toArray e)).alloc (.cells v2.toArray e)).alloc (.cells v3.toArray e)).drew (w.heap.size + 1 + 1) e v3 ∧ Below w.heap.size w (((w.alloc (.cells v1.toArray e)).alloc (.cells v2.toArray e)).alloc (.cells v3.toArray e)).drew := by
  refine ⟨?_, by go_grown⟩
  have := Own.new ((w.alloc (.cells v1.toArray e)).alloc (.cells v2.toArray e)) e v3
  simpa using this.drew
/-- A whole measure as it lies in memory. -/
structure LW where
  sum : Int
  abs : Int
  A : Option Addr
  n : Nat
  c : Nat
  sq : List Nat
  mn : Int
  mx : Int
abbrev LW.cells (x : LW) : List Value := [.int .i64 x.sum, .int .i64 x.abs, .slice x.A x.n x.c, .int .i64 x.mn, .int .i64 x.mx]
def LW.ok (w : World) (x : LW) : Prop := I64 x.sum ∧ I64 x.abs ∧ I64 x.mn ∧ I64 x.mx ∧ Words w x.A x.n x.c x.sq ∧ x.n ≤ 4294967295

set_option maxRecDepth 100000 in
set_option maxHeartbeats 4000000 in
theorem wholes_no {a b : LW} {w : World} (ha : a.ok w) (hb : b.ok w) (h : (waddF a.sum b.sum).2 = false ∨ (waddF a.abs b.abs).2 = false) :
    Calls Try.prog 31 #[.agg a.cells.toArray, .agg b.cells.toArray] w fun e w' => e = .returned (.tuple #[.agg #[.int .i64 0, .int .i64 0, .slice none 0 0, .int .i64 0, .int .i64 0], .int .i64 10]) ∧ Below w.heap.size w w' := by
  obtain ⟨a1, a2, a3, a4, ax, an⟩ := ha
  obtain ⟨b1, b2, b3, b4, bx, bn⟩ := hb
  obtain ⟨sa, aa, aA, an', ac, asq, amn, amx⟩ := a
  obtain ⟨sb, ba, bA, bn', bc, bsq, bmn, bmx⟩ := b
  dsimp only at *
  cases h1 : (waddF sa sb).2
  case false =>
    go_enter Try.func31, Try.ntmps31
    go_wp2_with fail
    refine (wadd_any a1 b1).mono ?_
    rintro e w' ⟨rfl, rfl⟩
    go_wp2_with fail
    refine (wadd_any a2 b2).mono ?_
    rintro e w' ⟨rfl, rfl⟩
    go_wp2
    go_returns
    exact ⟨rfl, by go_grown⟩
  case true =>
    have h2 : (waddF aa ba).2 = false := h.resolve_left (by rw [h1]; simp)
    go_enter Try.func31, Try.ntmps31
    go_wp2_with fail
    refine (wadd_any a1 b1).mono ?_
    rintro e w' ⟨rfl, rfl⟩
    go_wp2_with fail
    refine (wadd_any a2 b2).mono ?_
    rintro e w' ⟨rfl, rfl⟩
    go_wp2
    go_returns
    exact ⟨rfl, by go_grown⟩

set_option maxRecDepth 100000 in
set_option maxHeartbeats 4000000 in
theorem wholes_yes {a b : LW} {w : World} (ha : a.ok w) (hb : b.ok w) (h1 : (waddF a.sum b.sum).2 = true) (h2 : (waddF a.abs b.abs).2 = true) :
    Calls Try.prog 31 #[.agg a.cells.toArray, .agg b.cells.toArray] w fun e w' => ∃ C k p, e = .returned (.tuple #[.agg #[.int .i64 (waddF a.sum b.sum).1, .int .i64 (waddF a.abs b.abs).1, .slice C k p, .int .i64 (min a.mn b.mn), .int .i64 (max a.mx b.mx)], .int .i64 0]) ∧
      Words w' C k p (wds (val a.sq + val b.sq)) ∧ Below w.heap.size w w' ∧ Typ w' C 41 := by
  obtain ⟨a1, a2, a3, a4, ax, an⟩ := ha
  obtain ⟨b1, b2, b3, b4, bx, bn⟩ := hb
  obtain ⟨sa, aa, aA, an', ac, asq, amn, amx⟩ := a
  obtain ⟨sb, ba, bA, bn', bc, bsq, bmn, bmx⟩ := b
  dsimp only at *
  go_enter Try.func31, Try.ntmps31
  go_wp2_with fail
  refine (wadd_any a1 b1).mono ?_
  rintro e w' ⟨rfl, rfl⟩
  go_wp2_with fail
  refine (wadd_any a2 b2).mono ?_
  rintro e w' ⟨rfl, rfl⟩
  obtain ⟨lo, hlo⟩ : ∃ lo, (if bmn < amn then bmn else amn) = lo := ⟨_, rfl⟩
  obtain ⟨hi, hhi⟩ : ∃ hi, (if amx < bmx then bmx else amx) = hi := ⟨_, rfl⟩
  go_upto_region 5 with fail
  obtain ⟨own0, bel0⟩ := three_new w 71 [.int .i64 sa, .int .i64 aa, .slice aA an' ac, .int .i64 amn, .int .i64 amx] [.int .i64 sb, .int .i64 ba, .slice bA bn' bc, .int .i64 bmn, .int .i64 bmx] [.int .i64 0, .int .i64 0, .slice none 0 0, .int .i64 0, .int .i64 0]
  go_cut [5] (fun s wx => s = .int .i64 0 ∧ ∃ C k p, Own wx (w.heap.size + 1 + 1) 71 [.int .i64 (waddF sa sb).1, .int .i64 (waddF aa ba).1, .slice C k p, .int .i64 lo, .int .i64 hi] ∧ Words wx C k p (wds (val asq + val bsq)) ∧ Below w.heap.size w wx ∧ Typ wx C 41)
  case first =>
    go_region_held3 (fun w' => w'.cell? ⟨w.heap.size, 2, none⟩ = some (.slice aA an' ac) ∧ w'.cell? ⟨w.heap.size + 1, 2, none⟩ = some (.slice bA bn' bc) ∧ w'.cell? ⟨w.heap.size, 3, none⟩ = some (.int .i64 amn) ∧ w'.cell? ⟨w.heap.size + 1, 3, none⟩ = some (.int .i64 bmn) ∧
        w'.cell? ⟨w.heap.size, 4, none⟩ = some (.int .i64 amx) ∧ w'.cell? ⟨w.heap.size + 1, 4, none⟩ = some (.int .i64 bmx))
      (first
        | (go_keep; done)
        | (simp (disch := (dsimp only; omega)) [*, World.cell?_setCell_far]; done)
        | (go_split_ands
           refine ⟨?_, ?_, ?_, ?_, ?_, ?_⟩ <;> (rw [hbw.cell (by simp <;> omega)]; first | assumption | (simp [go_sem]; done))))
      (first
        | (go_at_call 71; refine (add_any (ax.below (by go_grown)) (bx.below (by go_grown)) (by omega) (by omega)).mono ?_; rintro e w1 ⟨C, k, p, rfl, hw, hbw, hty⟩; have kc0 : w1.cell? ⟨w.heap.size + 1 + 1, 0, none⟩ = some (.int .i64 0) := (by rw [hbw.cell (by simp)]; simp [go_sem]); have kf0 : w1.frozen? ⟨w.heap.size + 1 + 1, 0, none⟩ = false := (by rw [hbw.frozen (by simp)]; simp [go_sem]); have kc1 : w1.cell? ⟨w.heap.size + 1 + 1, 1, none⟩ = some (.int .i64 0) := (by rw [hbw.cell (by simp)]; simp [go_sem]); have kf1 : w1.frozen? ⟨w.heap.size + 1 + 1, 1, none⟩ = false := (by rw [hbw.frozen (by simp)]; simp [go_sem]); have kc2 : w1.cell? ⟨w.heap.size + 1 + 1, 2, none⟩ = some (.slice none 0 0) := (by rw [hbw.cell (by simp)]; simp [go_sem]); have kf2 : w1.frozen? ⟨w.heap.size + 1 + 1, 2, none⟩ = false := (by rw [hbw.frozen (by simp)]; simp [go_sem]); have kc3 : w1.cell? ⟨w.heap.size + 1 + 1, 3, none⟩ = some (.int .i64 0) := (by rw [hbw.cell (by simp)]; simp [go_sem]); have kf3 : w1.frozen? ⟨w.heap.size + 1 + 1, 3, none⟩ = false := (by rw [hbw.frozen (by simp)]; simp [go_sem]); have kc4 : w1.cell? ⟨w.heap.size + 1 + 1, 4, none⟩ = some (.int .i64 0) := (by rw [hbw.cell (by simp)]; simp [go_sem]); have kf4 : w1.frozen? ⟨w.heap.size + 1 + 1, 4, none⟩ = false := (by rw [hbw.frozen (by simp)]; simp [go_sem])))
    all_goals
      go_wp2_with fail
      go_meet
      refine ⟨rfl, C, k, p, ?_, ?_, ?_, ?_⟩
      · exact (own0.below hbw (by simp)).store5 _ _ _ _ _
      · exact hw.only (own0.below hbw (by simp)) (by intro v hv x; simp at hv; rcases hv with rfl | rfl | rfl <;> simp) (only_set (only_set (only_set (only_set (only_set (World.grownBy.refl _ _) _ _) _ _) _ _) _ _) _ _)
      · exact (((((bel0.trans (hbw.mono (by simp; omega))).setCell (by simp; omega) _).setCell (by simp; omega) _).setCell (by simp; omega) _).setCell (by simp; omega) _).setCell (by simp; omega) _
      · exact hty.only (own0.below hbw (by simp)) (by decide) (only_set (only_set (only_set (only_set (only_set (World.grownBy.refl _ _) _ _) _ _) _ _) _ _) _ _)
  case rest =>
    obtain ⟨rfl, C, k, p, ho, hw, hb, hty⟩ := hcut
    have hlo' : lo = min amn bmn := by rw [← hlo]; split <;> omega
    have hhi' : hi = max amx bmx := by rw [← hhi]; split <;> omega
    have c0 := ho.cell 0
    have c1 := ho.cell 1
    have c2 := ho.cell 2
    have c3 := ho.cell 3
    have c4 := ho.cell 4
    simp only [List.getElem?_cons_zero, List.getElem?_cons_succ] at c0 c1 c2 c3 c4
    go_wp2
    refine bodyPost_ret (v := .tuple #[.agg #[.int .i64 (waddF sa sb).1, .int .i64 (waddF aa ba).1, .slice C k p, .int .i64 lo, .int .i64 hi], .int .i64 0]) (by simp [results, Try.results31, go_sem, c0, c1, c2, c3, c4]) rfl ⟨C, k, p, ?_, hw, hb, hty⟩
    rw [hlo', hhi']
end Go.Proofs.Ytdhlcbhpjejljaa
