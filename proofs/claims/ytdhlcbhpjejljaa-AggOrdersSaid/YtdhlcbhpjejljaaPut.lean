import Derived.Test.YtdhlcbhpjejljaaRead
namespace Go.Proofs.Ytdhlcbhpjejljaa
open Go.RowKit

theorem only_of_below {w w' : World} (h : Below w.heap.size w w') (g : Nat) : w.grownBy w' (some g) := ⟨h.os, h.tape, h.output, h.size, fun k hk _ => h.block k hk⟩
theorem only_set {w w' : World} {g : Nat} (h : w.grownBy w' (some g)) (i : Nat) (u : Value) : w.grownBy (w'.setCell ⟨g, i, none⟩ u) (some g) :=
  ⟨h.os, h.tape, h.output, by simpa [World.setCell] using h.size, fun k hk hne => (Below.heap_setCell w' _ u k (fun e => hne (by rw [e]))).trans (h.block k hk hne)⟩
theorem only_below {w w1 w' : World} {g : Nat} (h : w.grownBy w1 (some g)) (hb : Below w1.heap.size w1 w') : w.grownBy w' (some g) :=
  ⟨hb.os.trans h.os, hb.tape.trans h.tape, hb.output.trans h.output, Nat.le_trans h.size hb.size, fun k hk hne => (hb.block k (Nat.lt_of_lt_of_le hk h.size)).trans (h.block k hk hne)⟩
theorem only_drew {w w1 : World} {g : Nat} (h : w.grownBy w1 (some g)) : w.grownBy w1.drew (some g) := ⟨h.os, h.tape, h.output, h.size, h.block⟩
theorem only_drewN {w w1 : World} {g : Nat} (h : w.grownBy w1 (some g)) (q : Nat) : w.grownBy (w1.drewN q) (some g) := ⟨h.os, h.tape, h.output, h.size, h.block⟩

/-- No cell of this list is a number of the kind k. -/
def NoKind (k : IntKind) (vs : List Value) : Prop := ∀ v ∈ vs, ∀ x : Int, v ≠ .int k x
theorem Own.nokind {w : World} {g : Nat} {e : TypeId} {vs : List Value} (h : Own w g e vs) {k : IntKind} (hk : NoKind k vs) {p : Addr} {x : Int} (hc : w.cell? p = some (.int k x)) : p.block ≠ g := by
  rintro rfl
  unfold Own at h
  simp only [World.cell?, h] at hc
  split at hc
  · cases hc
  · have := List.mem_of_getElem? (by simpa using hc)
    exact hk _ this x rfl
theorem Words.set_ {w : World} {A : Option Addr} {n c g i : Nat} {e : TypeId} {xs : List Nat} {vs : List Value} (h : Words w A n c xs) (ho : Own w g e vs) (hk : NoKind .u32 vs) (u : Value) : Words (w.setCell ⟨g, i, none⟩ u) A n c xs := by
  refine ⟨h.1, h.2.1, h.2.2.1, h.2.2.2.1, fun j hj => ?_⟩
  obtain ⟨ad, e, hc⟩ := h.2.2.2.2 j hj
  refine ⟨ad, e, ?_⟩
  rw [← hc]
  refine World.cell?_of_block (Below.heap_setCell w _ u _ ?_)
  rw [List.getElem?_eq_getElem hj] at hc
  simp only [List.getElem_map] at hc
  exact ho.nokind hk hc

/-- What is put to a sum with its sign; none: there is no room. -/
def putF (neg : Bool) (x : Nat) (neg' : Bool) (y : Nat) : Option (Bool × Nat) :=
  if neg' = neg then if 2240 < bitsN (x + y) then none else some (neg, x + y)
  else if y ≤ x then some (if x - y = 0 then false else neg, x - y)
  else some (neg', y - x)

abbrev sumv (ca : Nat) (neg : Bool) (A : Option Addr) (n c : Nat) : List Value := [.bool true, .int .u8 (ca : Int), .bool neg, .slice A n c]
theorem sumv_no (ca : Nat) (neg : Bool) (A : Option Addr) (n c : Nat) : NoKind .u32 (sumv ca neg A n c) := by
  intro v hv x; simp [sumv] at hv; rcases hv with rfl | rfl | rfl | rfl <;> simp

/-- What a call of put leaves. -/
def PutPost (g ca : Nat) (neg : Bool) (x : Nat) (neg' : Bool) (y : Nat) (w : World) (e : Ending) (w' : World) : Prop :=
  match putF neg x neg' y with
  | none => e = .returned (.bool false) ∧ Below w.heap.size w w'
  | some (ng, v) => e = .returned (.bool true) ∧ w.grownBy w' (some g) ∧ ∃ A n c, Own w' g 145 (sumv ca ng A n c) ∧ Words w' A n c (wds v)

theorem PutPost.no {g ca x y : Nat} {neg neg' : Bool} {w w' : World} (h : putF neg x neg' y = none) (hb : Below w.heap.size w w') : PutPost g ca neg x neg' y w (.returned (.bool false)) w' := by
  unfold PutPost; rw [h]; exact ⟨rfl, hb⟩
theorem PutPost.yes {g ca x y v n c : Nat} {neg neg' ng : Bool} {A : Option Addr} {w w' : World} (h : putF neg x neg' y = some (ng, v)) (hb : w.grownBy w' (some g)) (ho : Own w' g 145 (sumv ca ng A n c)) (hw : Words w' A n c (wds v)) :
    PutPost g ca neg x neg' y w (.returned (.bool true)) w' := by
  unfold PutPost; rw [h]; exact ⟨rfl, hb, A, n, c, ho, hw⟩
theorem wds_len_add {xs ys : List Nat} {t : Nat} (hx : Small xs) (hy : Small ys) (h1 : xs.length ≤ t) (h2 : ys.length ≤ t) : (wds (val xs + val ys)).length ≤ t + 1 := by
  apply wds_length_le
  have e1 := Nat.lt_of_lt_of_le (val_lt hx) (Nat.pow_le_pow_right (by omega : 4294967296 > 0) h1)
  have e2 := Nat.lt_of_lt_of_le (val_lt hy) (Nat.pow_le_pow_right (by omega : 4294967296 > 0) h2)
  rw [Nat.pow_succ]; omega

set_option maxRecDepth 100000 in
set_option maxHeartbeats 4000000 in
theorem put_any {g ca n c m d : Nat} {neg neg' : Bool} {A B : Option Addr} {xs ys : List Nat} {w : World} (hs : Own w g 145 (sumv ca neg A n c)) (hx : Words w A n c xs) (hy : Words w B m d ys)
    (hn : n ≤ 4294967295) (hm : m ≤ 4294967295) :
    Calls Try.prog 96 #[.pointer (some ⟨g, 0, none⟩), .bool neg', .slice B m d] w (PutPost g ca neg (val xs) neg' (val ys) w) := by
  have f2 : w.cell? ⟨g, 2, none⟩ = some (.bool neg) := hs.cell 2
  have f3 : w.cell? ⟨g, 3, none⟩ = some (.slice A n c) := hs.cell 3
  by_cases hneg : neg' = neg
  · subst hneg
    go_enter Try.func96, Try.ntmps96
    go_wp2_with fail
    refine (add_any hx hy (by omega) (by omega)).mono ?_
    rintro e w1 ⟨C, k, p, rfl, hw, hb, _⟩
    have hk : k ≤ 4294967296 := by rw [hw.len]; exact wds_len_add hx.small hy.small (by rw [← hx.len]; exact hn) (by rw [← hy.len]; exact hm)
    have hs1 := hs.below hb hs.lt
    have f3' : w1.cell? ⟨g, 3, none⟩ = some (.slice A n c) := hs1.cell 3
    have fr := hs1.free 3
    go_wp2_with fail
    refine (bits_any hw hk).mono ?_
    rintro e w' ⟨rfl, rfl⟩
    rw [val_wds]
    by_cases hbits : 2240 < bitsN (val xs + val ys)
    · go_wp2
      go_ret
      exact PutPost.no (by simp [putF, hbits]) hb
    · go_wp2
      go_ret
      exact PutPost.yes (by simp [putF, hbits]) (only_set (only_of_below hb g) _ _) (hs1.set_ 3 _) (hw.set_ hs1 (sumv_no _ _ _ _ _) _)
  · have hne : (neg' == neg) = false := by simpa using hneg
    by_cases hle : val ys ≤ val xs
    · have HN := Lib.hid hneg; clear hneg
      go_enter Try.func96, Try.ntmps96
      go_wp2_with fail
      refine (sub_yes hx hy hle (by omega) (by omega)).mono ?_
      rintro e w1 ⟨C, k, p, rfl, hw, hb⟩
      have hs1 := hs.below hb hs.lt
      have f3' : w1.cell? ⟨g, 3, none⟩ = some (.slice A n c) := hs1.cell 3
      have fr := hs1.free 3
      have fr2 := hs1.free 2
      have f2' : w1.cell? ⟨g, 2, none⟩ = some (.bool neg) := hs1.cell 2
      by_cases h0 : val xs - val ys = 0
      · obtain rfl : k = 0 := by rw [hw.len, h0, wds_zero]; rfl
        have H0 := Lib.hid h0; clear h0
        have HL := Lib.hid hle; clear hle
        go_wp2
        go_ret
        have h2 := (hs1.set_ 3 (.slice C 0 p)).set_ 2 (.bool false)
        exact PutPost.yes (by simp [putF, HN.out, HL.out, H0.out]) (only_set (only_set (only_of_below hb g) _ _) _ _) h2 ((hw.set_ hs1 (sumv_no _ _ _ _ _) _).set_ (hs1.set_ 3 (.slice C 0 p)) (sumv_no _ _ _ _ _) _)
      · have hk0 : ((k : Int) == 0) = false := by
          have : k ≠ 0 := by rw [hw.len]; intro e; have := congrArg val (List.eq_nil_of_length_eq_zero e); rw [val_wds] at this; exact h0 this
          simp; omega
        have H0 := Lib.hid h0; clear h0
        have HL := Lib.hid hle; clear hle
        go_wp2
        go_ret
        exact PutPost.yes (by simp [putF, HN.out, HL.out, H0.out]) (only_set (only_of_below hb g) _ _) (hs1.set_ 3 _) (hw.set_ hs1 (sumv_no _ _ _ _ _) _)
    · have HN := Lib.hid hneg; clear hneg
      go_enter Try.func96, Try.ntmps96
      go_wp2_with fail
      refine (sub_no hx hy (by omega)).mono ?_
      rintro e w1 ⟨rfl, q, rfl⟩
      go_wp2_with fail
      refine (sub_yes (hy.keep (w' := w.drewN q) (fun _ _ => rfl)) (hx.keep (w' := w.drewN q) (fun _ _ => rfl)) (by omega) (by omega) (by omega)).mono ?_
      rintro e w1 ⟨C, k, p, rfl, hw, hb⟩
      have hb := below_undrawn hb
      have hs1 := hs.below hb hs.lt
      have f3' : w1.cell? ⟨g, 3, none⟩ = some (.slice A n c) := hs1.cell 3
      have fr := hs1.free 3
      have fr2 := hs1.free 2
      have f2' : w1.cell? ⟨g, 2, none⟩ = some (.bool neg) := hs1.cell 2
      have hk0 : ((k : Int) == 0) = false := by
        have : k ≠ 0 := by rw [hw.len]; intro e; have := congrArg val (List.eq_nil_of_length_eq_zero e); rw [val_wds] at this; have : val ys - val xs = 0 := this; omega
        simp; omega
      have HL := Lib.hid hle; clear hle
      go_wp2
      go_ret
      have h2 := (hs1.set_ 3 (.slice C k p)).set_ 2 (.bool neg')
      exact PutPost.yes (by simp [putF, HN.out, HL.out]) (only_set (only_set (only_of_below hb g) _ _) _ _) h2 ((hw.set_ hs1 (sumv_no _ _ _ _ _) _).set_ (hs1.set_ 3 (.slice C k p)) (sumv_no _ _ _ _ _) _)
theorem is_any {g : Nat} {w : World} (hs : w.cell? ⟨g, 0, none⟩ = some (.bool true)) : Calls Try.prog 92 #[.pointer (some ⟨g, 0, none⟩)] w fun e w' => e = .returned (.bool true) ∧ w = w' := by
  go_enter Try.func92, Try.ntmps92
  go_wp2
  go_ret
  exact ⟨rfl, rfl⟩
end Go.Proofs.Ytdhlcbhpjejljaa
