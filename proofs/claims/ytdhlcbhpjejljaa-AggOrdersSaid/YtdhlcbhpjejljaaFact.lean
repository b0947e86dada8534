/-
  A fact in memory; fact.fits, fact.Check, schema.Full, key.ask.
-/
import Derived.Test.YtdhlcbhpjejljaaCheck
namespace Go.Proofs.Ytdhlcbhpjejljaa
open Go.RowKit

/-- A slice of signed numbers of 64 bits. -/
def Nums (w : World) (A : Option Addr) (n c : Nat) (l : List Int) : Prop := n = l.length ∧ n ≤ c ∧ c ≤ maxLen ∧ Row w A (l.map (Value.int .i64)) ∧ ∀ x ∈ l, I64 x
def Flts (w : World) (A : Option Addr) (n c : Nat) (l : List Nat) : Prop := n = l.length ∧ n ≤ c ∧ c ≤ maxLen ∧ Row w A (l.map (Value.float .f64)) ∧ ∀ x ∈ l, W64 x
section
variable {w w' : World} {A : Option Addr} {n c : Nat}
theorem Nums.below {l : List Int} (h : Nums w A n c l) (hb : Below w.heap.size w w') : Nums w' A n c l := ⟨h.1, h.2.1, h.2.2.1, h.2.2.2.1.below hb, h.2.2.2.2⟩
theorem Flts.below {l : List Nat} (h : Flts w A n c l) (hb : Below w.heap.size w w') : Flts w' A n c l := ⟨h.1, h.2.1, h.2.2.1, h.2.2.2.1.below hb, h.2.2.2.2⟩
theorem Nums.most {l : List Int} (h : Nums w A n c l) : n ≤ 9223372036854775807 := by have := h.2.1; have := h.2.2.1; unfold maxLen at this; omega
theorem Flts.most {l : List Nat} (h : Flts w A n c l) : n ≤ 9223372036854775807 := by have := h.2.1; have := h.2.2.1; unfold maxLen at this; omega
theorem Nums.at_ {l : List Int} (h : Nums w A n c l) {k : Nat} (hk : k < n) : ∃ ad x, A = some ad ∧ l[k]? = some x ∧ I64 x ∧ w.cell? (ad.add k) = some (.int .i64 x) := by
  have hl : k < l.length := by rw [← h.1]; exact hk
  obtain ⟨ad, e, hc⟩ := h.2.2.2.1.one (k := k) (by simpa using hl) rfl
  exact ⟨ad, l[k], e, List.getElem?_eq_getElem hl, h.2.2.2.2 _ (List.getElem_mem hl), by simpa using hc⟩
theorem Flts.at_ {l : List Nat} (h : Flts w A n c l) {k : Nat} (hk : k < n) : ∃ ad x, A = some ad ∧ l[k]? = some x ∧ W64 x ∧ w.cell? (ad.add k) = some (.float .f64 x) := by
  have hl : k < l.length := by rw [← h.1]; exact hk
  obtain ⟨ad, e, hc⟩ := h.2.2.2.1.one (k := k) (by simpa using hl) rfl
  exact ⟨ad, l[k], e, List.getElem?_eq_getElem hl, h.2.2.2.2 _ (List.getElem_mem hl), by simpa using hc⟩
end
structure LF where
  cA : Option Addr
  cN : Nat
  cC : Nat
  codes : List Int
  iA : Option Addr
  iN : Nat
  iC : Nat
  ints : List Int
  nA : Option Addr
  nN : Nat
  nC : Nat
  nums : List Nat
abbrev LF.cells (f : LF) : List Value := [.slice f.cA f.cN f.cC, .slice f.iA f.iN f.iC, .slice f.nA f.nN f.nC]
def LF.ok (w : World) (f : LF) : Prop := Nums w f.cA f.cN f.cC f.codes ∧ Nums w f.iA f.iN f.iC f.ints ∧ Flts w f.nA f.nN f.nC f.nums
theorem LF.ok.below {w w' : World} {f : LF} (h : f.ok w) (hb : Below w.heap.size w w') : f.ok w' := ⟨h.1.below hb, h.2.1.below hb, h.2.2.below hb⟩

def fullF (s : LS) : Nat := if checkF s = 0 then 2 ^ s.dims.length - 1 else 0
theorem check_dims {s : LS} (h : checkF s = 0) : 1 ≤ s.dims.length ∧ s.dims.length ≤ 6 ∧ s.ints.length ≤ 3 ∧ s.nums.length ≤ 2 ∧ s.views.length ≤ 15 := by
  unfold checkF at h
  split at h
  · cases h
  · rename_i hm
    unfold manyB at hm
    simp only [Bool.or_eq_true, decide_eq_true_eq, not_or] at hm
    omega
theorem sizes_ok {l : List LD} {K : Int} (h : sizesB l K = true) : ∀ d ∈ l, 1 ≤ d.size ∧ d.size ≤ 4096 := by
  induction l generalizing K with
  | nil => intro d hd; cases hd
  | cons x l ih =>
    rw [sizesB] at h
    split at h
    · cases h
    · intro d hd
      rcases List.mem_cons.1 hd with rfl | hd
      · omega
      · exact ih h d hd
theorem check_sizes {s : LS} (h : checkF s = 0) : sizesB s.dims 1 = true := by
  unfold checkF at h
  split at h
  · cases h
  · split at h
    · cases h
    · split at h
      · cases h
      · split at h
        · cases h
        · rename_i hs; simpa using hs

set_option maxRecDepth 100000 in
set_option maxHeartbeats 1000000 in
theorem full_any {s : LS} {w : World} (hs : s.ok w) :
    Calls Try.prog 101 #[.agg s.cells.toArray] w fun e w' => e = .returned (.int .u32 (fullF s : Int)) ∧ Below w.heap.size w w' := by
  have HF := Lib.hid (show fullF s = if checkF s = 0 then 2 ^ s.dims.length - 1 else 0 from rfl)
  have hok := hs
  have HC := Lib.hid (fun h => check_dims (s := s) h)
  obtain ⟨dA, dN, dC, dims, iA, iN, iC, ints, nA, nN, nC, nums, vA, vN, vC, views⟩ := s
  obtain ⟨hd, hi, hn, hv⟩ := hs
  dsimp only at *
  have HDL := Lib.hid hd.1
  clear hd hi hn hv
  go_enter Try.func101, Try.ntmps101
  go_upto_region 1 with fail
  obtain ⟨W, hW⟩ : ∃ W, W = w.alloc (.cells (LS.mk dA dN dC dims iA iN iC ints nA nN nC nums vA vN vC views).cells.toArray 40) := ⟨_, rfl⟩
  have o1 : Own W w.heap.size 40 (LS.mk dA dN dC dims iA iN iC ints nA nN nC nums vA vN vC views).cells := by rw [hW]; exact Own.new _ _ _
  have hbW : Below w.heap.size w W := by rw [hW]; exact (Below.refl _ _).alloc (Nat.le_refl _) _
  have hsW : w.heap.size < W.heap.size := by rw [hW]; simp
  rw [← hW]
  clear hW
  have hW' := hok.below hbW
  clear hok
  have q0 : W.cell? ⟨w.heap.size, 0, none⟩ = some (.slice dA dN dC) := o1.cell 0
  have q1 : W.cell? ⟨w.heap.size, 1, none⟩ = some (.slice iA iN iC) := o1.cell 1
  have q2 : W.cell? ⟨w.heap.size, 2, none⟩ = some (.slice nA nN nC) := o1.cell 2
  have q3 : W.cell? ⟨w.heap.size, 3, none⟩ = some (.slice vA vN vC) := o1.cell 3
  go_wp2_with fail
  refine (check_any (s := LS.mk dA dN dC dims iA iN iC ints nA nN nC nums vA vN vC views) hW').mono ?_
  rintro e w1 ⟨rfl, hb1⟩
  have hbw := hbW.trans (hb1.mono (Nat.le_of_lt hsW))
  have r0 : w1.cell? ⟨w.heap.size, 0, none⟩ = some (.slice dA dN dC) := (o1.below hb1 hsW).cell 0
  clear q0 q1 q2 q3 hW' hb1 o1
  obtain ⟨ch, hch⟩ : ∃ c, c = checkF (LS.mk dA dN dC dims iA iN iC ints nA nN nC nums vA vN vC views) := ⟨_, rfl⟩
  rw [← hch]
  by_cases hc : ch = 0
  · have hd6 := HC.out (by rw [← hch, hc])
    rw [← HDL.out] at hd6
    have HR := Lib.hid (show fullF _ = 2 ^ dN - 1 by rw [HF.out, if_pos (by rw [← hch, hc]), ← HDL.out])
    clear HF HC HDL hch
    subst hc
    have hm6 : dN = 1 ∨ dN = 2 ∨ dN = 3 ∨ dN = 4 ∨ dN = 5 ∨ dN = 6 := by omega
    clear hd6
    rcases hm6 with rfl | rfl | rfl | rfl | rfl | rfl
    all_goals
      go_wp2
      go_ret
      exact ⟨ret_int (by rw [HR.out]; rfl), hbw⟩
  · have HR := Lib.hid (show fullF _ = 0 by rw [HF.out, if_neg (by rw [← hch]; exact hc)])
    have d1 : ((ch : Int) != 0) = true := by simp; omega
    clear HF HC HDL hch hc
    go_wp2
    go_ret
    exact ⟨ret_int (by rw [HR.out]; rfl), hbw⟩
theorem full_lt (s : LS) : fullF s < 64 := by
  unfold fullF
  split
  · rename_i h
    obtain ⟨h1, h2, _⟩ := check_dims h
    have h3 : 2 ^ s.dims.length ≤ 2 ^ 6 := Nat.pow_le_pow_right (by omega) h2
    omega
  · omega
/-- Why there are no keys of a set of dimensions. -/
def askF (s : LS) (mask : Nat) : Nat := if fullF s = 0 then 1 else if bits .andNot .u32 (mask : Int) (fullF s : Int) ≠ 0 then 11 else 0
set_option maxRecDepth 100000 in
set_option maxHeartbeats 1000000 in
theorem ask_any {s : LS} {w : World} (hs : s.ok w) (mask : Nat) :
    Calls Try.prog 90 #[.agg s.cells.toArray, .int .u32 (mask : Int)] w fun e w' => e = .returned (.int .i64 (askF s mask : Int)) ∧ Below w.heap.size w w' := by
  have HF := Lib.hid (show askF s mask = if fullF s = 0 then 1 else if bits .andNot .u32 (mask : Int) (fullF s : Int) ≠ 0 then 11 else 0 from rfl)
  have hok := hs
  have HL := Lib.hid (full_lt s)
  obtain ⟨dA, dN, dC, dims, iA, iN, iC, ints, nA, nN, nC, nums, vA, vN, vC, views⟩ := s
  clear hs
  go_enter Try.func90, Try.ntmps90
  go_upto_region 1 with fail
  obtain ⟨W, hW⟩ : ∃ W, W = w.alloc (.cells (LS.mk dA dN dC dims iA iN iC ints nA nN nC nums vA vN vC views).cells.toArray 40) := ⟨_, rfl⟩
  have o1 : Own W w.heap.size 40 (LS.mk dA dN dC dims iA iN iC ints nA nN nC nums vA vN vC views).cells := by rw [hW]; exact Own.new _ _ _
  have hbW : Below w.heap.size w W := by rw [hW]; exact (Below.refl _ _).alloc (Nat.le_refl _) _
  have hsW : w.heap.size < W.heap.size := by rw [hW]; simp
  rw [← hW]
  clear hW
  have hW' := hok.below hbW
  clear hok
  have q0 : W.cell? ⟨w.heap.size, 0, none⟩ = some (.slice dA dN dC) := o1.cell 0
  have q1 : W.cell? ⟨w.heap.size, 1, none⟩ = some (.slice iA iN iC) := o1.cell 1
  have q2 : W.cell? ⟨w.heap.size, 2, none⟩ = some (.slice nA nN nC) := o1.cell 2
  have q3 : W.cell? ⟨w.heap.size, 3, none⟩ = some (.slice vA vN vC) := o1.cell 3
  go_wp2_with fail
  refine (full_any (s := LS.mk dA dN dC dims iA iN iC ints nA nN nC nums vA vN vC views) hW').mono ?_
  rintro e w1 ⟨rfl, hb1⟩
  have hbw := hbW.trans (hb1.mono (Nat.le_of_lt hsW))
  clear q0 q1 q2 q3 hW' hb1 o1
  generalize fullF (LS.mk dA dN dC dims iA iN iC ints nA nN nC nums vA vN vC views) = fu at *
  by_cases hc : fu = 0
  · have HR := Lib.hid (show askF _ mask = 1 by rw [HF.out, if_pos hc])
    subst hc
    clear HF HL
    go_wp2
    go_ret
    exact ⟨ret_int (by rw [HR.out]; rfl), hbw⟩
  · have d1 : ((fu : Int) == 0) = false := by simp; omega
    by_cases hz : bits .andNot .u32 (mask : Int) (fu : Int) = 0
    · have HR := Lib.hid (show askF _ mask = 0 by rw [HF.out, if_neg hc, if_neg (by rw [hz]; simp)])
      have d2 : (bits .andNot .u32 (mask : Int) (fu : Int) != 0) = false := by rw [hz]; rfl
      clear HF HL hc hz
      go_wp2
      go_ret
      exact ⟨ret_int (by rw [HR.out]; rfl), hbw⟩
    · have HR := Lib.hid (show askF _ mask = 11 by rw [HF.out, if_neg hc, if_pos hz])
      have d2 : (bits .andNot .u32 (mask : Int) (fu : Int) != 0) = true := by simpa using hz
      clear HF HL hc hz
      go_wp2
      go_ret
      exact ⟨ret_int (by rw [HR.out]; rfl), hbw⟩
/-- Codes that fit their dimensions. -/
def codesB : List Int → List LD → Bool
  | c :: l, d :: m => if c < 0 ∨ d.size ≤ c then false else codesB l m
  | _, _ => true
/-- Why a fact is none of a right schema. -/
def fitsF (s : LS) (f : LF) : Nat :=
  if f.codes.length ≠ s.dims.length ∨ f.ints.length ≠ s.ints.length ∨ f.nums.length ≠ s.nums.length then 3 else if codesB f.codes s.dims then 0 else 2
theorem codes_bad {l : List Int} {m : List LD} {k : Nat} {c : Int} {d : LD} (h : l[k]? = some c) (h' : m[k]? = some d) (hb : c < 0 ∨ d.size ≤ c) : codesB (l.drop k) (m.drop k) = false := by
  obtain ⟨hk, rfl⟩ := List.getElem?_eq_some_iff.1 h
  obtain ⟨hk', rfl⟩ := List.getElem?_eq_some_iff.1 h'
  rw [List.drop_eq_getElem_cons hk, List.drop_eq_getElem_cons hk', codesB, if_pos hb]
theorem codes_next {l : List Int} {m : List LD} {k : Nat} {c : Int} {d : LD} (h : l[k]? = some c) (h' : m[k]? = some d) (hb : ¬ (c < 0 ∨ d.size ≤ c)) : codesB (l.drop k) (m.drop k) = codesB (l.drop (k + 1)) (m.drop (k + 1)) := by
  obtain ⟨hk, rfl⟩ := List.getElem?_eq_some_iff.1 h
  obtain ⟨hk', rfl⟩ := List.getElem?_eq_some_iff.1 h'
  rw [List.drop_eq_getElem_cons hk, List.drop_eq_getElem_cons hk', codesB, if_neg hb]
theorem two_owns (w : World) (e e' : TypeId) (v v' : List Value) : Own ((w.alloc (.cells v.toArray e)).alloc (.cells v'.toArray e')) w.heap.size e v ∧ Own ((w.alloc (.cells v.toArray e)).alloc (.cells v'.toArray e')) (w.heap.size + 1) e' v' ∧ Below w.heap.size w ((w.alloc (.cells v.toArray e)).alloc (.cells v'.toArray e')) ∧ w.heap.size + 1 < ((w.alloc (.cells v.toArray e)).alloc (.cells v'.toArray e')).heap.size := by
  have h2 := Own.new (w.alloc (.cells v.toArray e)) e' v'
  exact ⟨(Own.new w e v).alloc _, by simpa using h2, below2 (Nat.le_refl _) _ _, by simp⟩
set_option maxRecDepth 100000 in
set_option maxHeartbeats 2000000 in
theorem fits_any {s : LS} {f : LF} {w : World} (hs : s.ok w) (hf : f.ok w) :
    Calls Try.prog 89 #[.agg s.cells.toArray, .agg f.cells.toArray] w fun e w' => e = .returned (.int .i64 (fitsF s f : Int)) ∧ Below w.heap.size w w' := by
  have HF := Lib.hid (show fitsF s f = if f.cN ≠ s.dN ∨ f.iN ≠ s.iN ∨ f.nN ≠ s.nN then 3 else if codesB f.codes s.dims then 0 else 2 by
    unfold fitsF; rw [hs.1.1, hs.2.1.1, hs.2.2.1.1, hf.1.1, hf.2.1.1, hf.2.2.1])
  obtain ⟨dA, dN, dC, dims, iA, iN, iC, ints, nA, nN, nC, nums, vA, vN, vC, views⟩ := s
  obtain ⟨cA, cN, cC, codes, jA, jN, jC, fints, kA, kN, kC, fnums⟩ := f
  obtain ⟨hd, hi, hn, hv⟩ := hs
  obtain ⟨gc, gi, gn⟩ := hf
  dsimp only at *
  have m1 := hd.most
  have m2 := hi.most
  have m3 := hn.most
  have m4 := gc.most
  have m5 := gi.most
  have m6 := gn.most
  go_enter Try.func89, Try.ntmps89
  go_upto_region 1 with fail
  obtain ⟨W, hW⟩ : ∃ W, W = (w.alloc (.cells (LS.mk dA dN dC dims iA iN iC ints nA nN nC nums vA vN vC views).cells.toArray 40)).alloc (.cells (LF.mk cA cN cC codes jA jN jC fints kA kN kC fnums).cells.toArray 46) := ⟨_, rfl⟩
  obtain ⟨o1, o2, hbW, hsW⟩ := two_owns w 40 46 (LS.mk dA dN dC dims iA iN iC ints nA nN nC nums vA vN vC views).cells (LF.mk cA cN cC codes jA jN jC fints kA kN kC fnums).cells
  rw [← hW] at o1 o2 hbW hsW ⊢
  clear hW
  have hd' := hd.below hbW
  have gc' := gc.below hbW
  clear hd hi hn hv gc gi gn
  have q0 : W.cell? ⟨w.heap.size, 0, none⟩ = some (.slice dA dN dC) := o1.cell 0
  have q1 : W.cell? ⟨w.heap.size, 1, none⟩ = some (.slice iA iN iC) := o1.cell 1
  have q2 : W.cell? ⟨w.heap.size, 2, none⟩ = some (.slice nA nN nC) := o1.cell 2
  have r0 : W.cell? ⟨w.heap.size + 1, 0, none⟩ = some (.slice cA cN cC) := o2.cell 0
  have r1 : W.cell? ⟨w.heap.size + 1, 1, none⟩ = some (.slice jA jN jC) := o2.cell 1
  have r2 : W.cell? ⟨w.heap.size + 1, 2, none⟩ = some (.slice kA kN kC) := o2.cell 2
  clear o1 o2
  go_cut [31] (fun t wx => ∃ B, t = .bool B ∧ Hid (B = decide (cN ≠ dN ∨ jN ≠ iN ∨ kN ≠ nN)) ∧ W = wx)
  case first =>
    clear HF hd' gc'
    by_cases e1 : cN = dN
    · have d1 : ((cN : Int) != dN) = false := by simp; omega
      by_cases e2 : jN = iN
      · have d2 : ((jN : Int) != iN) = false := by simp; omega
        have HR := Lib.hid (show ((kN : Int) != nN) = decide (cN ≠ dN ∨ jN ≠ iN ∨ kN ≠ nN) by
          rw [Bool.eq_iff_iff]; simp; omega)
        clear e1 e2
        go_wp2_with fail
        go_meet
        exact ⟨_, rfl, HR.out, rfl⟩
      · have d2 : ((jN : Int) != iN) = true := by simp; omega
        have HR := Lib.hid (show true = decide (cN ≠ dN ∨ jN ≠ iN ∨ kN ≠ nN) from (decide_eq_true (.inr (.inl e2))).symm)
        clear e1 e2
        go_wp2_with fail
        go_meet
        exact ⟨_, rfl, HR.out, rfl⟩
    · have d1 : ((cN : Int) != dN) = true := by simp; omega
      have HR := Lib.hid (show true = decide (cN ≠ dN ∨ jN ≠ iN ∨ kN ≠ nN) from (decide_eq_true (.inl e1)).symm)
      clear e1
      go_wp2_with fail
      go_meet
      exact ⟨_, rfl, HR.out, rfl⟩
  case rest =>
    obtain ⟨B, rfl, HB, rfl⟩ := hcut
    cases B with
    | true =>
      have HR := Lib.hid (show fitsF _ _ = 3 by rw [HF.out, if_pos (of_decide_eq_true HB.out.symm)])
      clear HF HB
      go_wp2
      go_ret
      exact ⟨ret_int (by rw [HR.out]; rfl), hbW⟩
    | false =>
      have hno := of_decide_eq_false HB.out.symm
      obtain rfl : cN = dN := by omega
      have HF2 := Lib.hid (HF.out.trans (if_neg hno))
      clear HF HB hno
      go_wp2
      go_loop [35] (fun i => ∃ k : Nat, k ≤ cN ∧ i = .int .i64 k ∧ Hid (codesB (codes.drop k) (dims.drop k) = codesB codes dims)) (fun i => cN - (intOf i).toNat)
      case atStart => exact ⟨0, Nat.zero_le _, rfl, rfl⟩
      case round =>
        obtain ⟨k, hk, rfl, hinv⟩ := hrel
        by_cases hlt : k < cN
        · obtain ⟨ad, c, rfl, hck, hcI, hc⟩ := gc'.at_ hlt
          obtain ⟨bd, d, p, rfl, hdk, dok, hp, p0, p1⟩ := hd'.at_ hlt
          have HX := Lib.hid hck
          have HY := Lib.hid hdk
          clear hck hdk
          have i0 : (0 : Int) ≤ k := by omega
          have i1 : (k : Int) < cN := by omega
          by_cases e1 : c < 0
          · have HR := Lib.hid (show fitsF _ _ = 2 by rw [HF2.out, ← hinv.out, codes_bad HX.out HY.out (.inl e1)]; rfl)
            have d1 : decide (c < 0) = true := decide_eq_true e1
            clear hinv HF2
            go_wp2
            go_ret
            exact ⟨ret_int (by rw [HR.out]; rfl), hbW⟩
          · have d1 : decide (c < 0) = false := decide_eq_false e1
            by_cases e2 : d.size ≤ c
            · have HR := Lib.hid (show fitsF _ _ = 2 by rw [HF2.out, ← hinv.out, codes_bad HX.out HY.out (.inr e2)]; rfl)
              have d2 : decide (d.size ≤ c) = true := decide_eq_true e2
              clear hinv HF2
              go_wp2
              go_ret
              exact ⟨ret_int (by rw [HR.out]; rfl), hbW⟩
            · have HI := Lib.hid ((codes_next HX.out HY.out (by omega)).symm.trans hinv.out)
              have d2 : decide (d.size ≤ c) = false := decide_eq_false e2
              clear hinv
              go_wp2
              go_round
              case rel => exact ⟨k + 1, by omega, by go_num, HI⟩
              case measure => simp [intOf]; omega
        · have HR := Lib.hid (show fitsF _ _ = 0 by
            rw [HF2.out, ← hinv.out, List.drop_eq_nil_of_le (by rw [← gc'.1]; omega)]; rfl)
          have i1 : ¬ (k : Int) < cN := by omega
          clear hinv HF2
          go_wp2
          go_ret
          exact ⟨ret_int (by rw [HR.out]; rfl), hbW⟩
/-- Why a fact is none of a schema. -/
def factF (s : LS) (f : LF) : Nat := if checkF s = 0 then fitsF s f else 1
set_option maxRecDepth 100000 in
set_option maxHeartbeats 2000000 in
theorem fact_any {s : LS} {f : LF} {w : World} (hs : s.ok w) (hf : f.ok w) :
    Calls Try.prog 44 #[.agg s.cells.toArray, .agg f.cells.toArray] w fun e w' => e = .returned (.int .i64 (factF s f : Int)) ∧ Below w.heap.size w w' := by
  have HF := Lib.hid (show factF s f = if checkF s = 0 then fitsF s f else 1 from rfl)
  have hok := hs
  have gok := hf
  obtain ⟨dA, dN, dC, dims, iA, iN, iC, ints, nA, nN, nC, nums, vA, vN, vC, views⟩ := s
  obtain ⟨cA, cN, cC, codes, jA, jN, jC, fints, kA, kN, kC, fnums⟩ := f
  clear hs hf
  go_enter Try.func44, Try.ntmps44
  go_upto_region 1 with fail
  obtain ⟨W, hW⟩ : ∃ W, W = (w.alloc (.cells (LS.mk dA dN dC dims iA iN iC ints nA nN nC nums vA vN vC views).cells.toArray 40)).alloc (.cells (LF.mk cA cN cC codes jA jN jC fints kA kN kC fnums).cells.toArray 46) := ⟨_, rfl⟩
  obtain ⟨o1, o2, hbW, hsW⟩ := two_owns w 40 46 (LS.mk dA dN dC dims iA iN iC ints nA nN nC nums vA vN vC views).cells (LF.mk cA cN cC codes jA jN jC fints kA kN kC fnums).cells
  rw [← hW] at o1 o2 hbW hsW ⊢
  clear hW
  have hok' := hok.below hbW
  have gok' := gok.below hbW
  clear hok gok
  have q0 : W.cell? ⟨w.heap.size, 0, none⟩ = some (.slice dA dN dC) := o1.cell 0
  have q1 : W.cell? ⟨w.heap.size, 1, none⟩ = some (.slice iA iN iC) := o1.cell 1
  have q2 : W.cell? ⟨w.heap.size, 2, none⟩ = some (.slice nA nN nC) := o1.cell 2
  have q3 : W.cell? ⟨w.heap.size, 3, none⟩ = some (.slice vA vN vC) := o1.cell 3
  go_wp2_with fail
  refine (check_any (s := LS.mk dA dN dC dims iA iN iC ints nA nN nC nums vA vN vC views) hok').mono ?_
  rintro e w1 ⟨rfl, hb1⟩
  have hbw := hbW.trans (hb1.mono (by omega))
  clear q0 q1 q2 q3
  generalize hch : checkF (LS.mk dA dN dC dims iA iN iC ints nA nN nC nums vA vN vC views) = ch at *
  have HCH := Lib.hid hch
  clear hch
  by_cases hc : ch = 0
  · subst hc
    have HR := Lib.hid (HF.out.trans (if_pos rfl))
    have q0 : w1.cell? ⟨w.heap.size, 0, none⟩ = some (.slice dA dN dC) := (o1.below hb1 (by omega)).cell 0
    have q1 : w1.cell? ⟨w.heap.size, 1, none⟩ = some (.slice iA iN iC) := (o1.below hb1 (by omega)).cell 1
    have q2 : w1.cell? ⟨w.heap.size, 2, none⟩ = some (.slice nA nN nC) := (o1.below hb1 (by omega)).cell 2
    have q3 : w1.cell? ⟨w.heap.size, 3, none⟩ = some (.slice vA vN vC) := (o1.below hb1 (by omega)).cell 3
    have r0 : w1.cell? ⟨w.heap.size + 1, 0, none⟩ = some (.slice cA cN cC) := (o2.below hb1 (by omega)).cell 0
    have r1 : w1.cell? ⟨w.heap.size + 1, 1, none⟩ = some (.slice jA jN jC) := (o2.below hb1 (by omega)).cell 1
    have r2 : w1.cell? ⟨w.heap.size + 1, 2, none⟩ = some (.slice kA kN kC) := (o2.below hb1 (by omega)).cell 2
    have hok2 := hok'.below hb1
    have gok2 := gok'.below hb1
    clear hok' gok' HF HCH o1 o2
    go_wp2_with fail
    refine (fits_any (s := LS.mk dA dN dC dims iA iN iC ints nA nN nC nums vA vN vC views) (f := LF.mk cA cN cC codes jA jN jC fints kA kN kC fnums) hok2 gok2).mono ?_
    rintro e w2 ⟨rfl, hb2⟩
    have hbw2 := hbw.trans (hb2.mono hbw.size)
    clear q0 q1 q2 q3 r0 r1 r2
    go_wp2
    go_ret
    exact ⟨ret_int (by rw [HR.out]), hbw2⟩
  · have HR := Lib.hid (HF.out.trans (if_neg hc))
    have d1 : ((ch : Int) != 0) = true := by simp; omega
    clear HF hc HCH
    go_wp2
    go_ret
    exact ⟨ret_int (by rw [HR.out]; rfl), hbw⟩
end Go.Proofs.Ytdhlcbhpjejljaa
