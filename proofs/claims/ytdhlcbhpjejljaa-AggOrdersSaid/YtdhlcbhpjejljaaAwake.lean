/-
  bushellaw14.awake: the chapter's example.
-/
import Derived.Test.YtdhlcbhpjejljaaOne
import Derived.Test.YtdhlcbhpjejljaaCellJoinNo
import Derived.Test.YtdhlcbhpjejljaaSameW
namespace Go.Proofs.Ytdhlcbhpjejljaa
open Go.RowKit

/-- The example's schema, wherever it lies. -/
def awS (a b : Addr) : LS := LS.mk (some a) 1 1 [⟨⟨#[97]⟩, 2⟩] (some b) 1 1 [⟨#[109]⟩] none 0 0 [] none 0 0 []
def awF (a b : Addr) (c x : Int) : LF := LF.mk (some a) 1 1 [c] (some b) 1 1 [x] none 0 0 []
theorem toL (l : List UInt8) : (⟨⟨l⟩⟩ : ByteArray).toList = l := by rw [ByteArray.toList_eq]
theorem aw_words : isF ⟨#[97]⟩ = true ∧ isF ⟨#[109]⟩ = true := by
  constructor <;> decide +kernel
theorem aw_tw : twF [⟨#[97]⟩, ⟨#[109]⟩] = -1 := by decide +kernel
theorem aw_check (a b : Addr) : checkF (awS a b) = 0 := by
  have h1 : namesF (awS a b) = [⟨#[97]⟩, ⟨#[109]⟩] := rfl
  unfold checkF
  rw [h1, aw_tw, if_neg (by simp [manyB, awS])]
  simp only [List.all_cons, List.all_nil, aw_words.1, aw_words.2]
  rw [if_neg (by simp), if_neg (by omega), if_neg (by simp [awS, sizesB]), if_neg (by rw [viewsGo]; simp [awS])]
theorem aw_one (R : Nat → PR) (a b p q : Addr) (c x : Int) (hc0 : 0 ≤ c) (hc : c < 2) (hx : x ≠ -9223372036854775808) : oneF R (awS a b) 0 (awF p q c x) = .inr ⟨0, 1, [wholeOf x], []⟩ := by
  have h1 : factF (awS a b) (awF p q c x) = 0 := by
    unfold factF; rw [if_pos (aw_check a b)]
    unfold fitsF
    rw [if_neg (by simp [awS, awF]), if_pos]
    simp only [awS, awF, codesB]; rw [if_neg (by simp; omega)]
  have h2 : ofF (awS a b) 0 [c] = (0, 0) := by
    unfold ofF askF fullF
    rw [if_pos (aw_check a b)]
    have e1 : ¬ (2 ^ (awS a b).dims.length - 1 = 0) := by simp [awS]
    have e2 : bits .andNot .u32 ((0 : Nat) : Int) ((2 ^ (awS a b).dims.length - 1 : Nat) : Int) = 0 := by
      show bits .andNot .u32 ((0 : Nat) : Int) ((2 ^ 1 - 1 : Nat) : Int) = 0
      decide +kernel
    rw [if_neg e1, e2]
    simp [awS, keyGo]
  unfold oneF
  rw [h1, show (awF p q c x).codes = [c] from rfl, h2]
  simp [awF, hx]
theorem aw_whole : wholesP (wholeOf 3) (wholeOf (-5)) = some ⟨-2, 8, [34], -5, 3⟩ := by
  have e : wds (val (wds (3 * 3)) + val (wds (5 * 5))) = [34] := by
    rw [val_wds, val_wds, wds_pos (by omega)]; simp [wds_zero]
  unfold wholesP
  rw [if_pos (by decide)]
  simp only [wholeOf]
  rw [show (Int.natAbs 3) = 3 from rfl, show (Int.natAbs (-5)) = 5 from rfl, e]
  rfl
theorem aw_join : joinF ⟨0, 1, [wholeOf 3], []⟩ ⟨0, 1, [wholeOf (-5)], []⟩ = .inr ⟨0, 2, [⟨-2, 8, [34], -5, 3⟩], []⟩ := by
  unfold joinF
  rw [if_neg (by simp), if_neg (by decide)]
  simp only [joinI, aw_whole, joinR]
  rfl
theorem aw_pure {c : LC} (h : c.pure = ⟨0, 2, [⟨-2, 8, [34], -5, 3⟩], []⟩) : ∃ x, c.key = 0 ∧ c.count = 2 ∧ c.ints = [x] ∧ c.nums = [] ∧ x.sum = -2 ∧ x.abs = 8 ∧ x.sq = [34] ∧ x.mn = -5 ∧ x.mx = 3 := by
  obtain ⟨ak, ac, aiA, aiN, aiC, ai, anA, anN, anC, anu⟩ := c
  unfold LC.pure at h
  injection h with h1 h2 h3 h4
  dsimp only at *
  have hl : ai.length = 1 := by have := congrArg List.length h3; simpa using this
  obtain ⟨x, rfl⟩ := List.length_eq_one_iff.1 hl
  simp only [List.map_cons, List.map_nil, List.cons.injEq, and_true] at h3
  unfold LW.pure at h3
  injection h3 with g1 g2 g3 g4 g5
  exact ⟨x, h1, h2, rfl, by simpa using h4, g1, g2, g3, g4, g5⟩

theorem five_new (w : World) (e1 e2 e3 e4 e5 : TypeId) (v1 v2 v3 v4 v5 : List Value) : ∀ W, W = (((((w.alloc (.cells v1.toArray e1)).alloc (.cells v2.toArray e2)).alloc (.cells v3.toArray e3)).alloc (.cells v4.toArray e4)).alloc (.cells v5.toArray e5)) →
    Own W w.heap.size e1 v1 ∧ Own W (w.heap.size + 1) e2 v2 ∧ Own W (w.heap.size + 1 + 1) e3 v3 ∧ Own W (w.heap.size + 1 + 1 + 1) e4 v4 ∧ Own W (w.heap.size + 1 + 1 + 1 + 1) e5 v5 ∧ Below w.heap.size w W ∧ w.heap.size + 1 + 1 + 1 + 1 < W.heap.size := by
  rintro W rfl
  obtain ⟨h1, h2, h3, h4, h5⟩ := three_boxes w e1 e2 e3 v1 v2 v3 _ rfl
  obtain ⟨k1, k2, k3, k4⟩ := two_owns (((w.alloc (.cells v1.toArray e1)).alloc (.cells v2.toArray e2)).alloc (.cells v3.toArray e3)) e4 e5 v4 v5
  refine ⟨(h1.alloc _).alloc _, (h2.alloc _).alloc _, (h3.alloc _).alloc _, by simpa using k1, by simpa using k2, h4.trans (k3.mono h4.size), by simp⟩
theorem awS_ok {W : World} {g h : Nat} (h1 : Own W g 77 [.string ⟨#[97]⟩, .int .i64 2]) (h2 : Own W h 9 [.string ⟨#[109]⟩]) : (awS ⟨g, 0, none⟩ ⟨h, 0, none⟩).ok W := by
  refine ⟨⟨rfl, Nat.le_refl _, by show 1 ≤ maxLen; decide, h1.row, fun d hd => ?_⟩, ⟨rfl, Nat.le_refl _, by show 1 ≤ maxLen; decide, h2.row, fun s hs => ?_⟩, ⟨rfl, Nat.le_refl _, Nat.zero_le _, Row.nil _ _, fun s hs => by cases hs⟩, Words.nil _ _ _ (Nat.zero_le _)⟩
  · simp [awS] at hd; subst hd; exact ⟨by decide, by decide, by decide⟩
  · simp [awS] at hs; subst hs; decide
theorem awF_ok {W : World} {g h : Nat} {c x : Int} (hc : I64 c) (hx : I64 x) (h1 : Own W g 3 [.int .i64 c]) (h2 : Own W h 2 [.int .i64 x]) : (awF ⟨g, 0, none⟩ ⟨h, 0, none⟩ c x).ok W := by
  refine ⟨⟨rfl, Nat.le_refl _, by show 1 ≤ maxLen; decide, h1.row, fun d hd => ?_⟩, ⟨rfl, Nat.le_refl _, by show 1 ≤ maxLen; decide, h2.row, fun s hs => ?_⟩, ⟨rfl, Nat.le_refl _, Nat.zero_le _, Row.nil _ _, fun s hs => by cases hs⟩⟩
  · simp [awF] at hd; subst hd; exact hc
  · simp [awF] at hs; subst hs; exact hx
theorem OnePost.elim {R : Nat → PR} {s : LS} {mask : Nat} {f : LF} {w w1 : World} {e : Ending} {p : PC} {goal : Prop} (h : OnePost R s mask f w e w1) (hp : oneF R s mask f = .inr p)
    (k : ∀ c : LC, e = .returned (.tuple #[.agg c.cells.toArray, .int .i64 0]) → c.ok w1 → c.pure = p → (∀ x ∈ c.ints, x.n ≤ 4) → Below w.heap.size w w1 → goal) : goal := by
  obtain ⟨hb, h2⟩ := h
  rw [hp] at h2
  obtain ⟨c, he, hc, hcp, hn, _⟩ := h2
  exact k c he hc hcp hn hb
theorem JoinCPost.elim {a b : LC} {N : Nat} {w w1 : World} {e : Ending} {p : PC} {goal : Prop} (h : JoinCPost a b N w e w1) (hp : joinF a.pure b.pure = .inr p)
    (k : ∀ c : LC, e = .returned (.tuple #[.agg c.cells.toArray, .int .i64 0]) → c.ok w1 → c.pure = p → (∀ x ∈ c.ints, x.n ≤ N + 1) → Below w.heap.size w w1 → goal) : goal := by
  obtain ⟨hb, h2⟩ := h
  rw [hp] at h2
  obtain ⟨c, he, hc, hcp, hn⟩ := h2
  exact k c he hc hcp hn hb
theorem JoinCPost.elim_err {a b : LC} {N er : Nat} {w w1 : World} {e : Ending} {goal : Prop} (h : JoinCPost a b N w e w1) (hp : joinF a.pure b.pure = .inl er)
    (k : e = .returned (.tuple #[.agg #[.int .u64 0, .int .i64 0, .slice none 0 0, .slice none 0 0], .int .i64 er]) → Below w.heap.size w w1 → goal) : goal := by
  obtain ⟨hb, h2⟩ := h
  rw [hp] at h2
  exact k h2 hb
set_option maxRecDepth 100000 in
set_option maxHeartbeats 4000000 in
theorem awake_any (w : World) : Calls Try.prog 10 #[] w fun e w' => e = .returned (.bool true) ∧ Below w.heap.size w w' := by
  go_enter Try.func10, Try.ntmps10
  go_wp2_with fail
  obtain ⟨W, hW⟩ : ∃ W, W = (((((w.alloc (.cells [.string ⟨#[97]⟩, .int .i64 2].toArray 77)).alloc (.cells [.string ⟨#[109]⟩].toArray 9)).alloc (.cells [.slice (some ⟨w.heap.size, 0, none⟩) 1 1, .slice (some ⟨w.heap.size + 1, 0, none⟩) 1 1, .slice none 0 0, .slice none 0 0].toArray 40)).alloc (.cells [.int .i64 1].toArray 3)).alloc (.cells [.int .i64 3].toArray 2)) := ⟨_, rfl⟩
  obtain ⟨o1, o2, o3, o4, o5, hbW, hsW⟩ := five_new w _ _ _ _ _ _ _ _ _ _ W hW
  rw [← hW]
  clear hW
  refine (one_ints (R := fun _ => ⟨[], 0, 0⟩) (awS_ok o1 o2) (awF_ok (c := 1) (x := 3) ⟨by decide, by decide⟩ ⟨by decide, by decide⟩ o4 o5) 0 (by omega) rfl).mono ?_
  intro e w1 hp
  refine hp.elim (aw_one _ _ _ _ _ 1 3 (by decide) (by decide) (by decide)) ?_
  rintro c1 rfl c1ok c1p c1n hb1
  have p1 := o1.below hb1 (by omega)
  have p2 := o2.below hb1 (by omega)
  have p3 := o3.below hb1 (by omega)
  have hbw1 := hbW.trans (hb1.mono hbW.size)
  have hs1 : w.heap.size + 1 + 1 + 1 + 1 < w1.heap.size := Nat.lt_of_lt_of_le hsW hb1.size
  have C1P := Lib.hid c1p
  clear o1 o2 o3 o4 o5 hb1 hsW hbW hp c1p
  obtain ⟨k1, n1, iA1, iN1, iC1, i1, nA1, nN1, nC1, u1⟩ := c1
  have q0 : w1.cell? ⟨w.heap.size + 1 + 1, 0, none⟩ = some (.slice (some ⟨w.heap.size, 0, none⟩) 1 1) := p3.cell 0
  have q1 : w1.cell? ⟨w.heap.size + 1 + 1, 1, none⟩ = some (.slice (some ⟨w.heap.size + 1, 0, none⟩) 1 1) := p3.cell 1
  have q2 : w1.cell? ⟨w.heap.size + 1 + 1, 2, none⟩ = some (.slice none 0 0) := p3.cell 2
  have q3 : w1.cell? ⟨w.heap.size + 1 + 1, 3, none⟩ = some (.slice none 0 0) := p3.cell 3
  have l1 : w.heap.size + 1 + 1 < w1.heap.size := by omega
  go_wp2_with fail
  obtain ⟨W2, hW2⟩ : ∃ W, W = (((w1.alloc (.cells (LC.mk k1 n1 iA1 iN1 iC1 i1 nA1 nN1 nC1 u1).cells.toArray 26)).alloc (.cells [.int .i64 0].toArray 3)).alloc (.cells [.int .i64 (-5)].toArray 2)) := ⟨_, rfl⟩
  obtain ⟨o1, o4, o5, hbW2, hsW2⟩ := three_boxes w1 _ _ _ _ _ _ W2 hW2
  rw [← hW2]
  clear hW2 q0 q1 q2 q3 l1
  have p1' := p1.below hbW2 (by omega)
  have p2' := p2.below hbW2 (by omega)
  have c1ok' := c1ok.below hbW2
  have hbw2' := hbw1.trans (hbW2.mono hbw1.size)
  refine (one_ints (R := fun _ => ⟨[], 0, 0⟩) (awS_ok p1' p2') (awF_ok (c := 0) (x := -5) ⟨by decide, by decide⟩ ⟨by decide, by decide⟩ o4 o5) 0 (by omega) rfl).mono ?_
  intro e w2 hp
  refine hp.elim (aw_one _ _ _ _ _ 0 (-5) (by decide) (by decide) (by decide)) ?_
  rintro c2 rfl c2ok c2p c2n hb2
  have hbw2 := hbw2'.trans (hb2.mono hbw2'.size)
  have r1 := o1.below hb2 (by omega)
  have hs2 : w1.heap.size < w2.heap.size := Nat.lt_of_lt_of_le (by omega) hb2.size
  have c1ok2 := c1ok'.below hb2
  have C2P := Lib.hid c2p
  clear p1 p2 p3 p1' p2' o1 o4 o5 hbW2 hsW2 c1ok c1ok' hbw2' hb2 hp c2p hs1 hbw1
  obtain ⟨k2, n2, iA2, iN2, iC2, i2, nA2, nN2, nC2, u2⟩ := c2
  have q0 : w2.cell? ⟨w1.heap.size, 0, none⟩ = some (.int .u64 (k1 : Int)) := r1.cell 0
  have q1 : w2.cell? ⟨w1.heap.size, 1, none⟩ = some (.int .i64 n1) := r1.cell 1
  have q2 : w2.cell? ⟨w1.heap.size, 2, none⟩ = some (.slice iA1 iN1 iC1) := r1.cell 2
  have q3 : w2.cell? ⟨w1.heap.size, 3, none⟩ = some (.slice nA1 nN1 nC1) := r1.cell 3
  have hal : Below w2.heap.size w2 (w2.alloc (.cells (LC.mk k2 n2 iA2 iN2 iC2 i2 nA2 nN2 nC2 u2).cells.toArray 26)) := (Below.refl _ _).alloc (Nat.le_refl _) _
  go_wp2_with fail
  refine (joins_any (a := LC.mk k1 n1 iA1 iN1 iC1 i1 nA1 nN1 nC1 u1) (b := LC.mk k2 n2 iA2 iN2 iC2 i2 nA2 nN2 nC2 u2) (c1ok2.below hal) (c2ok.below hal) (N := 4) (by omega) c1n c2n).mono ?_
  intro e w3 hp
  refine hp.elim (by rw [C1P.out, C2P.out]; exact aw_join) ?_
  rintro c3 rfl c3ok c3p c3n hb3
  have hbw3 := hbw2.trans ((hal.trans (hb3.mono hal.size)).mono hbw2.size)
  obtain ⟨x, x1, x2, x3, x4, x5, x6, x7, x8, x9⟩ := aw_pure c3p
  obtain ⟨k3, n3, iA3, iN3, iC3, i3, nA3, nN3, nC3, u3⟩ := c3
  dsimp only at x1 x2 x3 x4
  subst x1 x2 x3 x4
  have hiN : iN3 = 1 := c3ok.2.2.1.1
  subst hiN
  obtain ⟨ad, y, p, hA, hy, yok, hp0, y0, y1, y2, y3, y4⟩ := c3ok.2.2.1.at_ (k := 0) (by show 0 < 1; omega)
  dsimp only at hA hy
  subst hA
  simp only [List.getElem?_cons_zero, Option.some.injEq] at hy
  subst hy
  have hpa : p = ad := by rw [← hp0]; simp [Addr.add]
  subst hpa
  rw [x5] at y0
  rw [x6] at y1
  rw [x8] at y3
  rw [x9] at y4
  have hw := yok.2.2.2.2.1
  rw [x7] at hw
  clear q0 q1 q2 q3 r1 c1ok2 c2ok c3p c3n c1n c2n hp0 hp x5 x6 x7 x8 x9
  have ly := lt_of_cell y0
  go_wp2_with fail
  obtain ⟨W3, hW3⟩ : ∃ W, W = ((w3.alloc (.cells [.int .u64 0, .int .i64 2, .slice (some p) 1 iC3, .slice nA3 nN3 nC3].toArray 26)).alloc (.cells [.int .u32 34].toArray 41)) := ⟨_, rfl⟩
  obtain ⟨o1, o2, hbW3, hsW3⟩ := two_owns w3 26 41 [.int .u64 0, .int .i64 2, .slice (some p) 1 iC3, .slice nA3 nN3 nC3] [.int .u32 34]
  rw [← hW3] at o1 o2 hbW3 hsW3 ⊢
  clear hW3
  have hbw4 := hbw3.trans (hbW3.mono hbw3.size)
  have z2 : W3.cell? ⟨w3.heap.size, 2, none⟩ = some (.slice (some p) 1 iC3) := o1.cell 2
  have z3 : W3.cell? ⟨p.block, p.off + 3, none⟩ = some (.int .i64 (-5)) := keepB hbW3 y3
  have z4 : W3.cell? ⟨p.block, p.off + 4, none⟩ = some (.int .i64 3) := keepB hbW3 y4
  refine (same02_any (hw.below hbW3) (Words.own (n := 1) (c := 1) (xs := [34]) o2 (by intro y hy; simp at hy; omega) rfl (Nat.le_refl _) (by decide))).mono ?_
  rintro e w4 ⟨rfl, q, rfl⟩
  clear y0 y1 y2 y3 y4 yok hw o1 o2 hbW3
  go_wp2
  go_ret
  exact ⟨rfl, below_drawn hbw4 q⟩
end Go.Proofs.Ytdhlcbhpjejljaa
