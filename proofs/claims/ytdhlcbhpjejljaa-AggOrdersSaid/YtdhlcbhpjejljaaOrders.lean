/-
  AggOrders: the law's walk.
-/
import Derived.Test.YtdhlcbhpjejljaaAwake
import Derived.Test.YtdhlcbhpjejljaaSameCW
import Derived.Test.YtdhlcbhpjejljaaOrdP
namespace Go.Proofs.Ytdhlcbhpjejljaa
open Go.RowKit

def zeroC : LC := LC.mk 0 0 none 0 0 [] none 0 0 []
theorem zeroC_ok (w : World) : zeroC.ok w :=
  ⟨(show (0 : Nat) < _ by omega), ⟨by decide, by decide⟩, ⟨rfl, Nat.le_refl _, Nat.zero_le _, Row.nil _ _, fun x hx => by cases hx⟩, ⟨rfl, Nat.le_refl _, Nat.zero_le _, Row.nil _ _, fun x hx => by cases hx⟩, Nat.zero_le _, Nat.zero_le _⟩
theorem joinF_ne {a b : PC} {er : Nat} (h : joinF a b = .inl er) : er ≠ 0 := by
  unfold joinF at h
  split at h
  · injection h with h; omega
  · split at h
    · injection h with h; omega
    · split at h
      · injection h with h; omega
      · split at h
        · rename_i e he
          injection h with h; subst h
          have : ∀ {l m : List PR}, joinR l m = .inl e → e ≠ 0 := by
            intro l
            induction l with
            | nil => intro m h; simp [joinR] at h
            | cons x l ih =>
              intro m h
              cases m with
              | nil => simp [joinR] at h
              | cons y m =>
                unfold joinR at h
                split at h
                · rename_i e' hr
                  injection h with h; subst h
                  unfold realsP at hr
                  split at hr
                  · rename_i e'' hq
                    injection hr with hr; subst hr
                    have := realsF_ne hq
                    intro e0; subst e0; simp at this
                  · cases hr
                · split at h
                  · rename_i e' hr
                    injection h with h; subst h
                    exact ih hr
                  · cases h
          exact this he
        · cases h
/-- agg.Join on any two cells: a cell and an error's number. -/
theorem joins_u {a b : LC} {w : World} (ha : a.ok w) (hb : b.ok w) {N : Nat} (hN : N < 4294967295) (hNa : ∀ x ∈ a.ints, x.n ≤ N) (hNb : ∀ x ∈ b.ints, x.n ≤ N) :
    Calls Try.prog 11 #[.agg a.cells.toArray, .agg b.cells.toArray] w fun e w' => ∃ (c : LC) (er : Nat), e = .returned (.tuple #[.agg c.cells.toArray, .int .i64 (er : Int)]) ∧ c.ok w' ∧ (er = 0 → joinF a.pure b.pure = .inr c.pure) ∧ (∀ x ∈ c.ints, x.n ≤ N + 1) ∧ Below w.heap.size w w' := by
  refine (joins_any ha hb hN hNa hNb).mono ?_
  intro e w' hp
  cases hj : joinF a.pure b.pure with
  | inl er => exact hp.elim_err hj fun he hbl => ⟨zeroC, er, he, zeroC_ok _, fun h0 => absurd h0 (joinF_ne hj), (fun x hx => by cases hx), hbl⟩
  | inr p => exact hp.elim hj fun c he hc hcp hn hbl => ⟨c, 0, he, hc, fun _ => by rw [hcp], hn, hbl⟩
theorem own4 {w : World} {g : Nat} {e : TypeId} {v0 v1 v2 v3 : Value} (h : Own w g e [v0, v1, v2, v3]) : w.cell? ⟨g, 0, none⟩ = some v0 ∧ w.cell? ⟨g, 1, none⟩ = some v1 ∧ w.cell? ⟨g, 2, none⟩ = some v2 ∧ w.cell? ⟨g, 3, none⟩ = some v3 := ⟨h.cell 0, h.cell 1, h.cell 2, h.cell 3⟩
theorem free4 {w : World} {g : Nat} {e : TypeId} {vs : List Value} (h : Own w g e vs) : w.frozen? ⟨g, 0, none⟩ = false ∧ w.frozen? ⟨g, 1, none⟩ = false ∧ w.frozen? ⟨g, 2, none⟩ = false ∧ w.frozen? ⟨g, 3, none⟩ = false := ⟨h.free 0, h.free 1, h.free 2, h.free 3⟩
theorem Own.store4 {w : World} {g : Nat} {e : TypeId} {a0 a1 a2 a3 : Value} (h : Own w g e [a0, a1, a2, a3]) (b0 b1 b2 b3 : Value) :
    Own ((((w.setCell ⟨g, 0, none⟩ b0).setCell ⟨g, 1, none⟩ b1).setCell ⟨g, 2, none⟩ b2).setCell ⟨g, 3, none⟩ b3) g e [b0, b1, b2, b3] := (((h.set_ 0 b0).set_ 1 b1).set_ 2 b2).set_ 3 b3

theorem Own.block_at {w : World} {g : Nat} {e : TypeId} {vs : List Value} (h : Own w g e vs) {ad : Addr} {j : Nat} {v : Value} (hb : ad.block = g) (hc : w.cell? (ad.add j) = some v) : vs[ad.off + j]? = some v := by
  obtain ⟨b, o, s⟩ := ad
  dsimp only at hb
  subst hb
  have hp : (⟨b, o, s⟩ : Addr).add j = ⟨b, o + j, none⟩ := by
    by_cases hj : j = 0
    · subst hj
      have hs : s = none := by simp [Addr.add] at hc; exact World.cell?_spot hc
      subst hs; simp [Addr.add]
    · unfold Addr.add; rw [if_neg hj]
  rw [hp, h.cell] at hc
  exact hc
theorem Own.other {w w' : World} {g g' : Nat} {e : TypeId} {vs : List Value} (h : Own w g e vs) (hg : w.grownBy w' (some g')) (hne : g ≠ g') : Own w' g e vs := (hg.block g h.lt (fun e => hne (by injection e))).trans h
theorem Row.apart {w w' : World} {A : Option Addr} {rs : List Value} {g : Nat} (h : Row w A rs) (hne : ∀ ad, A = some ad → rs ≠ [] → ad.block ≠ g) (hg : w.grownBy w' (some g)) : Row w' A rs := fun j hj => by
  obtain ⟨ad, he, hc⟩ := h j hj
  refine ⟨ad, he, ?_⟩
  rw [← hc]
  have hlt : (ad.add j).block < w.heap.size := by
    rw [List.getElem?_eq_getElem hj] at hc; exact lt_of_cell hc
  refine World.cell?_of_block (hg.block _ hlt ?_)
  rw [add_block]
  intro e1; injection e1 with e1
  exact hne ad he (by intro h0; rw [h0] at hj; simp at hj) e1
/-- A cell stands when a cell's own block of four is written. -/
theorem LC.ok.only4 {w w' : World} {x : LC} {g : Nat} {k n : Int} {A B : Option Addr} {a b c d : Nat} (h : x.ok w) (ho : Own w g 26 [.int .u64 k, .int .i64 n, .slice A a b, .slice B c d]) (hg : w.grownBy w' (some g)) : x.ok w' := by
  obtain ⟨h1, h2, ⟨w1, w2, w3, w4, w5⟩, ⟨r1, r2, r3, r4, r5⟩, h5, h6⟩ := h
  refine ⟨h1, h2, ⟨w1, w2, w3, w4.apart ?_ hg, fun z hz => ?_⟩, ⟨r1, r2, r3, r4.apart ?_ hg, fun z hz => ?_⟩, h5, h6⟩
  · intro ad hA hne hb
    cases hl : x.ints with
    | nil => rw [hl] at hne; exact hne rfl
    | cons z l =>
      obtain ⟨ad', hA', hc⟩ := w4 4 (by rw [hl]; simp)
      rw [hA] at hA'; injection hA' with hA'; subst hA'
      rw [hl] at hc
      have := ho.block_at hb (hc.trans (by simp [LW.cells]; rfl))
      rw [List.getElem?_eq_none (by simp)] at this
      cases this
  · have := w5 z hz
    exact ⟨this.1, this.2.1, this.2.2.1, this.2.2.2.1, this.2.2.2.2.1.only ho (nokind_cell _ _ _ _ _ _ _ _) hg, this.2.2.2.2.2⟩
  · intro ad hA hne hb
    cases hl : x.nums with
    | nil => rw [hl] at hne; exact hne rfl
    | cons z l =>
      obtain ⟨ad', hA', hc⟩ := r4 1 (by rw [hl]; simp)
      rw [hA] at hA'; injection hA' with hA'; subst hA'
      rw [hl] at hc
      have hm := List.mem_of_getElem? (ho.block_at hb (hc.trans (by simp [LR.cells]; rfl)))
      simp at hm
  · have := r5 z hz
    exact ⟨this.1.only ho (nokind_cell8 _ _ _ _ _ _ _ _) hg, this.2⟩
set_option maxRecDepth 100000 in
set_option maxHeartbeats 4000000 in
theorem orders_any {a b c : LC} {w : World} (ha : a.okL w) (hb : b.okL w) (hc : c.okL w) :
    Calls Try.prog 4 #[.agg a.cells.toArray, .agg b.cells.toArray, .agg c.cells.toArray] w fun e w' => e = .returned (.bool true) ∧ Below w.heap.size w w' := by
  have HLA := Lib.hid (fun w h => light_ok (a := a) (w := w) h)
  have HLB := Lib.hid (fun w h => light_ok (a := b) (w := w) h)
  have HLC := Lib.hid (fun w h => light_ok (a := c) (w := w) h)
  have LA := Lib.hid (fun w h => light_any (a := a) (w := w) h)
  have LB := Lib.hid (fun w h => light_any (a := b) (w := w) h)
  have LC' := Lib.hid (fun w h => light_any (a := c) (w := w) h)
  go_enter Try.func4, Try.ntmps4
  go_upto_region 1 with fail
  obtain ⟨W, hW⟩ : ∃ W, W = ((w.alloc (.cells a.cells.toArray 26)).alloc (.cells b.cells.toArray 26)).alloc (.cells c.cells.toArray 26) := ⟨_, rfl⟩
  obtain ⟨o1, o2, o3, hbW, hsW⟩ := three_boxes w _ _ _ _ _ _ W hW
  rw [← hW]
  clear hW
  have ha' := ha.below hbW
  have hb' := hb.below hbW
  have hc' := hc.below hbW
  clear ha hb hc
  go_cut [23] (fun t wx => ∃ B, t = .bool B ∧ Hid (B = !(lightF a && lightF b && lightF c)) ∧ Below W.heap.size W wx)
  case first =>
    obtain ⟨q0, q1, q2, q3⟩ := own4 o1
    go_wp2_with fail
    refine (LA.out _ ha').mono ?_
    rintro e w1 ⟨rfl, hb1⟩
    cases hla : lightF a with
    | false =>
      have HR := Lib.hid (show true = !(lightF a && lightF b && lightF c) by rw [hla]; rfl)
      clear hla q0 q1 q2 q3
      go_wp2_with fail
      go_meet
      exact ⟨_, rfl, HR.out, hb1⟩
    | true =>
      have HA := Lib.hid hla
      clear hla q0 q1 q2 q3
      obtain ⟨q0, q1, q2, q3⟩ := own4 (o2.below hb1 (by omega))
      go_wp2_with fail
      refine (LB.out _ (hb'.below hb1)).mono ?_
      rintro e w2 ⟨rfl, hb2⟩
      have hb12 := hb1.trans (hb2.mono hb1.size)
      cases hlb : lightF b with
      | false =>
        have HR := Lib.hid (show true = !(lightF a && lightF b && lightF c) by rw [hlb]; simp)
        clear hlb q0 q1 q2 q3
        go_wp2_with fail
        go_meet
        exact ⟨_, rfl, HR.out, hb12⟩
      | true =>
        have HB := Lib.hid hlb
        clear hlb q0 q1 q2 q3
        obtain ⟨q0, q1, q2, q3⟩ := own4 (o3.below hb12 (by omega))
        go_wp2_with fail
        refine (LC'.out _ (hc'.below hb12)).mono ?_
        rintro e w3 ⟨rfl, hb3⟩
        have HR := Lib.hid (show (!lightF c) = !(lightF a && lightF b && lightF c) by rw [HA.out, HB.out]; rfl)
        clear q0 q1 q2 q3
        go_wp2_with fail
        go_meet
        exact ⟨_, rfl, HR.out, hb12.trans (hb3.mono hb12.size)⟩
  case rest =>
    obtain ⟨B, rfl, HB, hbc⟩ := hcut
    have hbw := hbW.trans (hbc.mono hbW.size)
    cases B with
    | true =>
      go_wp2_with fail
      refine (awake_any _).mono ?_
      rintro e w1 ⟨rfl, hb1⟩
      go_wp2
      go_ret
      exact ⟨rfl, hbw.trans (hb1.mono hbw.size)⟩
    | false =>
      have hl : lightF a = true ∧ lightF b = true ∧ lightF c = true := by
        have := HB.out; simp at this; exact ⟨this.1.1, this.1.2, this.2⟩
      obtain ⟨aok, -, -, an, -⟩ := HLA.out _ (ha'.below hbc) hl.1
      obtain ⟨bok, -, -, bn, -⟩ := HLB.out _ (hb'.below hbc) hl.2.1
      obtain ⟨cok, -, -, cn, -⟩ := HLC.out _ (hc'.below hbc) hl.2.2
      have HPA := Lib.hid aok.pure
      have HPB := Lib.hid bok.pure
      have HPC := Lib.hid cok.pure
      have p1 := o1.below hbc (by omega)
      have p2 := o2.below hbc (by omega)
      have p3 := o3.below hbc (by omega)
      have hsc : w.heap.size + 1 + 1 < wc.heap.size := Nat.lt_of_lt_of_le hsW hbc.size
      clear ha' hb' hc' o1 o2 o3 HLA HLB HLC LA LB LC' HB hl hbW hsW hbc
      obtain ⟨q0, q1, q2, q3⟩ := own4 p1
      obtain ⟨r0, r1, r2, r3⟩ := own4 p2
      go_wp2_with fail
      refine (joins_u aok bok (N := 20) (by omega) an bn).mono ?_
      rintro e w1 ⟨x, e1, rfl, xok, hx, xn, hb1⟩
      clear q0 q1 q2 q3 r0 r1 r2 r3
      have HX := Lib.hid hx
      clear hx
      have hal : Below w1.heap.size w1 (w1.alloc (.cells x.cells.toArray 26)) := (Below.refl _ _).alloc (Nat.le_refl _) _
      have ox := Own.new w1 26 x.cells
      have hs1 : w.heap.size + 1 + 1 < w1.heap.size := Nat.lt_of_lt_of_le hsc hb1.size
      have l1 : w.heap.size + 1 < w1.heap.size := by omega
      obtain ⟨q0, q1, q2, q3⟩ := own4 (p2.below hb1 (by omega))
      obtain ⟨r0, r1, r2, r3⟩ := own4 (p3.below hb1 (by omega))
      have hb1' := hb1.trans (hal.mono hb1.size)
      go_wp2_with fail
      refine (joins_u (bok.below hb1') (cok.below hb1') (N := 20) (by omega) bn cn).mono ?_
      rintro e w2 ⟨y, e2, rfl, yok, hy, yn, hb2⟩
      clear q0 q1 q2 q3 r0 r1 r2 r3
      have HY := Lib.hid hy
      clear hy
      have hb12 := hb1'.trans (hb2.mono hb1'.size)
      have xok2 := (xok.below hal).below hb2
      have ox2 := ox.below hb2 (by simp)
      have hs2 : w1.heap.size < w2.heap.size := Nat.lt_of_lt_of_le (by simp) hb2.size
      have hbw2 := hbw.trans (hb12.mono hbw.size)
      clear hal ox hb1' xok hb2
      by_cases he1 : e1 = 0
      · by_cases he2 : e2 = 0
        · subst he1 he2
          have hal : Below w2.heap.size w2 (w2.alloc (.cells y.cells.toArray 26)) := (Below.refl _ _).alloc (Nat.le_refl _) _
          simp only [Int.natCast_zero]
          go_upto_region 7 with fail
          obtain ⟨X, hX⟩ : ∃ X, X = w2.alloc (.cells y.cells.toArray 26) := ⟨_, rfl⟩
          have oy := Own.new w2 26 y.cells
          have hsX : w2.heap.size + 1 = X.heap.size := by rw [hX]; simp
          rw [← hX] at hal oy ⊢
          clear hX
          have xokX := xok2.below hal
          have yokX := yok.below hal
          have hb1X := hb12.trans (hal.mono hb12.size)
          have aokX := aok.below hb1X
          have cokX := cok.below hb1X
          have hbwX := hbw2.trans (hal.mono hbw2.size)
          have oxX := ox2.below hal hs2
          have hsX1 : w2.heap.size < X.heap.size := by omega
          have paX := p1.below hb1X (by omega)
          have pcX := p3.below hb1X (by omega)
          clear xok2 yok hb12 aok cok bok hal hbw2 ox2 p1 p2 p3 hbw hb1 hsX
          obtain ⟨q0, q1, q2, q3⟩ := own4 oxX
          obtain ⟨r0, r1, r2, r3⟩ := own4 pcX
          go_wp2_with fail
          refine (joins_u xokX cokX (N := 21) (by omega) xn (fun z hz => by have := cn z hz; omega)).mono ?_
          rintro e w3 ⟨x', e3, rfl, x'ok, hx', -, hb3⟩
          clear q0 q1 q2 q3 r0 r1 r2 r3 xokX cokX pcX
          have HX' := Lib.hid hx'
          clear hx'
          have ox3 := oxX.below hb3 (by omega)
          have oy3 := oy.below hb3 (by omega)
          have pa3 := paX.below hb3 (by omega)
          have aok3 := aokX.below hb3
          have yok3 := yokX.below hb3
          have hbw3 := hbwX.trans (hb3.mono hbwX.size)
          have hs3 : w2.heap.size < w3.heap.size := Nat.lt_of_lt_of_le hsX1 hb3.size
          clear oxX oy paX aokX yokX hbwX hb3 hsX1
          obtain ⟨q0, q1, q2, q3⟩ := own4 ox3
          obtain ⟨r0, r1, r2, r3⟩ := free4 ox3
          go_upto_region 8 with fail
          obtain ⟨X3, hX3⟩ : ∃ X, X = ((((w3.setCell ⟨w1.heap.size, 0, none⟩ (.int .u64 (x'.key : Int))).setCell ⟨w1.heap.size, 1, none⟩ (.int .i64 x'.count)).setCell ⟨w1.heap.size, 2, none⟩ (.slice x'.iA x'.iN x'.iC)).setCell ⟨w1.heap.size, 3, none⟩ (.slice x'.nA x'.nN x'.nC)) := ⟨_, rfl⟩
          have hg3 : w3.grownBy X3 (some w1.heap.size) := by rw [hX3]; exact only_set (only_set (only_set (only_set (World.grownBy.refl _ _) _ _) _ _) _ _) _ _
          have ox4 : Own X3 w1.heap.size 26 x'.cells := by rw [hX3]; exact ox3.store4 _ _ _ _
          have hbw4 : Below w.heap.size w X3 := by rw [hX3]; exact ((((hbw3.setCell (by simp; omega) _).setCell (by simp; omega) _).setCell (by simp; omega) _).setCell (by simp; omega) _)
          rw [← hX3]
          clear hX3
          have x'ok4 := x'ok.only4 ox3 hg3
          have aok4 := aok3.only4 ox3 hg3
          have yok4 := yok3.only4 ox3 hg3
          have pa4 := pa3.other hg3 (by omega)
          have oy4 := oy3.other hg3 (by omega)
          have hs4 : w2.heap.size < X3.heap.size := Nat.lt_of_lt_of_le hs3 hg3.size
          clear q0 q1 q2 q3 r0 r1 r2 r3 ox3 x'ok aok3 yok3 pa3 oy3 hbw3 hg3 hs3
          obtain ⟨q0, q1, q2, q3⟩ := own4 pa4
          obtain ⟨r0, r1, r2, r3⟩ := own4 oy4
          go_wp2_with fail
          refine (joins_u aok4 yok4 (N := 21) (by omega) (fun z hz => by have := an z hz; omega) yn).mono ?_
          rintro e w4 ⟨y', e4, rfl, y'ok, hy', -, hb4⟩
          clear q0 q1 q2 q3 r0 r1 r2 r3 aok4 yok4 pa4
          have HY' := Lib.hid hy'
          clear hy'
          have ox5 := ox4.below hb4 (by omega)
          have oy5 := oy4.below hb4 (by omega)
          have x'ok5 := x'ok4.below hb4
          have hbw5 := hbw4.trans (hb4.mono hbw4.size)
          have hs5 : w2.heap.size < w4.heap.size := Nat.lt_of_lt_of_le hs4 hb4.size
          clear ox4 oy4 x'ok4 hbw4 hb4 hs4
          obtain ⟨q0, q1, q2, q3⟩ := own4 oy5
          obtain ⟨r0, r1, r2, r3⟩ := free4 oy5
          go_upto_region 9 with fail
          obtain ⟨X4, hX4⟩ : ∃ X, X = ((((w4.setCell ⟨w2.heap.size, 0, none⟩ (.int .u64 (y'.key : Int))).setCell ⟨w2.heap.size, 1, none⟩ (.int .i64 y'.count)).setCell ⟨w2.heap.size, 2, none⟩ (.slice y'.iA y'.iN y'.iC)).setCell ⟨w2.heap.size, 3, none⟩ (.slice y'.nA y'.nN y'.nC)) := ⟨_, rfl⟩
          have hg4 : w4.grownBy X4 (some w2.heap.size) := by rw [hX4]; exact only_set (only_set (only_set (only_set (World.grownBy.refl _ _) _ _) _ _) _ _) _ _
          have oy6 : Own X4 w2.heap.size 26 y'.cells := by rw [hX4]; exact oy5.store4 _ _ _ _
          have hbw6 : Below w.heap.size w X4 := by rw [hX4]; exact ((((hbw5.setCell (by simp; omega) _).setCell (by simp; omega) _).setCell (by simp; omega) _).setCell (by simp; omega) _)
          rw [← hX4]
          clear hX4
          have x'ok6 := x'ok5.only4 oy5 hg4
          have y'ok6 := y'ok.only4 oy5 hg4
          have ox6 := ox5.other hg4 (by omega)
          clear q0 q1 q2 q3 r0 r1 r2 r3 ox5 oy5 x'ok5 y'ok hbw5 hg4 hs5
          by_cases he3 : e3 = 0
          · by_cases he4 : e4 = 0
            · subst he3 he4
              have HS := Lib.hid (joinF_assoc HPA.out HPB.out HPC.out (HX.out trivial) (HY.out trivial) (HX'.out rfl) (HY'.out rfl))
              obtain ⟨q0, q1, q2, q3⟩ := own4 ox6
              obtain ⟨r0, r1, r2, r3⟩ := own4 oy6
              simp only [Int.natCast_zero]
              go_wp2_with fail
              refine (same14_any x'ok6 y'ok6).mono ?_
              rintro e w5 ⟨rfl, hb5⟩
              rw [HS.out]
              have hbw7 := hbw6.trans (hb5.mono hbw6.size)
              clear q0 q1 q2 q3 r0 r1 r2 r3
              go_wp2_with fail
              refine (awake_any _).mono ?_
              rintro e w6 ⟨rfl, hb6⟩
              go_wp2
              go_ret
              exact ⟨rfl, hbw7.trans (hb6.mono hbw7.size)⟩
            · have d2 : ((e4 : Int) != 0) = true := by simp; omega
              subst he3
              clear he4
              go_wp2_with fail
              refine (awake_any _).mono ?_
              rintro e w5 ⟨rfl, hb5⟩
              go_wp2
              go_ret
              exact ⟨rfl, hbw6.trans (hb5.mono hbw6.size)⟩
          · have d1 : ((e3 : Int) != 0) = true := by simp; omega
            clear he3
            go_wp2_with fail
            refine (awake_any _).mono ?_
            rintro e w5 ⟨rfl, hb5⟩
            go_wp2
            go_ret
            exact ⟨rfl, hbw6.trans (hb5.mono hbw6.size)⟩
        · have d2 : ((e2 : Int) != 0) = true := by simp; omega
          subst he1
          have hal : Below w2.heap.size w2 (w2.alloc (.cells y.cells.toArray 26)) := (Below.refl _ _).alloc (Nat.le_refl _) _
          have hbw3 := hbw2.trans (hal.mono hbw2.size)
          clear he2
          go_wp2_with fail
          refine (awake_any _).mono ?_
          rintro e w3 ⟨rfl, hb3⟩
          go_wp2
          go_ret
          exact ⟨rfl, hbw3.trans (hb3.mono hbw3.size)⟩
      · have d1 : ((e1 : Int) != 0) = true := by simp; omega
        have hal : Below w2.heap.size w2 (w2.alloc (.cells y.cells.toArray 26)) := (Below.refl _ _).alloc (Nat.le_refl _) _
        have hbw3 := hbw2.trans (hal.mono hbw2.size)
        clear he1
        go_wp2_with fail
        refine (awake_any _).mono ?_
        rintro e w3 ⟨rfl, hb3⟩
        go_wp2
        go_ret
        exact ⟨rfl, hbw3.trans (hb3.mono hbw3.size)⟩
end Go.Proofs.Ytdhlcbhpjejljaa
