import Derived.Test.YtdhlcbhpjejljaaCellJoinNo
namespace Go.Proofs.Ytdhlcbhpjejljaa
open Go.RowKit
/-- Cells of any size, as they come in. -/
def LW.okL (w : World) (x : LW) : Prop := I64 x.sum ∧ I64 x.abs ∧ I64 x.mn ∧ I64 x.mx ∧ Words w x.A x.n x.c x.sq
def LR.okL (w : World) (x : LR) : Prop := Bytes w x.A x.n x.c x.sum ∧ W64 x.mn ∧ W64 x.mx
def WhsL (w : World) (A : Option Addr) (n c : Nat) (l : List LW) : Prop := n = l.length ∧ n ≤ c ∧ c ≤ maxLen ∧ Row w A (l.flatMap LW.cells) ∧ ∀ x ∈ l, x.okL w
def RlsL (w : World) (A : Option Addr) (n c : Nat) (l : List LR) : Prop := n = l.length ∧ n ≤ c ∧ c ≤ maxLen ∧ Row w A (l.flatMap LR.cells) ∧ ∀ x ∈ l, x.okL w
def LC.okL (w : World) (x : LC) : Prop := W64 x.key ∧ I64 x.count ∧ WhsL w x.iA x.iN x.iC x.ints ∧ RlsL w x.nA x.nN x.nC x.nums
section
variable {w w' : World}
theorem LW.okL.below {x : LW} (h : x.okL w) (hb : Below w.heap.size w w') : x.okL w' := ⟨h.1, h.2.1, h.2.2.1, h.2.2.2.1, h.2.2.2.2.below hb⟩
theorem LR.okL.below {x : LR} (h : x.okL w) (hb : Below w.heap.size w w') : x.okL w' := ⟨h.1.below hb, h.2⟩
theorem WhsL.below {A : Option Addr} {n c : Nat} {l : List LW} (h : WhsL w A n c l) (hb : Below w.heap.size w w') : WhsL w' A n c l := ⟨h.1, h.2.1, h.2.2.1, h.2.2.2.1.below hb, fun x hx => (h.2.2.2.2 x hx).below hb⟩
theorem RlsL.below {A : Option Addr} {n c : Nat} {l : List LR} (h : RlsL w A n c l) (hb : Below w.heap.size w w') : RlsL w' A n c l := ⟨h.1, h.2.1, h.2.2.1, h.2.2.2.1.below hb, fun x hx => (h.2.2.2.2 x hx).below hb⟩
theorem LC.okL.below {x : LC} (h : x.okL w) (hb : Below w.heap.size w w') : x.okL w' := ⟨h.1, h.2.1, h.2.2.1.below hb, h.2.2.2.below hb⟩
theorem WhsL.at_ {A : Option Addr} {n c k : Nat} {l : List LW} (h : WhsL w A n c l) (hk : k < n) : ∃ ad x p, A = some ad ∧ l[k]? = some x ∧ x.okL w ∧ ad.add (k * 5) = p ∧ w.cell? p = some (.int .i64 x.sum) ∧ w.cell? ⟨p.block, p.off + 1, none⟩ = some (.int .i64 x.abs) ∧
    w.cell? ⟨p.block, p.off + 2, none⟩ = some (.slice x.A x.n x.c) ∧ w.cell? ⟨p.block, p.off + 3, none⟩ = some (.int .i64 x.mn) ∧ w.cell? ⟨p.block, p.off + 4, none⟩ = some (.int .i64 x.mx) := by
  have hl : k < l.length := by rw [← h.1]; exact hk
  obtain ⟨ad, e, hc⟩ := h.2.2.2.1.elem (s := 5) (fun _ => rfl) (List.getElem?_eq_getElem hl) (by omega)
  exact ⟨ad, l[k], _, e, List.getElem?_eq_getElem hl, h.2.2.2.2 _ (List.getElem_mem hl), rfl, hc 0 (by omega), hc 1 (by omega), hc 2 (by omega), hc 3 (by omega), hc 4 (by omega)⟩
theorem RlsL.at_ {A : Option Addr} {n c k : Nat} {l : List LR} (h : RlsL w A n c l) (hk : k < n) : ∃ ad x p, A = some ad ∧ l[k]? = some x ∧ x.okL w ∧ ad.add (k * 3) = p ∧ w.cell? p = some (.slice x.A x.n x.c) ∧ w.cell? ⟨p.block, p.off + 1, none⟩ = some (.float .f64 x.mn) ∧
    w.cell? ⟨p.block, p.off + 2, none⟩ = some (.float .f64 x.mx) := by
  have hl : k < l.length := by rw [← h.1]; exact hk
  obtain ⟨ad, e, hc⟩ := h.2.2.2.1.elem (s := 3) (fun _ => rfl) (List.getElem?_eq_getElem hl) (by omega)
  exact ⟨ad, l[k], _, e, List.getElem?_eq_getElem hl, h.2.2.2.2 _ (List.getElem_mem hl), rfl, hc 0 (by omega), hc 1 (by omega), hc 2 (by omega)⟩
end
/-- Light: small enough for a statement. -/
def lightF (a : LC) : Bool := a.iN ≤ 10 && a.nN ≤ 10 && a.ints.all (fun x => x.n ≤ 20) && a.nums.all (fun x => x.n ≤ 300)
theorem gtr_int {a b : Nat} (h : b < a) : decide ((b : Int) < (a : Int)) = true := by simp; omega
theorem light_bad {α : Type} {l : List α} {f : α → Bool} {k : Nat} {x : α} (h : l[k]? = some x) (hf : f x = false) : l.all f = false := by
  apply Bool.eq_false_iff.2; intro e
  have := List.all_eq_true.1 e x (List.mem_of_getElem? h)
  rw [hf] at this; cases this
theorem all_next {α : Type} {l : List α} {f : α → Bool} {k : Nat} {x : α} (h : (l.take k).all f = true) (hx : l[k]? = some x) (hf : f x = true) : (l.take (k + 1)).all f = true := by
  rw [List.take_add_one, List.all_append, h, hx]; simp [hf]
theorem light_ok {a : LC} {w : World} (ha : a.okL w) (h : lightF a = true) : a.ok w ∧ a.iN ≤ 10 ∧ a.nN ≤ 10 ∧ (∀ x ∈ a.ints, x.n ≤ 20) ∧ ∀ x ∈ a.nums, x.n ≤ 300 := by
  unfold lightF at h
  simp only [Bool.and_eq_true, decide_eq_true_eq, List.all_eq_true] at h
  obtain ⟨⟨⟨h1, h2⟩, h3⟩, h4⟩ := h
  obtain ⟨a1, a2, ⟨x1, x2, x3, x4, x5⟩, ⟨y1, y2, y3, y4, y5⟩⟩ := ha
  refine ⟨⟨a1, a2, ⟨x1, x2, x3, x4, fun x hx => ?_⟩, ⟨y1, y2, y3, y4, fun x hx => ?_⟩, by omega, by omega⟩, h1, h2, h3, h4⟩
  · have := x5 x hx; have := h3 x hx; unfold LW.okL at *; unfold LW.ok; exact ⟨by simp [*], by simp [*], by simp [*], by simp [*], by simp [*], by omega⟩
  · have := y5 x hx; have := h4 x hx; unfold LR.okL at *; unfold LR.ok; exact ⟨by simp [*], by simp [*], by simp [*], by omega⟩
set_option maxRecDepth 100000 in
theorem light_any {a : LC} {w : World} (ha : a.okL w) :
    Calls Try.prog 9 #[.agg a.cells.toArray] w fun e w' => e = .returned (.bool (lightF a)) ∧ Below w.heap.size w w' := by
  obtain ⟨a1, a2, ax, ay⟩ := ha
  obtain ⟨ak, ac, aiA, aiN, aiC, ai, anA, anN, anC, anu⟩ := a
  dsimp only at *
  by_cases h1 : 10 < aiN
  · have hf : lightF (LC.mk ak ac aiA aiN aiC ai anA anN anC anu) = false := by
      unfold lightF; simp; omega
    have HF := Lib.hid hf
    have h2 : (10 : Int) < aiN := by omega
    clear hf h1
    go_enter Try.func9, Try.ntmps9
    go_wp2
    go_ret
    exact ⟨by rw [HF.out]; rfl, (Below.refl _ _).alloc (Nat.le_refl _) _⟩
  · by_cases h2 : 10 < anN
    · have hf : lightF (LC.mk ak ac aiA aiN aiC ai anA anN anC anu) = false := by
        unfold lightF; simp; omega
      have HF := Lib.hid hf
      have h3 : ¬ (10 : Int) < aiN := by omega
      have h4 : (10 : Int) < anN := by omega
      clear hf h1
      go_enter Try.func9, Try.ntmps9
      go_wp2
      go_ret
      exact ⟨by rw [HF.out]; rfl, (Below.refl _ _).alloc (Nat.le_refl _) _⟩
    · have h3 : ¬ (10 : Int) < aiN := by omega
      have h4 : ¬ (10 : Int) < anN := by omega
      have h5 : aiN ≤ 10 := by omega
      have h6 : anN ≤ 10 := by omega
      clear h1 h2
      go_enter Try.func9, Try.ntmps9
      go_wp2
      have o1 := Own.new w 26 (LC.mk ak ac aiA aiN aiC ai anA anN anC anu).cells
      have hbW : Below w.heap.size w (w.alloc (.cells (LC.mk ak ac aiA aiN aiC ai anA anN anC anu).cells.toArray 26)) := (Below.refl _ _).alloc (Nat.le_refl _) _
      have ax' := ax.below hbW
      have ay' := ay.below hbW
      obtain ⟨W, hW⟩ : ∃ W, W = (w.alloc (.cells (LC.mk ak ac aiA aiN aiC ai anA anN anC anu).cells.toArray 26)) := ⟨_, rfl⟩
      rw [← hW] at o1 hbW ax' ay' ⊢
      clear hW ax ay h3 h4
      have c2 : W.cell? ⟨w.heap.size, 2, none⟩ = some (.slice aiA aiN aiC) := o1.cell 2
      have c3 : W.cell? ⟨w.heap.size, 3, none⟩ = some (.slice anA anN anC) := o1.cell 3
      go_loop [3] (fun i => ∃ k : Nat, k ≤ aiN ∧ i = .int .i64 k ∧ Hid ((ai.take k).all (fun x => decide (x.n ≤ 20)) = true)) (fun i => aiN - (intOf i).toNat)
      case atStart => exact ⟨0, Nat.zero_le _, rfl, rfl⟩
      case round =>
        obtain ⟨k, hk, rfl, hinv⟩ := hrel
        by_cases hkn : k < aiN
        · obtain ⟨ad, x, p, rfl, hxk, xok, hp, p0, p1, p2, p3, p4⟩ := ax'.at_ hkn
          have hi0 : (0 : Int) ≤ k := by omega
          have hin : (k : Int) < aiN := by omega
          by_cases hbad : 20 < x.n
          · have hf : lightF (LC.mk ak ac (some ad) aiN aiC ai anA anN anC anu) = false := by
              unfold lightF; rw [light_bad hxk (by simp; omega)]; simp
            have HF := Lib.hid hf
            have hb2 : (20 : Int) < x.n := by omega
            clear hf hxk hinv hbad
            go_wp2
            go_ret
            exact ⟨by rw [HF.out]; rfl, hbW⟩
          · have hinv' := Lib.hid (all_next hinv.out hxk (by simp; omega))
            have hb2 : ¬ (20 : Int) < x.n := by omega
            clear hxk hinv hbad
            go_wp2
            go_round
            case rel => exact ⟨k + 1, by omega, by go_num, hinv'⟩
            case measure => simp [intOf]; omega
        · obtain rfl : k = aiN := by omega
          have HI := Lib.hid (show ai.all (fun x => decide (x.n ≤ 20)) = true by have := hinv.out; rw [ax'.1, List.take_length] at this; exact this)
          clear hinv
          go_wp2
          go_loop [4] (fun i => ∃ m : Nat, m ≤ anN ∧ i = .int .i64 m ∧ Hid ((anu.take m).all (fun x => decide (x.n ≤ 300)) = true)) (fun i => anN - (intOf i).toNat)
          case atStart => exact ⟨0, Nat.zero_le _, rfl, rfl⟩
          case round =>
            obtain ⟨m, hm, rfl, hinv⟩ := hrel
            by_cases hmn : m < anN
            · obtain ⟨ad, x, p, rfl, hxk, xok, hp, p0, p1, p2⟩ := ay'.at_ hmn
              have hi0 : (0 : Int) ≤ m := by omega
              have hin : (m : Int) < anN := by omega
              by_cases hbad : 300 < x.n
              · have hf : lightF (LC.mk ak ac aiA k aiC ai (some ad) anN anC anu) = false := by
                  unfold lightF; rw [light_bad hxk (by simp; omega)]; simp
                have HF := Lib.hid hf
                have hb2 : (300 : Int) < x.n := by omega
                clear hf hxk hinv hbad
                go_wp2
                go_ret
                exact ⟨by rw [HF.out]; rfl, hbW⟩
              · have hinv' := Lib.hid (all_next hinv.out hxk (by simp; omega))
                have hb2 : ¬ (300 : Int) < x.n := by omega
                clear hxk hinv hbad
                go_wp2
                go_round
                case rel => exact ⟨m + 1, by omega, by go_num, hinv'⟩
                case measure => simp [intOf]; omega
            · obtain rfl : m = anN := by omega
              have hf : lightF (LC.mk ak ac aiA k aiC ai anA m anC anu) = true := by
                have h7 := hinv.out; rw [ay'.1, List.take_length] at h7
                unfold lightF; rw [HI.out, h7]; simp; omega
              have HF := Lib.hid hf
              clear hinv hf
              go_wp2
              go_ret
              exact ⟨by rw [HF.out]; rfl, hbW⟩
end Go.Proofs.Ytdhlcbhpjejljaa
