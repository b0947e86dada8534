/-
  Cells, as plain data and as they lie in memory; what two cells come to together.
-/
import Derived.Test.YtdhlcbhpjejljaaReals
namespace Go.Proofs.Ytdhlcbhpjejljaa
open Go.RowKit

structure PW where
  sum : Int
  abs : Int
  sq : List Nat
  mn : Int
  mx : Int
def LW.pure (x : LW) : PW := ⟨x.sum, x.abs, x.sq, x.mn, x.mx⟩
/-- Two whole measures together; none: there is no room. -/
def wholesP (a b : PW) : Option PW :=
  if (waddF a.sum b.sum).2 ∧ (waddF a.abs b.abs).2 then some ⟨(waddF a.sum b.sum).1, (waddF a.abs b.abs).1, wds (val a.sq + val b.sq), min a.mn b.mn, max a.mx b.mx⟩ else none
def joinI : List PW → List PW → Option (List PW)
  | a :: l, b :: m => match wholesP a b with
    | none => none
    | some p => (joinI l m).map (p :: ·)
  | _, _ => some []
structure PR where
  sum : List Nat
  mn : Nat
  mx : Nat
def LR.pure (x : LR) : PR := ⟨x.sum, x.mn, x.mx⟩
def realsP (a b : PR) : Nat ⊕ PR := match realsF a.sum b.sum with
  | .inl e => .inl e
  | .inr s => .inr ⟨s, leastF a.mn b.mn, mostF a.mx b.mx⟩
def joinR : List PR → List PR → Nat ⊕ List PR
  | a :: l, b :: m => match realsP a b with
    | .inl e => .inl e
    | .inr p => match joinR l m with
      | .inl e => .inl e
      | .inr r => .inr (p :: r)
  | _, _ => .inr []
structure PC where
  key : Nat
  count : Int
  ints : List PW
  nums : List PR
/-- Two cells together: an error's number, or a cell. -/
def joinF (a b : PC) : Nat ⊕ PC :=
  if a.key ≠ b.key ∨ a.ints.length ≠ b.ints.length ∨ a.nums.length ≠ b.nums.length then .inl 1
  else if (waddF a.count b.count).2 = false then .inl 10
  else match joinI a.ints b.ints with
  | none => .inl 10
  | some i => match joinR a.nums b.nums with
    | .inl e => .inl e
    | .inr r => .inr ⟨a.key, (waddF a.count b.count).1, i, r⟩

/-- What the k-th step of joining whole measures leaves to be done. -/
theorem joinI_step {l m : List PW} {k : Nat} {a b p : PW} (ha : l[k]? = some a) (hb : m[k]? = some b) (hp : wholesP a b = some p) {o : List PW} {r : Option (List PW)} (h : (joinI (l.drop k) (m.drop k)).map (o ++ ·) = r) :
    (joinI (l.drop (k + 1)) (m.drop (k + 1))).map ((o ++ [p]) ++ ·) = r := by
  obtain ⟨h1, rfl⟩ := List.getElem?_eq_some_iff.1 ha
  obtain ⟨h2, rfl⟩ := List.getElem?_eq_some_iff.1 hb
  rw [List.drop_eq_getElem_cons h1, List.drop_eq_getElem_cons h2] at h
  simp only [joinI, hp, Option.map_map] at h
  rw [← h]; congr 1; funext x; simp
theorem joinI_none {l m : List PW} {k : Nat} {a b : PW} (ha : l[k]? = some a) (hb : m[k]? = some b) (hp : wholesP a b = none) {o : List PW} {r : Option (List PW)} (h : (joinI (l.drop k) (m.drop k)).map (o ++ ·) = r) : r = none := by
  obtain ⟨h1, rfl⟩ := List.getElem?_eq_some_iff.1 ha
  obtain ⟨h2, rfl⟩ := List.getElem?_eq_some_iff.1 hb
  rw [List.drop_eq_getElem_cons h1, List.drop_eq_getElem_cons h2] at h
  simp only [joinI, hp] at h
  exact h.symm
theorem joinI_end {l m : List PW} {k : Nat} (hk : l.length ≤ k) {o : List PW} {r : Option (List PW)} (h : (joinI (l.drop k) (m.drop k)).map (o ++ ·) = r) : r = some o := by
  rw [List.drop_eq_nil_of_le hk] at h
  rw [← h]; simp [joinI]

def Sum.mapR (f : List PR → List PR) : Nat ⊕ List PR → Nat ⊕ List PR
  | .inl e => .inl e
  | .inr r => .inr (f r)
theorem joinR_step {l m : List PR} {k : Nat} {a b p : PR} (ha : l[k]? = some a) (hb : m[k]? = some b) (hp : realsP a b = .inr p) {o : List PR} {r : Nat ⊕ List PR} (h : Sum.mapR (o ++ ·) (joinR (l.drop k) (m.drop k)) = r) :
    Sum.mapR ((o ++ [p]) ++ ·) (joinR (l.drop (k + 1)) (m.drop (k + 1))) = r := by
  obtain ⟨h1, rfl⟩ := List.getElem?_eq_some_iff.1 ha
  obtain ⟨h2, rfl⟩ := List.getElem?_eq_some_iff.1 hb
  rw [List.drop_eq_getElem_cons h1, List.drop_eq_getElem_cons h2] at h
  simp only [joinR, hp] at h
  rw [← h]
  cases joinR (l.drop (k + 1)) (m.drop (k + 1)) <;> simp [Sum.mapR]
theorem joinR_err {l m : List PR} {k e : Nat} {a b : PR} (ha : l[k]? = some a) (hb : m[k]? = some b) (hp : realsP a b = .inl e) {o : List PR} {r : Nat ⊕ List PR} (h : Sum.mapR (o ++ ·) (joinR (l.drop k) (m.drop k)) = r) : r = .inl e := by
  obtain ⟨h1, rfl⟩ := List.getElem?_eq_some_iff.1 ha
  obtain ⟨h2, rfl⟩ := List.getElem?_eq_some_iff.1 hb
  rw [List.drop_eq_getElem_cons h1, List.drop_eq_getElem_cons h2] at h
  simp only [joinR, hp] at h
  exact h.symm
theorem joinR_end {l m : List PR} {k : Nat} (hk : l.length ≤ k) {o : List PR} {r : Nat ⊕ List PR} (h : Sum.mapR (o ++ ·) (joinR (l.drop k) (m.drop k)) = r) : r = .inr o := by
  rw [List.drop_eq_nil_of_le hk] at h
  rw [← h]; simp [joinR, Sum.mapR]

/-- Elements of a fixed number of cells: the k-th one's cells. -/
theorem flat_get {α : Type} (f : α → List Value) (s : Nat) (hf : ∀ x, (f x).length = s) : ∀ (l : List α) (k j : Nat) (x : α), l[k]? = some x → j < s → (l.flatMap f)[k * s + j]? = (f x)[j]?
  | [], k, j, x, h, _ => by simp at h
  | y :: l, 0, j, x, h, hj => by
    simp at h; subst h
    simp only [List.flatMap_cons, Nat.zero_mul, Nat.zero_add]
    rw [List.getElem?_append_left (by rw [hf]; exact hj)]
  | y :: l, k + 1, j, x, h, hj => by
    simp only [List.getElem?_cons_succ] at h
    simp only [List.flatMap_cons]
    rw [List.getElem?_append_right (by rw [hf, Nat.add_mul]; omega), hf, show (k + 1) * s + j - s = k * s + j by rw [Nat.add_mul]; omega]
    exact flat_get f s hf l k j x h hj
theorem flat_length {α : Type} (f : α → List Value) (s : Nat) (hf : ∀ x, (f x).length = s) (l : List α) : (l.flatMap f).length = l.length * s := by
  induction l with
  | nil => simp
  | cons x l ih => simp only [List.flatMap_cons, List.length_append, hf, ih, List.length_cons, Nat.add_mul]; omega
theorem Row.elem {w : World} {A : Option Addr} {α : Type} {f : α → List Value} {s : Nat} (hf : ∀ x, (f x).length = s) {l : List α} (h : Row w A (l.flatMap f)) {k : Nat} {x : α} (hx : l[k]? = some x) (hs : 0 < s) :
    ∃ ad, A = some ad ∧ ∀ j, j < s → w.cell? ((ad.add (k * s)).add j) = (f x)[j]? := by
  have hk := (List.getElem?_eq_some_iff.1 hx).1
  have hle : k * s + s ≤ (l.flatMap f).length := by
    rw [flat_length f s hf]; have : (k + 1) * s ≤ l.length * s := Nat.mul_le_mul_right s hk; rw [Nat.add_mul] at this; omega
  obtain ⟨ad, e, _⟩ := h (k * s) (by omega)
  refine ⟨ad, e, fun j hj => ?_⟩
  obtain ⟨ad', e', hc⟩ := h (k * s + j) (by omega)
  rw [e] at e'; injection e' with e'; subst e'
  rw [add_add', hc, flat_get f s hf l k j x hx hj]

/-- A list of whole measures as it lies in memory. -/
def Whs (w : World) (A : Option Addr) (n c : Nat) (l : List LW) : Prop := n = l.length ∧ n ≤ c ∧ c ≤ maxLen ∧ Row w A (l.flatMap LW.cells) ∧ ∀ x ∈ l, x.ok w
def Rls (w : World) (A : Option Addr) (n c : Nat) (l : List LR) : Prop := n = l.length ∧ n ≤ c ∧ c ≤ maxLen ∧ Row w A (l.flatMap LR.cells) ∧ ∀ x ∈ l, x.ok w
structure LC where
  key : Nat
  count : Int
  iA : Option Addr
  iN : Nat
  iC : Nat
  ints : List LW
  nA : Option Addr
  nN : Nat
  nC : Nat
  nums : List LR
def LC.pure (x : LC) : PC := ⟨x.key, x.count, x.ints.map LW.pure, x.nums.map LR.pure⟩
abbrev LC.cells (x : LC) : List Value := [.int .u64 (x.key : Int), .int .i64 x.count, .slice x.iA x.iN x.iC, .slice x.nA x.nN x.nC]
def LC.ok (w : World) (x : LC) : Prop := W64 x.key ∧ I64 x.count ∧ Whs w x.iA x.iN x.iC x.ints ∧ Rls w x.nA x.nN x.nC x.nums ∧ x.iN ≤ 65536 ∧ x.nN ≤ 65536

section
variable {w w' : World}
theorem LW.ok.below {x : LW} (h : x.ok w) (hb : Below w.heap.size w w') : x.ok w' := ⟨h.1, h.2.1, h.2.2.1, h.2.2.2.1, h.2.2.2.2.1.below hb, h.2.2.2.2.2⟩
theorem LR.ok.below {x : LR} (h : x.ok w) (hb : Below w.heap.size w w') : x.ok w' := ⟨h.1.below hb, h.2⟩
theorem Whs.below {A : Option Addr} {n c : Nat} {l : List LW} (h : Whs w A n c l) (hb : Below w.heap.size w w') : Whs w' A n c l := ⟨h.1, h.2.1, h.2.2.1, h.2.2.2.1.below hb, fun x hx => (h.2.2.2.2 x hx).below hb⟩
theorem Rls.below {A : Option Addr} {n c : Nat} {l : List LR} (h : Rls w A n c l) (hb : Below w.heap.size w w') : Rls w' A n c l := ⟨h.1, h.2.1, h.2.2.1, h.2.2.2.1.below hb, fun x hx => (h.2.2.2.2 x hx).below hb⟩
theorem LC.ok.below {x : LC} (h : x.ok w) (hb : Below w.heap.size w w') : x.ok w' := ⟨h.1, h.2.1, h.2.2.1.below hb, h.2.2.2.1.below hb, h.2.2.2.2⟩
theorem Whs.at_ {A : Option Addr} {n c k : Nat} {l : List LW} (h : Whs w A n c l) (hk : k < n) : ∃ ad x p, A = some ad ∧ l[k]? = some x ∧ x.ok w ∧ ad.add (k * 5) = p ∧ w.cell? p = some (.int .i64 x.sum) ∧ w.cell? ⟨p.block, p.off + 1, none⟩ = some (.int .i64 x.abs) ∧
    w.cell? ⟨p.block, p.off + 2, none⟩ = some (.slice x.A x.n x.c) ∧ w.cell? ⟨p.block, p.off + 3, none⟩ = some (.int .i64 x.mn) ∧ w.cell? ⟨p.block, p.off + 4, none⟩ = some (.int .i64 x.mx) := by
  have hl : k < l.length := by rw [← h.1]; exact hk
  obtain ⟨ad, e, hc⟩ := h.2.2.2.1.elem (s := 5) (fun _ => rfl) (List.getElem?_eq_getElem hl) (by omega)
  exact ⟨ad, l[k], _, e, List.getElem?_eq_getElem hl, h.2.2.2.2 _ (List.getElem_mem hl), rfl, hc 0 (by omega), hc 1 (by omega), hc 2 (by omega), hc 3 (by omega), hc 4 (by omega)⟩
theorem Rls.at_ {A : Option Addr} {n c k : Nat} {l : List LR} (h : Rls w A n c l) (hk : k < n) : ∃ ad x p, A = some ad ∧ l[k]? = some x ∧ x.ok w ∧ ad.add (k * 3) = p ∧ w.cell? p = some (.slice x.A x.n x.c) ∧ w.cell? ⟨p.block, p.off + 1, none⟩ = some (.float .f64 x.mn) ∧
    w.cell? ⟨p.block, p.off + 2, none⟩ = some (.float .f64 x.mx) := by
  have hl : k < l.length := by rw [← h.1]; exact hk
  obtain ⟨ad, e, hc⟩ := h.2.2.2.1.elem (s := 3) (fun _ => rfl) (List.getElem?_eq_getElem hl) (by omega)
  exact ⟨ad, l[k], _, e, List.getElem?_eq_getElem hl, h.2.2.2.2 _ (List.getElem_mem hl), rfl, hc 0 (by omega), hc 1 (by omega), hc 2 (by omega)⟩
end
end Go.Proofs.Ytdhlcbhpjejljaa
