/-
  Words for memory: a slice that reads as a list, a block known whole; what a call leaves alone. No program in sight.
-/
import Derived.Test.YtdhlcbhpjejljaaNum
import Derived.WalkKit
import Derived.Handy
import Derived.BigQuiet
import Derived.Deep.QuietTactic
import Derived.Lib.Hide
import Derived.Deep.AppendLies
import Derived.WalkLawsBesides
import Derived.WalkSpells
import Derived.Deep.Draws
import Derived.Laws.Rows
namespace Go.Proofs.Ytdhlcbhpjejljaa
open Go.RowKit

theorem ret_int {k : IntKind} {a b : Int} (h : a = b) : Ending.returned (.int k a) = .returned (.int k b) := by rw [h]
theorem add_block (a : Addr) (n : Nat) : (a.add n).block = a.block := by unfold Addr.add; split <;> rfl
theorem add_add' (a : Addr) (i j : Nat) : (a.add i).add j = a.add (i + j) := by
  unfold Addr.add
  by_cases hi : i = 0 <;> by_cases hj : j = 0 <;> simp [hi, hj, Nat.add_assoc]
theorem add_head (g i : Nat) : (⟨g, 0, none⟩ : Addr).add i = ⟨g, i, none⟩ := by unfold Addr.add; split <;> simp_all
theorem lt_of_cell {w : World} {p : Addr} {v : Value} (h : w.cell? p = some v) : p.block < w.heap.size := World.block_lt_of_cell? w p h

/-- The cells from an address on hold these values. (Of an empty list nothing is asked.) -/
def Row (w : World) (A : Option Addr) (vs : List Value) : Prop := ∀ j, j < vs.length → ∃ ad, A = some ad ∧ w.cell? (ad.add j) = vs[j]?

section
variable {w w' : World} {A : Option Addr} {vs : List Value} {n c B : Nat}
theorem Row.nil (w : World) (A : Option Addr) : Row w A [] := fun j h => absurd h (by simp)
theorem Row.keep (h : Row w A vs) (hk : ∀ p : Addr, p.block < w.heap.size → w'.cell? p = w.cell? p) : Row w' A vs := fun j hj => by
  obtain ⟨ad, e, hc⟩ := h j hj
  refine ⟨ad, e, ?_⟩
  rw [List.getElem?_eq_getElem hj] at hc
  rw [hk _ (lt_of_cell hc), hc, List.getElem?_eq_getElem hj]
theorem Row.below (h : Row w A vs) (hb : Below w.heap.size w w') : Row w' A vs := h.keep fun _ hp => hb.cell hp
theorem Row.drop (h : Row w A vs) (k : Nat) : Row w (A.map (·.add k)) (vs.drop k) := fun j hj => by
  rw [List.length_drop] at hj
  obtain ⟨ad, rfl, hc⟩ := h (k + j) (by omega)
  exact ⟨ad.add k, rfl, by rw [add_add', hc, List.getElem?_drop]⟩
theorem Row.take (h : Row w A vs) (k : Nat) : Row w A (vs.take k) := fun j hj => by
  rw [List.length_take] at hj
  obtain ⟨ad, rfl, hc⟩ := h j (by omega)
  exact ⟨ad, rfl, by rw [hc, List.getElem?_take, if_pos (by omega)]⟩
theorem Row.one {v : Value} (h : Row w A vs) {k : Nat} (hk : k < vs.length) (hv : vs[k] = v) : ∃ ad, A = some ad ∧ w.cell? (ad.add k) = some v := by
  obtain ⟨ad, e, hc⟩ := h k hk
  exact ⟨ad, e, by rw [hc, List.getElem?_eq_getElem hk, hv]⟩
end

/-- A block that is known whole: these cells of this element type, none of them frozen. -/
def Own (w : World) (g : Nat) (e : TypeId) (vs : List Value) : Prop := w.heap[g]? = some (.cells vs.toArray e (0, 0))

section
variable {w w' : World} {g : Nat} {e : TypeId} {vs : List Value}
theorem Own.lt (h : Own w g e vs) : g < w.heap.size := (Array.getElem?_eq_some_iff.1 h).1
theorem Own.cell (h : Own w g e vs) (i : Nat) : w.cell? ⟨g, i, none⟩ = vs[i]? := by
  have := cell_of_row w g i vs.toArray e (0, 0) h
  simpa using this
theorem Own.cellv (h : Own w g e vs) {i : Nat} {v : Value} (hi : i < vs.length) (hv : vs[i] = v) : w.cell? ⟨g, i, none⟩ = some v := by
  rw [h.cell, List.getElem?_eq_getElem hi, hv]
theorem Own.free (h : Own w g e vs) (i : Nat) : w.frozen? ⟨g, i, none⟩ = false := by
  unfold Own at h
  simp [World.frozen?, h]
theorem Own.drew (h : Own w g e vs) : Own w.drew g e vs := h
theorem Own.drewN (h : Own w g e vs) (n : Nat) : Own (w.drewN n) g e vs := h
theorem Own.alloc (h : Own w g e vs) (o : Obj) : Own (w.alloc o) g e vs := (Below.heap_alloc w o g h.lt).trans h
theorem Own.new (w : World) (e : TypeId) (vs : List Value) : Own (w.alloc (.cells vs.toArray e)) w.heap.size e vs := heap_alloc_new w _
theorem Own.set_ (h : Own w g e vs) (i : Nat) (u : Value) : Own (w.setCell ⟨g, i, none⟩ u) g e (vs.set i u) := by
  unfold Own at h ⊢
  simp [World.setCell, Array.getElem?_modify, h]
theorem Own.far (h : Own w g e vs) {p : Addr} (hp : g ≠ p.block) (u : Value) : Own (w.setCell p u) g e vs := (Below.heap_setCell w p u g hp).trans h
theorem Own.below {B : Nat} (h : Own w g e vs) (hb : Below B w w') (hg : g < B) : Own w' g e vs := (hb.block g hg).trans h
theorem Own.row (h : Own w g e vs) : Row w (some ⟨g, 0, none⟩) vs := fun j _ => ⟨_, rfl, by rw [add_head, h.cell]⟩
theorem Own.ne {g' : Nat} {e' : TypeId} {vs' : List Value} (h : Own w g e vs) (h' : Own w g' e' vs') (hne : e ≠ e') : g ≠ g' := by
  rintro rfl
  unfold Own at h h'
  rw [h] at h'
  injection h' with h'
  injection h' with _ ht
  exact hne ht
end

/-- A 32-bit word as a value. -/
abbrev wv (x : Nat) : Value := .int .u32 (x : Int)

/-- A slice of 32-bit words that reads as this list of numbers. -/
def Words (w : World) (A : Option Addr) (n c : Nat) (xs : List Nat) : Prop :=
  n = xs.length ∧ n ≤ c ∧ c ≤ maxLen ∧ Small xs ∧ Row w A (xs.map wv)

section
variable {w w' : World} {A : Option Addr} {n c : Nat} {xs : List Nat}
theorem Words.len (h : Words w A n c xs) : n = xs.length := h.1
theorem Words.cap (h : Words w A n c xs) : n ≤ c := h.2.1
theorem Words.most (h : Words w A n c xs) : n ≤ 9223372036854775807 := by have := h.2.1; have := h.2.2.1; unfold maxLen at this; omega
theorem Words.small (h : Words w A n c xs) : Small xs := h.2.2.2.1
theorem Words.below (h : Words w A n c xs) (hb : Below w.heap.size w w') : Words w' A n c xs := ⟨h.1, h.2.1, h.2.2.1, h.2.2.2.1, h.2.2.2.2.below hb⟩
theorem Words.keep (h : Words w A n c xs) (hk : ∀ p : Addr, p.block < w.heap.size → w'.cell? p = w.cell? p) : Words w' A n c xs := ⟨h.1, h.2.1, h.2.2.1, h.2.2.2.1, h.2.2.2.2.keep hk⟩
theorem Words.at_ (h : Words w A n c xs) {k : Nat} (hk : k < n) : ∃ ad x, A = some ad ∧ xs[k]? = some x ∧ x < 4294967296 ∧ w.cell? (ad.add k) = some (.int .u32 (x : Int)) := by
  have hl : k < xs.length := by rw [← h.1]; exact hk
  obtain ⟨ad, e, hc⟩ := h.2.2.2.2.one (k := k) (by simpa using hl) rfl
  exact ⟨ad, xs[k], e, List.getElem?_eq_getElem hl, h.small _ (List.getElem_mem hl), by simpa using hc⟩
theorem Words.nil (w : World) (A : Option Addr) (c : Nat) (hc : c ≤ maxLen) : Words w A 0 c [] := ⟨rfl, Nat.zero_le _, hc, (fun x h => by cases h), Row.nil _ _⟩
theorem Words.take (h : Words w A n c xs) {k : Nat} (hk : k ≤ n) : Words w A k c (xs.take k) :=
  ⟨by have := h.1; simp; omega, by have := h.2.1; omega, h.2.2.1, h.small.take k, by rw [List.map_take]; exact h.2.2.2.2.take k⟩
theorem Words.own {g : Nat} {e : TypeId} (h : Own w g e (xs.map wv)) (hs : Small xs) (hn : n = xs.length) (hc : n ≤ c) (hm : c ≤ maxLen) : Words w (some ⟨g, 0, none⟩) n c xs :=
  ⟨hn, hc, hm, hs, h.row⟩
end

/-- A byte as a value. -/
abbrev bv (x : Nat) : Value := .int .u8 (x : Int)
def Bytey (xs : List Nat) : Prop := ∀ x ∈ xs, x < 256
theorem Bytey.take {xs : List Nat} (h : Bytey xs) (k : Nat) : Bytey (xs.take k) := fun x hx => h x (List.mem_of_mem_take hx)
theorem Bytey.append {xs ys : List Nat} (h : Bytey xs) (h' : Bytey ys) : Bytey (xs ++ ys) := fun x hx => (List.mem_append.1 hx).elim (h x) (h' x)

/-- A slice of bytes that reads as this list of numbers. -/
def Bytes (w : World) (A : Option Addr) (n c : Nat) (xs : List Nat) : Prop :=
  n = xs.length ∧ n ≤ c ∧ c ≤ maxLen ∧ Bytey xs ∧ Row w A (xs.map bv)

section
variable {w w' : World} {A : Option Addr} {n c : Nat} {xs : List Nat}
theorem Bytes.len (h : Bytes w A n c xs) : n = xs.length := h.1
theorem Bytes.cap (h : Bytes w A n c xs) : n ≤ c := h.2.1
theorem Bytes.most (h : Bytes w A n c xs) : n ≤ 9223372036854775807 := by have := h.2.1; have := h.2.2.1; unfold maxLen at this; omega
theorem Bytes.small (h : Bytes w A n c xs) : Bytey xs := h.2.2.2.1
theorem Bytes.below (h : Bytes w A n c xs) (hb : Below w.heap.size w w') : Bytes w' A n c xs := ⟨h.1, h.2.1, h.2.2.1, h.2.2.2.1, h.2.2.2.2.below hb⟩
theorem Bytes.keep (h : Bytes w A n c xs) (hk : ∀ p : Addr, p.block < w.heap.size → w'.cell? p = w.cell? p) : Bytes w' A n c xs := ⟨h.1, h.2.1, h.2.2.1, h.2.2.2.1, h.2.2.2.2.keep hk⟩
theorem Bytes.at_ (h : Bytes w A n c xs) {k : Nat} (hk : k < n) : ∃ ad x, A = some ad ∧ xs[k]? = some x ∧ x < 256 ∧ w.cell? (ad.add k) = some (.int .u8 (x : Int)) := by
  have hl : k < xs.length := by rw [← h.1]; exact hk
  obtain ⟨ad, e, hc⟩ := h.2.2.2.2.one (k := k) (by simpa using hl) rfl
  exact ⟨ad, xs[k], e, List.getElem?_eq_getElem hl, h.small _ (List.getElem_mem hl), by simpa using hc⟩
theorem Bytes.nil (w : World) (A : Option Addr) (c : Nat) (hc : c ≤ maxLen) : Bytes w A 0 c [] := ⟨rfl, Nat.zero_le _, hc, (fun x h => by cases h), Row.nil _ _⟩
theorem Bytes.take (h : Bytes w A n c xs) {k : Nat} (hk : k ≤ n) : Bytes w A k c (xs.take k) :=
  ⟨by have := h.1; simp; omega, by have := h.2.1; omega, h.2.2.1, h.small.take k, by rw [List.map_take]; exact h.2.2.2.2.take k⟩
theorem Bytes.own {g : Nat} {e : TypeId} (h : Own w g e (xs.map bv)) (hs : Bytey xs) (hn : n = xs.length) (hc : n ≤ c) (hm : c ≤ maxLen) : Bytes w (some ⟨g, 0, none⟩) n c xs :=
  ⟨hn, hc, hm, hs, h.row⟩
end

theorem below_of_grown {w w' : World} (hg : w.grownBy w' none) : Below w.heap.size w w' := ⟨hg.os, hg.tape, hg.output, hg.size, fun k hk => hg.block k hk (by simp)⟩
theorem below_undrawn {B q : Nat} {w w' : World} (h : Below B (w.drewN q) w') : Below B w w' := ⟨h.os, h.tape, h.output, h.size, h.block⟩
theorem below_drawn {B : Nat} {w w' : World} (h : Below B w w') (q : Nat) : Below B w (w'.drewN q) := ⟨h.os, h.tape, h.output, h.size, h.block⟩
theorem Own.of_row {w : World} {B : Nat} {e : TypeId} {g n : Nat} {vs : List Value} (h : w.ownsRow B e 1 (.slice (some ⟨g, 0, none⟩) n n) n vs) : Own w g e vs := by
  rcases h.2 with ⟨h, _⟩ | ⟨g', _, cur, hv, _, hh, _, _, hs, ht⟩
  · cases h
  · injection hv with h1 h2 h3
    injection h1 with h1
    injection h1 with h1
    subst h1 h3
    unfold Own
    rw [hh, ← ht, List.take_of_length_le (by simp [hs])]

theorem Own.setw {w : World} {g e k v : Nat} {o : List Nat} (h : Own w g e (o.map wv)) {vi : Int} (hv : vi = (v : Int)) : Own (w.setCell ⟨g, k, none⟩ (.int .u32 vi)) g e ((o.set k v).map wv) := by
  subst hv; rw [List.map_set]; exact h.set_ k _
theorem made_words (n : Nat) : (madeCells (Value.int .u32 0).cells (n * 1)).toList = (List.replicate n 0).map wv := by rw [Nat.mul_one]; simp [Value.cells, toList_madeCells_one]
theorem Own.news {w : World} {g : Nat} {e : TypeId} {vs : List Value} (h : Own w g e vs) : ∀ j u, vs[j]? = some u → w.cell? ((⟨g, 0, none⟩ : Addr).add j) = some u := fun j u hu => by rw [add_head, h.cell, hu]
theorem Row.of_owns {w : World} {B m cap size : Nat} {e : TypeId} {A : Option Addr} {vs : List Value} (h : w.ownsRow B e size (.slice A m cap) m vs) : Row w A vs := by
  intro j hj
  rcases h.2 with ⟨_, h0⟩ | ⟨g', _, cur, hv, _, hh, _, _, _, ht⟩
  · have := h.1; rw [h0] at this; simp at this; rw [this] at hj; simp at hj
  · injection hv with h1 _ _
    refine ⟨_, h1, ?_⟩
    rw [add_head, cell_of_row w g' j cur e (0, 0) hh, ← ht, List.getElem?_take, if_pos, Array.getElem?_toList]
    rw [← ht] at hj; simp at hj; omega
theorem cap_of_owns {w : World} {B m cap size : Nat} {e : TypeId} {A : Option Addr} {vs : List Value} (h : w.ownsRow B e size (.slice A m cap) m vs) : m ≤ cap ∧ cap ≤ maxLen := by
  rcases h.2 with ⟨hv, h0⟩ | ⟨g', cap', cur, hv, _, _, h1, h2, _⟩
  · injection hv with _ _ h3; subst h3 h0; exact ⟨Nat.le_refl _, Nat.zero_le _⟩
  · injection hv with _ _ h3; subst h3; exact ⟨h1, h2⟩
theorem Bytes.of_owns {w : World} {B m cap : Nat} {e : TypeId} {A : Option Addr} {o : List Nat} (h : w.ownsRow B e 1 (.slice A m cap) m (o.map bv)) (ho : Bytey o) (hm : m = o.length) : Bytes w A m cap o :=
  ⟨hm, (cap_of_owns h).1, (cap_of_owns h).2, ho, Row.of_owns h⟩
theorem Words.of_owns {w : World} {B m cap : Nat} {e : TypeId} {A : Option Addr} {o : List Nat} (h : w.ownsRow B e 1 (.slice A m cap) m (o.map wv)) (ho : Small o) (hm : m = o.length) : Words w A m cap o :=
  ⟨hm, (cap_of_owns h).1, (cap_of_owns h).2, ho, Row.of_owns h⟩
theorem owns_slice {w : World} {B m size : Nat} {e : TypeId} {v : Value} {vs : List Value} (h : w.ownsRow B e size v m vs) : ∃ A cap, v = .slice A m cap := by
  rcases h.2 with ⟨hv, h0⟩ | ⟨g', cap', cur, hv, _⟩
  · subst h0; exact ⟨_, _, hv⟩
  · exact ⟨_, _, hv⟩
/-- The block that an address lies in has elements of this type. (Of nil nothing is asked.) -/
def Typ (w : World) (A : Option Addr) (e : TypeId) : Prop := ∀ ad, A = some ad → ∃ cs fr, w.heap[ad.block]? = some (.cells cs e fr)
theorem Typ.own {w : World} {g : Nat} {e : TypeId} {vs : List Value} (h : Own w g e vs) : Typ w (some ⟨g, 0, none⟩) e := fun ad he => by
  injection he with he; subst he; exact ⟨_, _, h⟩
theorem Typ.nil (w : World) (e : TypeId) : Typ w none e := fun ad he => by cases he
theorem Typ.below {w w' : World} {A : Option Addr} {e : TypeId} (h : Typ w A e) (hb : Below w.heap.size w w') : Typ w' A e := fun ad he => by
  obtain ⟨cs, fr, hc⟩ := h ad he
  exact ⟨cs, fr, (hb.block _ (Array.getElem?_eq_some_iff.1 hc).1).trans hc⟩
/-- A row of another element type is written: this one stands. -/
theorem Typ.apart {w w' : World} {A : Option Addr} {e e' : TypeId} {v : Value} {B size n : Nat} {vs : List Value} (h : Typ w A e) (ho : w.ownsRow B e' size v n vs) (hne : e ≠ e') (hg : w.grownBy w' v.ownBlock) : ∀ ad, A = some ad → w'.heap[ad.block]? = w.heap[ad.block]? := fun ad he => by
  obtain ⟨cs, fr, hc⟩ := h ad he
  refine hg.block _ (Array.getElem?_eq_some_iff.1 hc).1 ?_
  intro hv
  rcases ho.2 with ⟨rfl, _⟩ | ⟨g, cap, cur, rfl, _, hh, _⟩
  · simp [Value.ownBlock] at hv
  · simp [Value.ownBlock] at hv
    rw [hv, hh] at hc; injection hc with hc; injection hc with _ ht; exact hne ht.symm
theorem Typ.kept {w w' : World} {A : Option Addr} {e e' : TypeId} {v : Value} {B size n : Nat} {vs : List Value} (h : Typ w A e) (ho : w.ownsRow B e' size v n vs) (hne : e ≠ e') (hg : w.grownBy w' v.ownBlock) : Typ w' A e := fun ad he => by
  obtain ⟨cs, fr, hc⟩ := h ad he
  exact ⟨cs, fr, (h.apart ho hne hg ad he).trans hc⟩
theorem Row.kept {w w' : World} {A : Option Addr} {rs vs : List Value} {e e' : TypeId} {v : Value} {B size n : Nat} (h : Row w A rs) (ht : Typ w A e) (ho : w.ownsRow B e' size v n vs) (hne : e ≠ e') (hg : w.grownBy w' v.ownBlock) : Row w' A rs := fun j hj => by
  obtain ⟨ad, he, hc⟩ := h j hj
  refine ⟨ad, he, ?_⟩
  rw [← hc]
  exact World.cell?_of_block (by rw [add_block]; exact ht.apart ho hne hg ad he)
theorem Words.kept {w w' : World} {A : Option Addr} {n c : Nat} {xs : List Nat} {vs : List Value} {e e' : TypeId} {v : Value} {B size m : Nat} (h : Words w A n c xs) (ht : Typ w A e) (ho : w.ownsRow B e' size v m vs) (hne : e ≠ e') (hg : w.grownBy w' v.ownBlock) : Words w' A n c xs :=
  ⟨h.1, h.2.1, h.2.2.1, h.2.2.2.1, h.2.2.2.2.kept ht ho hne hg⟩
theorem Bytes.kept {w w' : World} {A : Option Addr} {n c : Nat} {xs : List Nat} {vs : List Value} {e e' : TypeId} {v : Value} {B size m : Nat} (h : Bytes w A n c xs) (ht : Typ w A e) (ho : w.ownsRow B e' size v m vs) (hne : e ≠ e') (hg : w.grownBy w' v.ownBlock) : Bytes w' A n c xs :=
  ⟨h.1, h.2.1, h.2.2.1, h.2.2.2.1, h.2.2.2.2.kept ht ho hne hg⟩
theorem owns_below {w w' : World} {B size n : Nat} {e : TypeId} {v : Value} {vs : List Value} (h : w.ownsRow B e size v n vs) (hb : Below w.heap.size w w') : w'.ownsRow B e size v n vs :=
  h.kept (row := none) ⟨hb.os, hb.tape, hb.output, hb.size, fun k hk _ => hb.block k hk⟩ (by cases hv : v.ownBlock <;> simp)
theorem Typ.of_owns {w : World} {B m cap size : Nat} {e : TypeId} {A : Option Addr} {vs : List Value} (h : w.ownsRow B e size (.slice A m cap) m vs) : Typ w A e := fun ad he => by
  rcases h.2 with ⟨hv, _⟩ | ⟨g', _, cur, hv, _, hh, _⟩
  · injection hv with h1; rw [he] at h1; cases h1
  · injection hv with h1; rw [he] at h1; injection h1 with h1; subst h1; exact ⟨_, _, hh⟩
/-- 'append(out, x, ..)' onto a row of the call's own, where the new elements have just been laid into a block: what is owned behind it, and that nothing below the call's own blocks has turned. -/
theorem wpList_app {P : Program} {ops : Array Oper} {rest : List Oper} {o : Oper} {a : Act} {Q : Exit → Act → World → Prop} {w0 : World} {news : List Value} {s x : Operand} {t e : TypeId} {z : Value} {size bytes base n m c : Nat} {v : Value} {xs : List Value}
    (hgd : o.guard = none) (ho : o.op = .call { callee := .builtin .append, args := #[s, x], argTypes := #[t, t] }) (ht : P.underlying t = some (.slice e))
    (hinfo : (P.info? e).map (fun i => (i.zero, i.size, i.bytes)) = some (some z, size, bytes)) (hzs : z.cells.size = size) (hsz : 0 < size)
    (hs : a.eval s = v) (hown : w0.ownsRow base e size v n xs) (hx : a.eval x = .slice (some ⟨w0.heap.size, 0, none⟩) m c) (hl : news.length = m * size) (h1 : ∀ u ∈ news, u.oneCell' = true)
    (h63 : n + m ≤ maxLen) (hbytes : (n + m) * bytes ≤ 140737488355328) (hbase : base ≤ w0.heap.size)
    (h : ∀ v' w', w'.ownsRow base e size v' (n + m) (xs ++ news) → Below base w0 w' → wpList P ops Q rest (a.put o.dst v') w') : wpList P ops Q (o :: rest) a (w0.alloc (.cells news.toArray e)) := by
  obtain ⟨i0, hi, hz0, hz1, hz2⟩ := info_parts hinfo
  refine wpList_append_own _ hgd s x t ho base e i0 z size bytes ht hi hz0 hz1 hz2 hzs hsz v n xs hs (hown.alloc _) ⟨w0.heap.size, 0, none⟩ m c news hx hl (Own.new w0 e news).news h1 h63 hbytes (by simp; omega) ?_
  intro v' w' h2 h3 _
  refine h v' w' h2 ?_
  exact ((Below.refl base w0).alloc hbase _).grown h3 (by simp; omega) (fun k hk => (World.ownsRow.lt hown k hk).1)
/-- The same, and which block alone may have turned: where the new elements have just been laid into a block: what is owned behind it, and that nothing below the call's own blocks has turned. -/
theorem wpList_appg {P : Program} {ops : Array Oper} {rest : List Oper} {o : Oper} {a : Act} {Q : Exit → Act → World → Prop} {w0 : World} {news : List Value} {s x : Operand} {t e : TypeId} {z : Value} {size bytes base n m c : Nat} {v : Value} {xs : List Value}
    (hgd : o.guard = none) (ho : o.op = .call { callee := .builtin .append, args := #[s, x], argTypes := #[t, t] }) (ht : P.underlying t = some (.slice e))
    (hinfo : (P.info? e).map (fun i => (i.zero, i.size, i.bytes)) = some (some z, size, bytes)) (hzs : z.cells.size = size) (hsz : 0 < size)
    (hs : a.eval s = v) (hown : w0.ownsRow base e size v n xs) (hx : a.eval x = .slice (some ⟨w0.heap.size, 0, none⟩) m c) (hl : news.length = m * size) (h1 : ∀ u ∈ news, u.oneCell' = true)
    (h63 : n + m ≤ maxLen) (hbytes : (n + m) * bytes ≤ 140737488355328) (hbase : base ≤ w0.heap.size)
    (h : ∀ v' w', w'.ownsRow base e size v' (n + m) (xs ++ news) → Below base w0 w' → (w0.alloc (.cells news.toArray e)).grownBy w' v.ownBlock → wpList P ops Q rest (a.put o.dst v') w') : wpList P ops Q (o :: rest) a (w0.alloc (.cells news.toArray e)) := by
  obtain ⟨i0, hi, hz0, hz1, hz2⟩ := info_parts hinfo
  refine wpList_append_own _ hgd s x t ho base e i0 z size bytes ht hi hz0 hz1 hz2 hzs hsz v n xs hs (hown.alloc _) ⟨w0.heap.size, 0, none⟩ m c news hx hl (Own.new w0 e news).news h1 h63 hbytes (by simp; omega) ?_
  intro v' w' h2 h3 _
  refine h v' w' h2 ?_ h3
  exact ((Below.refl base w0).alloc hbase _).grown h3 (by simp; omega) (fun k hk => (World.ownsRow.lt hown k hk).1)
theorem one_int (k : IntKind) (l : List Value) (h : ∀ u ∈ l, ∃ n : Int, u = .int k n) : ∀ u ∈ l, u.oneCell' = true := fun u hu => by
  obtain ⟨n, rfl⟩ := h u hu; rfl
/-- A float stored: the walk's own rule. -/
theorem run_store_flt (P : Program) (w : World) (a : Addr) (m : Mode) (k : FloatKind) (b : Nat) : (store a (.float k b) m).run P w = stored P w a (.float k b) m := run_store P w a _ m rfl
attribute [go_sem] run_store_flt
end Go.Proofs.Ytdhlcbhpjejljaa
