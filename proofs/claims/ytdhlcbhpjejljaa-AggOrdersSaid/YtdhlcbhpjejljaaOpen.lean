/-
  Arguments opened: a cell that comes in lies in memory as a cell.
-/
import Derived.Test.YtdhlcbhpjejljaaLight
import Derived.Deep.Slices
import Derived.Deep.Fields
import Derived.Lib.SmallJoins
import Derived.ChangeSame
namespace Go.Proofs.Ytdhlcbhpjejljaa
open Go.RowKit Go.ChangeShapes Go.WideShapes Go.Deep Go.Joins

/-- Elements of s cells each, one by one, as one row. -/
theorem row_of {α : Type} {w : World} {a : Addr} {s : Nat} {f : α → List Value} {G : α → Prop} (hf : ∀ x, (f x).length = s) : ∀ (n : Nat), (∀ i, i < n → ∃ x, (∀ j, j < s → w.cell? (a.add (i * s + j)) = (f x)[j]?) ∧ G x) →
    ∃ l : List α, l.length = n ∧ Row w (some a) (l.flatMap f) ∧ ∀ x ∈ l, G x
  | 0, _ => ⟨[], rfl, Row.nil _ _, fun x hx => by cases hx⟩
  | n + 1, h => by
    obtain ⟨l, hl, hr, hg⟩ := row_of hf n (fun i hi => h i (by omega))
    obtain ⟨x, hx, gx⟩ := h n (by omega)
    refine ⟨l ++ [x], by simp [hl], ?_, fun y hy => ?_⟩
    · intro j hj
      refine ⟨a, rfl, ?_⟩
      have hlen := flat_length f s hf l
      rw [List.flatMap_append] at hj ⊢
      by_cases hjl : j < (l.flatMap f).length
      · rw [List.getElem?_append_left hjl]
        obtain ⟨a', e, hc⟩ := hr j hjl
        injection e with e; subst e; exact hc
      · rw [List.getElem?_append_right (by omega)]
        simp only [List.flatMap_cons, List.flatMap_nil, List.append_nil, List.length_append, hf] at hj ⊢
        have := hx (j - n * s) (by rw [hlen, hl] at hj hjl; omega)
        rw [hlen, hl] at *
        rw [← this]
        congr 2; omega
    · rcases List.mem_append.1 hy with hy | hy
      · exact hg y hy
      · rw [List.mem_singleton.1 hy]; exact gx
theorem flat_one {α : Type} (f : α → Value) (l : List α) : l.flatMap (fun x => [f x]) = l.map f := by
  induction l with
  | nil => rfl
  | cons x l ih => simp [ih]
section
variable {H : Type} {enc : TypeId × Value → H} {P : Program} {w : World} {base : Nat} {spare : Nat → Bool} {held : Bool}
theorem trod_flt {t : TypeId} {k : FloatKind} {fuel : Nat} {cs : List Value} {x : DataW H × List MemPlace} (ht : P.underlying t = some (.float k)) (h : DataW.trod enc P w base spare held fuel t cs = some x) : ∃ n, cs = [.float k n] ∧ (Lit.float k n).wf = true := by
  cases fuel with
  | zero => simp [DataW.trod] at h
  | succ n =>
    unfold DataW.trod at h
    rw [ht] at h
    split at h <;> simp_all
/-- A slice of one-cell elements, each of them read. -/
theorem open_row1 {α : Type} {t e : TypeId} {fuel : Nat} {v : Value} {x : DataW H × List MemPlace} {f : α → Value} {G : α → Prop} (ht : P.underlying t = some (.slice e)) (hC : P.cellsOf e = 1) (h : DataW.trod enc P w base spare held fuel t [v] = some x)
    (hx : ∀ (n : Nat) (u : Value) (y : DataW H × List MemPlace), DataW.trod enc P w base spare held n e [u] = some y → ∃ x, u = f x ∧ G x) :
    ∃ (A : Option Addr) (n c : Nat) (l : List α), v = .slice A n c ∧ n = l.length ∧ n ≤ c ∧ c ≤ maxLen ∧ Row w A (l.map f) ∧ ∀ x ∈ l, G x := by
  rcases open_slice1 ht hC h with ⟨hv, _⟩ | ⟨a, len, cap, m, n, V, D, Pl, hv, _, hl, hm, hmm, _, hi⟩
  · injection hv with hv
    exact ⟨none, 0, 0, [], hv, rfl, Nat.le_refl _, Nat.zero_le _, Row.nil _ _, fun x hx => by cases hx⟩
  · injection hv with hv
    obtain ⟨l, hl1, hr, hg⟩ := row_of (w := w) (a := a) (s := 1) (f := fun x => [f x]) (G := G) (fun _ => rfl) len (fun i hi' => by
      obtain ⟨hc, htr⟩ := hi i (by rw [hmm]; split <;> omega)
      obtain ⟨y, hy, gy⟩ := hx _ _ _ htr
      exact ⟨y, fun j hj => by obtain rfl : j = 0 := (by omega); simpa [hy] using hc, gy⟩)
    rw [flat_one] at hr
    exact ⟨some a, len, cap, l, hv, hl1.symm, hl, hm, hr, hg⟩
/-- A slice of structs whose fields are one cell each, each of them read. -/
theorem open_rowS {α : Type} {t e : TypeId} {fs : Array Field} {fuel : Nat} {v : Value} {x : DataW H × List MemPlace} {f : α → List Value} {G : α → Prop} (ht : P.underlying t = some (.slice e)) (he : P.underlying e = some (.struct fs))
    (hone : oneCellFields P fs = true) (hC : P.cellsOf e = fs.size) (h : DataW.trod enc P w base spare held fuel t [v] = some x) (hf : ∀ x, (f x).length = fs.size)
    (hx : ∀ (n : Nat) (V : Nat → Value), (∀ (j : Nat) (g : Field), fs[j]? = some g → ∃ y, DataW.trod enc P w base spare held n g.type [V j] = some y) → ∃ x, (∀ j, j < fs.size → (f x)[j]? = some (V j)) ∧ G x) :
    ∃ (A : Option Addr) (n c : Nat) (l : List α), v = .slice A n c ∧ n = l.length ∧ n ≤ c ∧ c ≤ maxLen ∧ Row w A (l.flatMap f) ∧ ∀ x ∈ l, G x := by
  rcases open_slice ht h with ⟨hv, _⟩ | ⟨a, len, cap, m, n, D, Pl, hv, hb, hl, hm, hmm, _, hi⟩
  · injection hv with hv
    exact ⟨none, 0, 0, [], hv, rfl, Nat.le_refl _, Nat.zero_le _, Row.nil _ _, fun x hx => by cases hx⟩
  · injection hv with hv
    obtain ⟨l, hl1, hr, hg⟩ := row_of (w := w) (a := a) (s := fs.size) (f := f) (G := G) hf len (fun i hi' => by
      obtain ⟨cs', hc, ht'⟩ := hi i (by rw [hmm]; split <;> omega)
      rw [hC] at hc
      obtain ⟨ys, n', hn', hy, hlen, hyl, hff⟩ := DataW.trod_struct he ht'
      obtain ⟨_, hcl, hat⟩ := World.cells?_some hc
      obtain ⟨y, hy1, gy⟩ := hx n' (fun j => cs'.getD j undef) (fun j g hj => by
        obtain ⟨ho, hk⟩ := hone_of hone j g hj
        have hjl : j < fs.size := (Array.getElem?_eq_some_iff.1 hj).1
        have h1 := hff j g hj
        rw [ho, hk] at h1
        have hone' : (cs'.drop j).take 1 = [cs'.getD j undef] := by
          rw [List.drop_eq_getElem_cons (by omega), List.getD_eq_getElem?_getD, List.getElem?_eq_getElem (by omega)]
          rfl
        rw [hone'] at h1
        exact ⟨_, h1.trans (List.getElem?_eq_getElem (by omega))⟩)
      refine ⟨y, fun j hj => ?_, gy⟩
      rw [hy1 j hj, ← add_add', hat j hj, List.getD_eq_getElem?_getD, List.getElem?_eq_getElem (by omega)]; rfl)
    exact ⟨some a, len, cap, l, hv, hl1.symm, hl, hm, hr, hg⟩
end
section
variable {H : Type} {enc : TypeId × Value → H} {w : World} {base : Nat} {spare : Nat → Bool} {held : Bool} {fuel : Nat} {v : Value} {x : DataW H × List MemPlace}
theorem wf_i64 {n : Int} (h : (Lit.int .i64 n).wf = true) : I64 n := by
  simp [Lit.wf, IntKind.min, IntKind.max, IntKind.signed, IntKind.bits] at h; unfold I64; omega
theorem open_i64 (h : DataW.trod enc Try.prog w base spare held fuel 2 [v] = some x) : ∃ n : Int, v = .int .i64 n ∧ I64 n := by
  obtain ⟨n, hv, _, hw⟩ := DataW.trod_int Try.underlying2 h
  injection hv with hv
  exact ⟨n, hv, wf_i64 hw⟩
theorem open_u64 (h : DataW.trod enc Try.prog w base spare held fuel 22 [v] = some x) : ∃ n : Nat, v = .int .u64 (n : Int) ∧ W64 n := by
  obtain ⟨n, hv, _, hw⟩ := DataW.trod_int Try.underlying22 h
  injection hv with hv
  simp [Lit.wf, IntKind.min, IntKind.max, IntKind.signed, IntKind.bits] at hw
  exact ⟨n.toNat, by rw [hv, Int.toNat_of_nonneg hw.1], by unfold W64; omega⟩
theorem open_f64 (h : DataW.trod enc Try.prog w base spare held fuel 73 [v] = some x) : ∃ n : Nat, v = .float .f64 n ∧ W64 n := by
  obtain ⟨n, hv, hw⟩ := trod_flt Try.underlying73 h
  injection hv with hv
  refine ⟨n, hv, ?_⟩
  simp [Lit.wf] at hw; exact hw
theorem open_words (h : DataW.trod enc Try.prog w base spare held fuel 38 [v] = some x) : ∃ (A : Option Addr) (n c : Nat) (l : List Nat), v = .slice A n c ∧ Words w A n c l := by
  obtain ⟨A, n, c, l, hv, h1, h2, h3, h4, h5⟩ := open_row1 (f := wv) (G := fun x => x < 4294967296) Try.underlying38 (by kernel_rfl) h (fun n u y hy => by
    obtain ⟨k, hu, _, hw⟩ := DataW.trod_int Try.underlying41 hy
    injection hu with hu
    simp [Lit.wf, IntKind.min, IntKind.max, IntKind.signed, IntKind.bits] at hw
    exact ⟨k.toNat, by rw [hu, wv, Int.toNat_of_nonneg hw.1], by omega⟩)
  exact ⟨A, n, c, l, hv, h1, h2, h3, h5, h4⟩
theorem open_bytes (h : DataW.trod enc Try.prog w base spare held fuel 72 [v] = some x) : ∃ (A : Option Addr) (n c : Nat) (l : List Nat), v = .slice A n c ∧ Bytes w A n c l := by
  obtain ⟨A, n, c, l, hv, h1, h2, h3, h4, h5⟩ := open_row1 (f := bv) (G := fun x => x < 256) Try.underlying72 (by kernel_rfl) h (fun n u y hy => by
    obtain ⟨k, hu, _, hw⟩ := DataW.trod_int Try.underlying5 hy
    injection hu with hu
    simp [Lit.wf, IntKind.min, IntKind.max, IntKind.signed, IntKind.bits] at hw
    exact ⟨k.toNat, by rw [hu, bv, Int.toNat_of_nonneg hw.1], by omega⟩)
  exact ⟨A, n, c, l, hv, h1, h2, h3, h5, h4⟩
theorem open_whs (h : DataW.trod enc Try.prog w base spare held fuel 23 [v] = some x) : ∃ (A : Option Addr) (n c : Nat) (l : List LW), v = .slice A n c ∧ WhsL w A n c l := by
  obtain ⟨A, n, c, l, hv, h1, h2, h3, h4, h5⟩ := open_rowS (f := LW.cells) (G := fun x => x.okL w) Try.underlying23 Try.underlying71 (by kernel_rfl) (by kernel_rfl) h (fun _ => rfl) (fun n V hV => by
    obtain ⟨y0, g0⟩ := hV 0 _ rfl
    obtain ⟨y1, g1⟩ := hV 1 _ rfl
    obtain ⟨y2, g2⟩ := hV 2 _ rfl
    obtain ⟨y3, g3⟩ := hV 3 _ rfl
    obtain ⟨y4, g4⟩ := hV 4 _ rfl
    obtain ⟨n0, e0, i0⟩ := open_i64 g0
    obtain ⟨n1, e1, i1⟩ := open_i64 g1
    obtain ⟨A2, n2, c2, l2, e2, i2⟩ := open_words g2
    obtain ⟨n3, e3, i3⟩ := open_i64 g3
    obtain ⟨n4, e4, i4⟩ := open_i64 g4
    refine ⟨LW.mk n0 n1 A2 n2 c2 l2 n3 n4, fun j hj => ?_, i0, i1, i3, i4, i2⟩
    have hj5 : j < 5 := hj
    have : j = 0 ∨ j = 1 ∨ j = 2 ∨ j = 3 ∨ j = 4 := by omega
    rcases this with rfl | rfl | rfl | rfl | rfl
    · rw [e0]; rfl
    · rw [e1]; rfl
    · rw [e2]; rfl
    · rw [e3]; rfl
    · rw [e4]; rfl)
  exact ⟨A, n, c, l, hv, h1, h2, h3, h4, h5⟩
theorem open_rls (h : DataW.trod enc Try.prog w base spare held fuel 24 [v] = some x) : ∃ (A : Option Addr) (n c : Nat) (l : List LR), v = .slice A n c ∧ RlsL w A n c l := by
  obtain ⟨A, n, c, l, hv, h1, h2, h3, h4, h5⟩ := open_rowS (f := LR.cells) (G := fun x => x.okL w) Try.underlying24 Try.underlying75 (by kernel_rfl) (by kernel_rfl) h (fun _ => rfl) (fun n V hV => by
    obtain ⟨y0, g0⟩ := hV 0 _ rfl
    obtain ⟨y1, g1⟩ := hV 1 _ rfl
    obtain ⟨y2, g2⟩ := hV 2 _ rfl
    obtain ⟨A0, n0, c0, l0, e0, i0⟩ := open_bytes g0
    obtain ⟨n1, e1, i1⟩ := open_f64 g1
    obtain ⟨n2, e2, i2⟩ := open_f64 g2
    refine ⟨LR.mk A0 n0 c0 l0 n1 n2, fun j hj => ?_, i0, i1, i2⟩
    have hj3 : j < 3 := hj
    have : j = 0 ∨ j = 1 ∨ j = 2 := by omega
    rcases this with rfl | rfl | rfl
    · rw [e0]; rfl
    · rw [e1]; rfl
    · rw [e2]; rfl)
  exact ⟨A, n, c, l, hv, h1, h2, h3, h4, h5⟩
set_option maxRecDepth 100000 in
/-- A cell that comes in. -/
theorem open_cell {r : Reach} {b0 : Nat} {v : Value} {d : DataW H} {p : List MemPlace} (hv : Value.okWide Try.prog w r b0 26 v) (h : DataW.Trod enc Try.prog w base spare held 26 v d p) : ∃ a : LC, v = .agg a.cells.toArray ∧ a.okL w := by
  obtain ⟨v0, v1, v2, v3, y0, y1, y2, y3, n, e, -, -, g0, g1, g2, g3⟩ := open_agg4 Try.underlying26 (by kernel_rfl) (by kernel_rfl) hv h
  obtain ⟨n0, e0, i0⟩ := open_u64 g0
  obtain ⟨n1, e1, i1⟩ := open_i64 g1
  obtain ⟨A2, n2, c2, l2, e2, i2⟩ := open_whs g2
  obtain ⟨A3, n3, c3, l3, e3, i3⟩ := open_rls g3
  exact ⟨LC.mk n0 n1 A2 n2 c2 l2 A3 n3 c3 l3, by rw [e, e0, e1, e2, e3], i0, i1, i2, i3⟩
end
end Go.Proofs.Ytdhlcbhpjejljaa
