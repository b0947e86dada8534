import Derived.Test.YtdhlcbhpjejljaaCell
import Derived.Deep.DeepCutAuto
import Derived.Deep.RegionHeld3
namespace Go.Proofs.Ytdhlcbhpjejljaa
open Go.RowKit

theorem wholesP_yes {a b : LW} (h1 : (waddF a.sum b.sum).2 = true) (h2 : (waddF a.abs b.abs).2 = true) : wholesP a.pure b.pure = some ⟨(waddF a.sum b.sum).1, (waddF a.abs b.abs).1, wds (val a.sq + val b.sq), min a.mn b.mn, max a.mx b.mx⟩ := by
  unfold wholesP; exact if_pos ⟨h1, h2⟩
theorem wholesP_no {a b : LW} (h : ¬ ((waddF a.sum b.sum).2 = true ∧ (waddF a.abs b.abs).2 = true)) : wholesP a.pure b.pure = none := by
  unfold wholesP; exact if_neg h
theorem joinI_start (l m : List PW) : (joinI (l.drop 0) (m.drop 0)).map (([] : List PW) ++ ·) = joinI l m := by simp
theorem kept5 {W w1 : World} {g : Nat} {e : TypeId} {v0 v1 v2 v3 v4 : Value} (h : Own W g e [v0, v1, v2, v3, v4]) (hb : Below W.heap.size W w1) :
    w1.cell? ⟨g, 0, none⟩ = some v0 ∧ w1.cell? ⟨g, 1, none⟩ = some v1 ∧ w1.cell? ⟨g, 2, none⟩ = some v2 ∧ w1.cell? ⟨g, 3, none⟩ = some v3 ∧ w1.cell? ⟨g, 4, none⟩ = some v4 ∧
    w1.frozen? ⟨g, 0, none⟩ = false ∧ w1.frozen? ⟨g, 1, none⟩ = false ∧ w1.frozen? ⟨g, 2, none⟩ = false ∧ w1.frozen? ⟨g, 3, none⟩ = false ∧ w1.frozen? ⟨g, 4, none⟩ = false := by
  have h1 := h.below hb h.lt
  exact ⟨h1.cell 0, h1.cell 1, h1.cell 2, h1.cell 3, h1.cell 4, h1.free 0, h1.free 1, h1.free 2, h1.free 3, h1.free 4⟩
theorem kept5_k {W w1 : World} {g : Nat} {e : TypeId} {v0 v1 v2 v3 v4 : Value} {goal : Prop} (h : Own W g e [v0, v1, v2, v3, v4]) (hb : Below W.heap.size W w1)
    (k : (w1.cell? ⟨g, 0, none⟩ = some v0 ∧ w1.cell? ⟨g, 1, none⟩ = some v1 ∧ w1.cell? ⟨g, 2, none⟩ = some v2 ∧ w1.cell? ⟨g, 3, none⟩ = some v3 ∧ w1.cell? ⟨g, 4, none⟩ = some v4 ∧
    w1.frozen? ⟨g, 0, none⟩ = false ∧ w1.frozen? ⟨g, 1, none⟩ = false ∧ w1.frozen? ⟨g, 2, none⟩ = false ∧ w1.frozen? ⟨g, 3, none⟩ = false ∧ w1.frozen? ⟨g, 4, none⟩ = false) → goal) : goal := k (kept5 h hb)
theorem keepA {w : World} {a : Addr} {v : Value} {o : Obj} (h : w.cell? a = some v) : (w.alloc o).drew.cell? a = some v := (World.cell?_alloc_lt w o a (lt_of_cell h)).trans h
theorem keepA' {w : World} {a : Addr} {v : Value} {o : Obj} (h : w.cell? a = some v) : (w.alloc o).cell? a = some v := (World.cell?_alloc_lt w o a (lt_of_cell h)).trans h
theorem keepD {w : World} {a : Addr} {v : Value} (h : w.cell? a = some v) : w.drew.cell? a = some v := h
theorem keepO {w : World} {a : Addr} {v : Value} {o o' : Obj} (h : (w.alloc o).cell? a = some v) (hne : a.block ≠ w.heap.size) : (w.alloc o').cell? a = some v := by
  have hlt : a.block < w.heap.size := by have := lt_of_cell h; simp at this; omega
  rw [World.cell?_alloc_lt w o a hlt] at h; rw [World.cell?_alloc_lt w o' a hlt]; exact h
theorem keepB {W w1 : World} {a : Addr} {v : Value} (hb : Below W.heap.size W w1) (h : W.cell? a = some v) : w1.cell? a = some v := (hb.cell (lt_of_cell h)).trans h
theorem keep5 {w : World} {g : Nat} {a : Addr} {v b0 b1 b2 b3 b4 : Value} (h : w.cell? a = some v) (hne : g ≠ a.block) :
    (((((w.setCell ⟨g, 0, none⟩ b0).setCell ⟨g, 1, none⟩ b1).setCell ⟨g, 2, none⟩ b2).setCell ⟨g, 3, none⟩ b3).setCell ⟨g, 4, none⟩ b4).cell? a = some v := by
  have hf : ∀ (W : World) (i : Nat) (b : Value), (W.setCell ⟨g, i, none⟩ b).cell? a = W.cell? a := fun W i b => World.cell?_of_block (Below.heap_setCell W _ b _ (fun e => hne e.symm))
  rw [hf, hf, hf, hf, hf, h]
theorem nokind_zero (k : IntKind) (h : k ≠ .i64 := by decide) : NoKind k [.int .i64 0, .int .i64 0, .slice none 0 0, .int .i64 0, .int .i64 0] := by
  intro v hv x
  simp only [List.mem_cons, List.not_mem_nil, or_false] at hv
  rcases hv with rfl | rfl | rfl | rfl | rfl <;> (intro e; cases e <;> exact h rfl)
theorem info_whole : (Try.prog.info? 71).map (fun i => (i.zero, i.size, i.bytes)) = some (some (.agg #[.int .i64 0, .int .i64 0, .slice none 0 0, .int .i64 0, .int .i64 0]), 5, 56) := by kernel_rfl
theorem info_real : (Try.prog.info? 75).map (fun i => (i.zero, i.size, i.bytes)) = some (some (.agg #[.slice none 0 0, .float .f64 0, .float .f64 0]), 3, 40) := by kernel_rfl
theorem waddF_I64 (a b : Int) : I64 (waddF a b).1 := by
  unfold waddF; split
  · assumption
  · exact ⟨by decide, by decide⟩
def LW.okT (N : Nat) (w : World) (x : LW) : Prop := x.ok w ∧ Typ w x.A 41 ∧ x.n ≤ N + 1
theorem LW.okT.below {N : Nat} {w w' : World} {x : LW} (h : x.okT N w) (hb : Below w.heap.size w w') : x.okT N w' := ⟨h.1.below hb, h.2.1.below hb, h.2.2⟩
theorem LW.okT.kept {N : Nat} {w w' : World} {x : LW} {B size n : Nat} {e : TypeId} {v : Value} {vs : List Value} (h : x.okT N w) (ho : w.ownsRow B e size v n vs) (hne : 41 ≠ e) (hg : w.grownBy w' v.ownBlock) : x.okT N w' :=
  ⟨⟨h.1.1, h.1.2.1, h.1.2.2.1, h.1.2.2.2.1, h.1.2.2.2.2.1.kept h.2.1 ho hne hg, h.1.2.2.2.2.2⟩, h.2.1.kept ho hne hg, h.2.2⟩
theorem LW.okT.only {N g : Nat} {w w' : World} {x : LW} {vs : List Value} (h : x.okT N w) (ho : Own w g 26 vs) (hk : NoKind .u32 vs) (hg : w.grownBy w' (some g)) : x.okT N w' :=
  ⟨⟨h.1.1, h.1.2.1, h.1.2.2.1, h.1.2.2.2.1, h.1.2.2.2.2.1.only ho hk hg, h.1.2.2.2.2.2⟩, h.2.1.only ho (by decide) hg, h.2.2⟩
theorem I64.min {a b : Int} (ha : I64 a) (hb : I64 b) : I64 (min a b) := by unfold I64 at *; omega
theorem I64.max {a b : Int} (ha : I64 a) (hb : I64 b) : I64 (max a b) := by unfold I64 at *; omega
theorem LW.okT.new {N : Nat} {w0 w : World} {x y : LW} {C : Option Addr} {kk pp : Nat} (hx : x.ok w0) (hy : y.ok w0) (hw : Words w C kk pp (wds (val x.sq + val y.sq))) (ht : Typ w C 41) (hN : N < 4294967295) (h1 : x.n ≤ N) (h2 : y.n ≤ N) :
    (LW.mk (waddF x.sum y.sum).1 (waddF x.abs y.abs).1 C kk pp (wds (val x.sq + val y.sq)) (min x.mn y.mn) (max x.mx y.mx)).okT N w := by
  have hk : kk ≤ N + 1 := by rw [hw.len]; exact wds_len_add hx.2.2.2.2.1.small hy.2.2.2.2.1.small (by rw [← hx.2.2.2.2.1.len]; exact h1) (by rw [← hy.2.2.2.2.1.len]; exact h2)
  exact ⟨⟨waddF_I64 _ _, waddF_I64 _ _, hx.2.2.1.min hy.2.2.1, hx.2.2.2.1.max hy.2.2.2.1, hw, by show kk ≤ _; omega⟩, ht, hk⟩
theorem nokind_cell (k n : Int) (A B : Option Addr) (a b c d : Nat) : NoKind .u32 [.int .u64 k, .int .i64 n, .slice A a b, .slice B c d] := by
  intro v hv x
  simp only [List.mem_cons, List.not_mem_nil, or_false] at hv
  rcases hv with rfl | rfl | rfl | rfl <;> (intro e; cases e)
/-- What a call of Join leaves. -/
def JoinCPost (a b : LC) (N : Nat) (w : World) (e : Ending) (w' : World) : Prop :=
  Below w.heap.size w w' ∧ match joinF a.pure b.pure with
  | .inl er => e = .returned (.tuple #[.agg #[.int .u64 0, .int .i64 0, .slice none 0 0, .slice none 0 0], .int .i64 er])
  | .inr p => ∃ c : LC, e = .returned (.tuple #[.agg c.cells.toArray, .int .i64 0]) ∧ c.ok w' ∧ c.pure = p ∧ ∀ x ∈ c.ints, x.n ≤ N + 1
theorem JoinCPost.err {a b : LC} {N er : Nat} {w w' : World} (hb : Below w.heap.size w w') (h : joinF a.pure b.pure = .inl er) : JoinCPost a b N w (.returned (.tuple #[.agg #[.int .u64 0, .int .i64 0, .slice none 0 0, .slice none 0 0], .int .i64 er])) w' := by
  refine ⟨hb, ?_⟩; rw [h]
theorem JoinCPost.fine {a b c : LC} {N : Nat} {w w' : World} {p : PC} (hb : Below w.heap.size w w') (h : joinF a.pure b.pure = .inr p) (hc : c.ok w') (hp : c.pure = p) (hn : ∀ x ∈ c.ints, x.n ≤ N + 1) : JoinCPost a b N w (.returned (.tuple #[.agg c.cells.toArray, .int .i64 0])) w' := by
  refine ⟨hb, ?_⟩; rw [h]; exact ⟨c, rfl, hc, hp, hn⟩
theorem joinF_go {a b : LC} (hk : a.key = b.key) (hi : a.ints.length = b.ints.length) (hn : a.nums.length = b.nums.length) (hc : (waddF a.count b.count).2 = true) : joinF a.pure b.pure = match joinI (a.ints.map LW.pure) (b.ints.map LW.pure) with
  | none => .inl 10
  | some i => match joinR (a.nums.map LR.pure) (b.nums.map LR.pure) with
    | .inl e => .inl e
    | .inr r => .inr ⟨a.key, (waddF a.count b.count).1, i, r⟩ := by
  unfold joinF
  have h1 : ¬ (a.pure.key ≠ b.pure.key ∨ a.pure.ints.length ≠ b.pure.ints.length ∨ a.pure.nums.length ≠ b.pure.nums.length) := by
    simp [LC.pure, hk, hi, hn]
  rw [if_neg h1, if_neg (by show ¬ (waddF a.count b.count).2 = false; rw [hc]; simp)]
  rfl
theorem wno {p q : Bool} (h : ¬ (p = true ∧ q = true)) : p = false ∨ q = false := by cases p <;> cases q <;> simp_all
theorem lw_one {x : LW} : ∀ u ∈ x.cells, u.oneCell' = true := by
  intro u hu
  simp only [List.mem_cons, List.not_mem_nil, or_false] at hu
  rcases hu with rfl | rfl | rfl | rfl | rfl <;> rfl
theorem app_k {w1 w2 : World} {B size m : Nat} {e : TypeId} {v o : Value} {vs : List Value} {p : Addr} {goal : Prop} (h : w2.ownsRow B e size v m vs) (hc : w2.cell? p = w1.cell? p) (hf : w2.frozen? p = w1.frozen? p) (hd : w1.cell? p = some o) (hz : w1.frozen? p = false)
    (k : ∀ A c, v = .slice A m c → w2.cell? p = some o → w2.frozen? p = false → goal) : goal := by
  obtain ⟨A, c, e⟩ := owns_slice h
  exact k A c e (hc.trans hd) (hf.trans hz)

/-- The new block of a cell, and what stood ahead of it. -/
theorem four_new (w : World) (e : TypeId) (v1 v2 v3 v4 : List Value) :
    ∀ W, W = ((((w.alloc (.cells v1.toArray e)).alloc (.cells v2.toArray e)).alloc (.cells v3.toArray e)).alloc (.cells v4.toArray e)) →
    Own W w.heap.size e v1 ∧ Own W (w.heap.size + 1) e v2 ∧ Own W (w.heap.size + 1 + 1) e v3 ∧ Own W (w.heap.size + 1 + 1 + 1) e v4 ∧ Below w.heap.size w W ∧ W.heap.size = w.heap.size + 1 + 1 + 1 + 1 := by
  rintro W rfl
  obtain ⟨h1, h2, h3, hb⟩ := three_new3 w e v1 v2 v3
  refine ⟨h1.alloc _, h2.alloc _, h3.alloc _, ?_, hb.alloc hb.size _, by simp⟩
  have := Own.new (((w.alloc (.cells v1.toArray e)).alloc (.cells v2.toArray e)).alloc (.cells v3.toArray e)) e v4
  simpa using this

theorem RealsPost.elim_ok {a b : LR} {w w1 : World} {e : Ending} {bs : List Nat} {goal : Prop} (h : RealsPost a b w e w1) (hf : realsF a.sum b.sum = .inr bs)
    (k : ∀ C kk pp, e = .returned (.tuple #[.agg #[.slice C kk pp, .float .f64 (leastF a.mn b.mn), .float .f64 (mostF a.mx b.mx)], .int .i64 0]) → Bytes w1 C kk pp bs → Typ w1 C 5 → Below w.heap.size w w1 → goal) : goal := by
  obtain ⟨hb, h2⟩ := h
  rw [hf] at h2
  obtain ⟨C, kk, pp, he, hw, ht⟩ := h2
  exact k C kk pp he hw ht hb
theorem RealsPost.elim_err {a b : LR} {w w1 : World} {e : Ending} {er : Nat} {goal : Prop} (h : RealsPost a b w e w1) (hf : realsF a.sum b.sum = .inl er)
    (k : e = .returned (.tuple #[.agg #[.slice none 0 0, .float .f64 0, .float .f64 0], .int .i64 er]) → Below w.heap.size w w1 → goal) : goal := by
  obtain ⟨hb, h2⟩ := h
  rw [hf] at h2
  exact k h2 hb
def LR.okT (w : World) (x : LR) : Prop := x.ok w ∧ Typ w x.A 5
theorem LR.okT.below {w w' : World} {x : LR} (h : x.okT w) (hb : Below w.heap.size w w') : x.okT w' := ⟨h.1.below hb, h.2.below hb⟩
theorem LR.okT.kept {w w' : World} {x : LR} {B size n : Nat} {e : TypeId} {v : Value} {vs : List Value} (h : x.okT w) (ho : w.ownsRow B e size v n vs) (hne : 5 ≠ e) (hg : w.grownBy w' v.ownBlock) : x.okT w' :=
  ⟨⟨h.1.1.kept h.2 ho hne hg, h.1.2⟩, h.2.kept ho hne hg⟩
theorem LR.okT.only {g : Nat} {w w' : World} {x : LR} {vs : List Value} (h : x.okT w) (ho : Own w g 26 vs) (hk : NoKind .u8 vs) (hg : w.grownBy w' (some g)) : x.okT w' :=
  ⟨⟨h.1.1.only ho hk hg, h.1.2⟩, h.2.only ho (by decide) hg⟩
theorem leastF_64 {a b : Nat} (ha : W64 a) (hb : W64 b) : W64 (leastF a b) := by unfold leastF; split <;> assumption
theorem mostF_64 {a b : Nat} (ha : W64 a) (hb : W64 b) : W64 (mostF a b) := by unfold mostF; split <;> assumption
theorem downB_len (xs : List Nat) (low k : Nat) : (downB xs low k).length ≤ 4 * k := by
  induction k with
  | zero => simp [downB]
  | succ k ih => rw [downB]; split <;> simp [wbytes] <;> omega
theorem realsF_len {a b bs : List Nat} (ha : Bytey a) (hb : Bytey b) (h : realsF a b = .inr bs) : bs.length ≤ 4000 := by
  unfold realsF at h
  split at h
  · cases h
  · split at h
    · cases h
    · rename_i ng v hp
      injection h with h; subst h
      have h3 := wds_len_le (putF_le hp) (small_mg ha _ _) (small_mg hb _ _) (magF_len ha) (magF_len hb)
      have h4 := downB_len (wds v) (lowF (wds v)) (wds v).length
      unfold bytesF hdrF
      simp only [List.length_append, List.length_cons, List.length_nil]; omega
theorem realsF_ne {a b : List Nat} {er : Nat} (h : realsF a b = .inl er) : ((er : Int) != 0) = true := by
  unfold realsF at h
  split at h
  · injection h with h; subst h; rfl
  · split at h
    · injection h with h; subst h; rfl
    · cases h
theorem LR.okT.new {w0 w : World} {x y : LR} {C : Option Addr} {kk pp : Nat} {bs : List Nat} (hx : x.ok w0) (hy : y.ok w0) (hw : Bytes w C kk pp bs) (ht : Typ w C 5) (hf : realsF x.sum y.sum = .inr bs) :
    (LR.mk C kk pp bs (leastF x.mn y.mn) (mostF x.mx y.mx)).okT w := by
  have hk : kk ≤ 4294967296 := by rw [hw.len]; have := realsF_len hx.1.small hy.1.small hf; omega
  exact ⟨⟨hw, leastF_64 hx.2.1 hy.2.1, mostF_64 hx.2.2.1 hy.2.2.1, hk⟩, ht⟩
theorem lr_one {x : LR} : ∀ u ∈ x.cells, u.oneCell' = true := by
  intro u hu
  simp only [List.mem_cons, List.not_mem_nil, or_false] at hu
  rcases hu with rfl | rfl | rfl <;> rfl
theorem nokind_cell8 (k n : Int) (A B : Option Addr) (a b c d : Nat) : NoKind .u8 [.int .u64 k, .int .i64 n, .slice A a b, .slice B c d] := by
  intro v hv x
  simp only [List.mem_cons, List.not_mem_nil, or_false] at hv
  rcases hv with rfl | rfl | rfl | rfl <;> (intro e; cases e)
theorem own_apart {w : World} {B B' size size' n n' : Nat} {e e' : TypeId} {v v' : Value} {vs vs' : List Value} (h : w.ownsRow B e size v n vs) (h' : w.ownsRow B' e' size' v' n' vs') (hne : e ≠ e') : v.ownBlock = none ∨ v.ownBlock ≠ v'.ownBlock := by
  rcases h.2 with ⟨rfl, _⟩ | ⟨g, cap, cur, rfl, _, hh, _⟩
  · exact .inl rfl
  · refine .inr ?_
    rcases h'.2 with ⟨rfl, _⟩ | ⟨g', cap', cur', rfl, _, hh', _⟩
    · simp [Value.ownBlock]
    · intro e; simp [Value.ownBlock] at e; subst e
      rw [hh] at hh'; injection hh' with hh'; injection hh' with _ ht; exact hne ht
theorem joinR_start (l m : List PR) : Sum.mapR (([] : List PR) ++ ·) (joinR (l.drop 0) (m.drop 0)) = joinR l m := by
  simp only [List.drop_zero]; cases joinR l m <;> simp [Sum.mapR]
theorem kept3_k {W w1 : World} {g : Nat} {e : TypeId} {v0 v1 v2 : Value} {goal : Prop} (h : Own W g e [v0, v1, v2]) (hb : Below W.heap.size W w1)
    (k : (w1.cell? ⟨g, 0, none⟩ = some v0 ∧ w1.cell? ⟨g, 1, none⟩ = some v1 ∧ w1.cell? ⟨g, 2, none⟩ = some v2 ∧ w1.frozen? ⟨g, 0, none⟩ = false ∧ w1.frozen? ⟨g, 1, none⟩ = false ∧ w1.frozen? ⟨g, 2, none⟩ = false) → goal) : goal := by
  have h1 := h.below hb h.lt
  exact k ⟨h1.cell 0, h1.cell 1, h1.cell 2, h1.free 0, h1.free 1, h1.free 2⟩
theorem keep3 {w : World} {g : Nat} {a : Addr} {v b0 b1 b2 : Value} (h : w.cell? a = some v) (hne : g ≠ a.block) : (((w.setCell ⟨g, 0, none⟩ b0).setCell ⟨g, 1, none⟩ b1).setCell ⟨g, 2, none⟩ b2).cell? a = some v := by
  have hf : ∀ (W : World) (i : Nat) (b : Value), (W.setCell ⟨g, i, none⟩ b).cell? a = W.cell? a := fun W i b => World.cell?_of_block (Below.heap_setCell W _ b _ (fun e => hne e.symm))
  rw [hf, hf, hf, h]
theorem nokind_zero8 : NoKind .u8 [.slice none 0 0, .float .f64 0, .float .f64 0] := by
  intro v hv x
  simp only [List.mem_cons, List.not_mem_nil, or_false] at hv
  rcases hv with rfl | rfl | rfl <;> (intro e; cases e)
theorem realsP_ok {x y : LR} {bs : List Nat} (h : realsF x.sum y.sum = .inr bs) : realsP x.pure y.pure = .inr ⟨bs, leastF x.mn y.mn, mostF x.mx y.mx⟩ := by
  unfold realsP; show (match realsF x.sum y.sum with | .inl e => _ | .inr s => _) = _; rw [h]; rfl
theorem realsP_err {x y : LR} {er : Nat} (h : realsF x.sum y.sum = .inl er) : realsP x.pure y.pure = .inl er := by
  unfold realsP; show (match realsF x.sum y.sum with | .inl e => _ | .inr s => _) = _; rw [h]

set_option maxRecDepth 100000 in
set_option maxHeartbeats 4000000 in
theorem join_any {a b : LC} {w : World} (ha : a.ok w) (hb : b.ok w) (hk : a.key = b.key) (hi : a.iN = b.iN) (hn : a.nN = b.nN) (hc : (waddF a.count b.count).2 = true) {N : Nat} (hN : N < 4294967295) (hNa : ∀ x ∈ a.ints, x.n ≤ N) (hNb : ∀ x ∈ b.ints, x.n ≤ N) :
    Calls Try.prog 11 #[.agg a.cells.toArray, .agg b.cells.toArray] w (JoinCPost a b N w) := by
  have hgo := joinF_go hk (by rw [← ha.2.2.1.1, ← hb.2.2.1.1]; exact hi) (by rw [← ha.2.2.2.1.1, ← hb.2.2.2.1.1]; exact hn) hc
  have HGO := Lib.hid hgo; clear hgo
  obtain ⟨a1, a2, ax, ay, an, am⟩ := ha
  obtain ⟨b1, b2, bx, by_, bn, bm⟩ := hb
  obtain ⟨ak, ac, aiA, aiN, aiC, ai, anA, anN, anC, anu⟩ := a
  obtain ⟨bk, bc, biA, biN, biC, bi, bnA, bnN, bnC, bnu⟩ := b
  dsimp only at *
  subst hk hi hn
  go_enter Try.func11, Try.ntmps11
  go_wp2_with fail
  refine (wadd_any a2 b2).mono ?_
  rintro e w' ⟨rfl, rfl⟩
  go_wp2
  obtain ⟨W, hW⟩ : ∃ W, W = ((((w.alloc (.cells (LC.mk ak ac aiA aiN aiC ai anA anN anC anu).cells.toArray 26)).alloc (.cells (LC.mk ak bc biA aiN biC bi bnA anN bnC bnu).cells.toArray 26)).alloc (.cells #[.int .u64 0, .int .i64 0, .slice none 0 0, .slice none 0 0] 26)).alloc (.cells #[.int .u64 (ak : Int), .int .i64 (waddF ac bc).1, .slice none 0 0, .slice none 0 0] 26)) := ⟨_, rfl⟩
  rw [← hW]
  obtain ⟨o1, o2, o3, o4, hbW, hsz⟩ := four_new w _ _ _ _ _ W hW
  clear hW
  go_loopw [57] (fun iv wr => ∃ (k : Nat) (v : Value) (outs : List LW), iv = .int .i64 k ∧ k ≤ aiN ∧ Own wr w.heap.size 26 (LC.mk ak ac aiA aiN aiC ai anA anN anC anu).cells ∧ Own wr (w.heap.size + 1) 26 (LC.mk ak bc biA aiN biC bi bnA anN bnC bnu).cells ∧
      Own wr (w.heap.size + 1 + 1) 26 [.int .u64 0, .int .i64 0, .slice none 0 0, .slice none 0 0] ∧ Own wr (w.heap.size + 1 + 1 + 1) 26 [.int .u64 (ak : Int), .int .i64 (waddF ac bc).1, v, .slice none 0 0] ∧
      Below w.heap.size w wr ∧ w.heap.size + 1 + 1 + 1 + 1 ≤ wr.heap.size ∧ wr.ownsRow (w.heap.size + 1 + 1 + 1 + 1) 71 5 v k (outs.flatMap LW.cells) ∧ Hid (∀ x ∈ outs, x.okT N wr) ∧
      Hid ((joinI ((ai.map LW.pure).drop k) ((bi.map LW.pure).drop k)).map (outs.map LW.pure ++ ·) = joinI (ai.map LW.pure) (bi.map LW.pure))) (fun iv _ => aiN - (intOf iv).toNat)
  case atStart =>
    exact ⟨0, .slice none 0 0, [], rfl, Nat.zero_le _, o1, o2, o3, o4, hbW, by omega, World.ownsRow_nil _ _ _ _, (fun x hx => by cases hx), joinI_start _ _⟩
  case round =>
    clear o1 o2 o3 o4 hbW hsz
    obtain ⟨k, v, outs, rfl, hk, o1, o2, o3, o4, hbw, hsz, hown, hok, hinv⟩ := hrel
    by_cases hkn : k < aiN
    · obtain ⟨ad, x, p, rfl, hxk, xok, hp, p0, p1, p2, p3, p4⟩ := (ax.below hbw).at_ hkn
      obtain ⟨bd, y, q, rfl, hyk, yok, hq, q0, q1, q2, q3, q4⟩ := (bx.below hbw).at_ hkn
      have c1 : wr.cell? ⟨w.heap.size, 2, none⟩ = some (.slice (some ad) aiN aiC) := o1.cell 2
      have c2 : wr.cell? ⟨w.heap.size + 1, 2, none⟩ = some (.slice (some bd) aiN biC) := o2.cell 2
      by_cases hyes : (waddF x.sum y.sum).2 = true ∧ (waddF x.abs y.abs).2 = true
      · have hP := Lib.hid (wholesP_yes hyes.1 hyes.2)
        have HX := Lib.hid hxk
        have HY := Lib.hid hyk
        have HH := Lib.hid hyes
        clear hxk hyk hyes
        have hk0 : (0 : Int) ≤ k := by omega
        have hk1 : (k : Int) < aiN := by omega
        go_wp2
        have lp : p.block < wr.heap.size := lt_of_cell p0
        have lq : q.block < wr.heap.size := lt_of_cell q0
        have np : wr.heap.size ≠ p.block := by omega
        have nq : wr.heap.size ≠ q.block := by omega
        have n1 : wr.heap.size ≠ w.heap.size := by omega
        have n2 : wr.heap.size ≠ w.heap.size + 1 := by omega
        go_cut [10, 11] (fun s10 s11 wx => s11 = .int .i64 0 ∧ ∃ g C kk pp, s10 = .pointer (some ⟨g, 0, none⟩) ∧ wr.heap.size ≤ g ∧ Own wx g 71 (LW.mk (waddF x.sum y.sum).1 (waddF x.abs y.abs).1 C kk pp (wds (val x.sq + val y.sq)) (min x.mn y.mn) (max x.mx y.mx)).cells ∧ Words wx C kk pp (wds (val x.sq + val y.sq)) ∧ Below wr.heap.size wr wx ∧ Typ wx C 41)
        case first =>
          go_region_held3 (fun w' => w'.cell? ⟨w.heap.size, 2, none⟩ = some (.slice (some ad) aiN aiC) ∧ w'.cell? ⟨w.heap.size + 1, 2, none⟩ = some (.slice (some bd) aiN biC) ∧ w'.cell? p = some (.int .i64 x.sum) ∧ w'.cell? ⟨p.block, p.off + 1, none⟩ = some (.int .i64 x.abs) ∧ w'.cell? ⟨p.block, p.off + 2, none⟩ = some (.slice x.A x.n x.c) ∧ w'.cell? ⟨p.block, p.off + 3, none⟩ = some (.int .i64 x.mn) ∧ w'.cell? ⟨p.block, p.off + 4, none⟩ = some (.int .i64 x.mx) ∧ w'.cell? q = some (.int .i64 y.sum) ∧ w'.cell? ⟨q.block, q.off + 1, none⟩ = some (.int .i64 y.abs) ∧ w'.cell? ⟨q.block, q.off + 2, none⟩ = some (.slice y.A y.n y.c) ∧ w'.cell? ⟨q.block, q.off + 3, none⟩ = some (.int .i64 y.mn) ∧ w'.cell? ⟨q.block, q.off + 4, none⟩ = some (.int .i64 y.mx))
            (((try go_split_ands); refine ⟨?_, ?_, ?_, ?_, ?_, ?_, ?_, ?_, ?_, ?_, ?_, ?_⟩ <;> (first | (with_reducible assumption) | (with_reducible refine keepD ?_; with_reducible assumption) | (with_reducible refine keepA ?_; with_reducible assumption) | (with_reducible refine keepA' ?_; with_reducible assumption) | (with_reducible refine keep5 ?_ ?_; with_reducible assumption; ((try dsimp only); omega)) | (with_reducible refine keepB hbc ?_; with_reducible assumption) | (with_reducible refine keepO (o := (.cells #[.int .i64 0, .int .i64 0, .slice none 0 0, .int .i64 0, .int .i64 0] 71)) ?_ ?_; with_reducible assumption; ((try dsimp only); omega)))))
            (first
              | (go_at_call 31; refine (wholes_yes (a := x) (b := y) (xok.below (by go_grown)) (yok.below (by go_grown)) HH.out.1 HH.out.2).mono ?_; rintro e w1 ⟨C, kk, pp, rfl, hw, hbc, hty⟩; have hw1s : wr.heap.size ≤ w1.heap.size := Nat.le_trans (by simp) hbc.size; first | (refine kept5_k (Own.drew (Own.new wr 71 [.int .i64 0, .int .i64 0, .slice none 0 0, .int .i64 0, .int .i64 0])) hbc ?_; rintro ⟨kc0, kc1, kc2, kc3, kc4, kf0, kf1, kf2, kf3, kf4⟩) | skip))
          all_goals
            go_wp2_with fail
            go_meet
            first
              | (refine ⟨rfl, wr.heap.size, C, kk, pp, rfl, Nat.le_refl _, ?_, ?_, ?_, ?_⟩
                 · exact ((Own.drew (Own.new wr 71 [.int .i64 0, .int .i64 0, .slice none 0 0, .int .i64 0, .int .i64 0])).below hbc (Own.lt (Own.drew (Own.new wr 71 [.int .i64 0, .int .i64 0, .slice none 0 0, .int .i64 0, .int .i64 0])))).store5 _ _ _ _ _
                 · exact hw.only ((Own.drew (Own.new wr 71 [.int .i64 0, .int .i64 0, .slice none 0 0, .int .i64 0, .int .i64 0])).below hbc (Own.lt (Own.drew (Own.new wr 71 [.int .i64 0, .int .i64 0, .slice none 0 0, .int .i64 0, .int .i64 0])))) (nokind_zero _) (only_set (only_set (only_set (only_set (only_set (World.grownBy.refl _ _) _ _) _ _) _ _) _ _) _ _)
                 · exact ((((((((Below.refl _ _).alloc (Nat.le_refl _) _).drew.trans (hbc.mono (by simp))).setCell (Nat.le_refl _) _).setCell (Nat.le_refl _) _).setCell (Nat.le_refl _) _).setCell (Nat.le_refl _) _).setCell (Nat.le_refl _) _)
                 · exact hty.only ((Own.drew (Own.new wr 71 [.int .i64 0, .int .i64 0, .slice none 0 0, .int .i64 0, .int .i64 0])).below hbc (Own.lt (Own.drew (Own.new wr 71 [.int .i64 0, .int .i64 0, .slice none 0 0, .int .i64 0, .int .i64 0])))) (by decide) (only_set (only_set (only_set (only_set (only_set (World.grownBy.refl _ _) _ _) _ _) _ _) _ _) _ _))
              | (refine ⟨rfl, w1.heap.size, C, kk, pp, rfl, hw1s, ?_, ?_, ?_, ?_⟩
                 · exact Own.new w1 71 [_, _, _, _, _]
                 · exact hw.below ((Below.refl _ _).alloc (Nat.le_refl _) _)
                 · exact ((Below.refl _ _).drew.trans hbc).alloc hw1s _
                 · exact hty.below ((Below.refl _ _).alloc (Nat.le_refl _) _))
        case rest =>
          obtain ⟨rfl, g, C, kk, pp, rfl, hg, og, hw, hbg, hty⟩ := hcut
          have t1 := o4.below hbg (by omega)
          have g0 := og.cell 0
          have g1 := og.cell 1
          have g2 := og.cell 2
          have g3 := og.cell 3
          have g4 := og.cell 4
          simp only [List.getElem?_cons_zero, List.getElem?_cons_succ] at g0 g1 g2 g3 g4
          have d2 : wc.cell? ⟨w.heap.size + 1 + 1 + 1, 2, none⟩ = some v := t1.cell 2
          have hownc := owns_below hown hbg
          have hszc : w.heap.size + 1 + 1 + 1 + 1 ≤ wc.heap.size := Nat.le_trans hsz hbg.size
          have hsz2 : w.heap.size + 1 + 1 + 1 < wc.heap.size := by omega
          obtain ⟨vA, vc, rfl⟩ := owns_slice hown
          clear p0 p1 p2 p3 p4 q0 q1 q2 q3 q4 c1 c2
          go_wp2_with (first
            | (at_builtin
               refine wpList_appg (w0 := wc) (news := (LW.mk (waddF x.sum y.sum).1 (waddF x.abs y.abs).1 C kk pp (wds (val x.sq + val y.sq)) (min x.mn y.mn) (max x.mx y.mx)).cells) rfl rfl Try.underlying23 info_whole rfl (by decide) rfl hownc (m := 1) (c := 1) rfl rfl lw_one (by unfold maxLen; omega) (by omega) hszc ?_
               intro v' w2 hown' hb2 hg2
               refine app_k hown' (hb2.cell (p := ⟨w.heap.size + 1 + 1 + 1, 2, none⟩) (by simp)) (hb2.frozen (p := ⟨w.heap.size + 1 + 1 + 1, 2, none⟩) (by simp)) d2 (t1.free 2) ?_
               rintro vA' vc' rfl u2 uf2))
          have hnew : (LW.mk (waddF x.sum y.sum).1 (waddF x.abs y.abs).1 C kk pp (wds (val x.sq + val y.sq)) (min x.mn y.mn) (max x.mx y.mx)).okT N wc := LW.okT.new xok yok hw hty hN (hNa x (List.mem_of_getElem? HX.out)) (hNb y (List.mem_of_getElem? HY.out))
          go_roundw
          case rel =>
            refine ⟨k + 1, _, outs ++ [LW.mk (waddF x.sum y.sum).1 (waddF x.abs y.abs).1 C kk pp (wds (val x.sq + val y.sq)) (min x.mn y.mn) (max x.mx y.mx)], by go_num, by omega, ?_, ?_, ?_, ((t1.below hb2 (by omega)).set_ 2 _), ?_, ?_, ?_, ?_, ?_⟩
            · exact ((o1.below hbg o1.lt).below hb2 (by omega)).far (by first | (simp; done) | (simp; omega)) _
            · exact ((o2.below hbg o2.lt).below hb2 (by omega)).far (by first | (simp; done) | (simp; omega)) _
            · exact ((o3.below hbg o3.lt).below hb2 (by omega)).far (by first | (simp; done) | (simp; omega)) _
            · exact ((hbw.trans (hbg.mono hbw.size)).trans (hb2.mono (by omega))).setCell (by simp; omega) _
            · have := hb2.size; simp [World.setCell]; omega
            · have h1 := ownsRow_setCell_below hown' (a := ⟨w.heap.size + 1 + 1 + 1, 2, none⟩) (by simp) (.slice vA' (k + 1) vc')
              rw [List.flatMap_append]
              exact h1
            · intro z hz
              have hz' : z.okT N wc := (List.mem_append.1 hz).elim (fun h => (hok.out z h).below hbg) (fun h => by rw [List.mem_singleton.1 h]; exact hnew)
              exact ((hz'.below ((Below.refl _ _).alloc (Nat.le_refl _) _)).kept (hownc.alloc _) (by decide) hg2).only (t1.below hb2 (by omega)) (nokind_cell _ _ _ _ _ _ _ _) (only_set (World.grownBy.refl _ _) _ _)
            · have := joinI_step (l := ai.map LW.pure) (m := bi.map LW.pure) (by rw [List.getElem?_map, HX.out]; rfl) (by rw [List.getElem?_map, HY.out]; rfl) hP.out hinv.out
              unfold Hid
              rw [List.map_append]
              exact this
          case measure => simp [intOf]; omega
      · have hP := Lib.hid (wholesP_no hyes)
        have HX := Lib.hid hxk
        have HY := Lib.hid hyk
        have HH := Lib.hid hyes
        clear hxk hyk hyes
        have hk0 : (0 : Int) ≤ k := by omega
        have hk1 : (k : Int) < aiN := by omega
        go_wp2
        have lp : p.block < wr.heap.size := lt_of_cell p0
        have lq : q.block < wr.heap.size := lt_of_cell q0
        have np : wr.heap.size ≠ p.block := by omega
        have nq : wr.heap.size ≠ q.block := by omega
        have n1 : wr.heap.size ≠ w.heap.size := by omega
        have n2 : wr.heap.size ≠ w.heap.size + 1 := by omega
        go_cut [10, 11] (fun _ s11 wx => s11 = .int .i64 10 ∧ Below wr.heap.size wr wx)
        case first =>
          go_region_held3 (fun w' => w'.cell? ⟨w.heap.size, 2, none⟩ = some (.slice (some ad) aiN aiC) ∧ w'.cell? ⟨w.heap.size + 1, 2, none⟩ = some (.slice (some bd) aiN biC) ∧ w'.cell? p = some (.int .i64 x.sum) ∧ w'.cell? ⟨p.block, p.off + 1, none⟩ = some (.int .i64 x.abs) ∧ w'.cell? ⟨p.block, p.off + 2, none⟩ = some (.slice x.A x.n x.c) ∧ w'.cell? ⟨p.block, p.off + 3, none⟩ = some (.int .i64 x.mn) ∧ w'.cell? ⟨p.block, p.off + 4, none⟩ = some (.int .i64 x.mx) ∧ w'.cell? q = some (.int .i64 y.sum) ∧ w'.cell? ⟨q.block, q.off + 1, none⟩ = some (.int .i64 y.abs) ∧ w'.cell? ⟨q.block, q.off + 2, none⟩ = some (.slice y.A y.n y.c) ∧ w'.cell? ⟨q.block, q.off + 3, none⟩ = some (.int .i64 y.mn) ∧ w'.cell? ⟨q.block, q.off + 4, none⟩ = some (.int .i64 y.mx))
            (((try go_split_ands); refine ⟨?_, ?_, ?_, ?_, ?_, ?_, ?_, ?_, ?_, ?_, ?_, ?_⟩ <;> (first | (with_reducible assumption) | (with_reducible refine keepD ?_; with_reducible assumption) | (with_reducible refine keepA ?_; with_reducible assumption) | (with_reducible refine keepA' ?_; with_reducible assumption) | (with_reducible refine keep5 ?_ ?_; with_reducible assumption; ((try dsimp only); omega)) | (with_reducible refine keepB hbc ?_; with_reducible assumption) | (with_reducible refine keepO (o := (.cells #[.int .i64 0, .int .i64 0, .slice none 0 0, .int .i64 0, .int .i64 0] 71)) ?_ ?_; with_reducible assumption; ((try dsimp only); omega)))))
            (first
              | (go_at_call 31; refine (wholes_no (a := x) (b := y) (xok.below (by go_grown)) (yok.below (by go_grown)) (wno HH.out)).mono ?_; rintro e w1 ⟨rfl, hbc⟩; have hw1s : wr.heap.size ≤ w1.heap.size := Nat.le_trans (by simp) hbc.size; first | (refine kept5_k (Own.drew (Own.new wr 71 [.int .i64 0, .int .i64 0, .slice none 0 0, .int .i64 0, .int .i64 0])) hbc ?_; rintro ⟨kc0, kc1, kc2, kc3, kc4, kf0, kf1, kf2, kf3, kf4⟩) | skip))
          all_goals
            go_wp2_with fail
            go_meet
            refine ⟨rfl, ?_⟩
            first
              | ((with_reducible refine Below.alloc ?_ hw1s _); exact (Below.refl _ _).drew.trans hbc)
              | ((with_reducible refine ((((Below.setCell (Below.setCell (Below.setCell (Below.setCell (Below.setCell ?_ ?_ _) ?_ _) ?_ _) ?_ _) ?_ _)))))
                 · exact ((Below.refl _ _).alloc (Nat.le_refl _) _).drew.trans (hbc.mono (by simp))
                 all_goals exact Nat.le_refl _)
        case rest =>
          obtain ⟨rfl, hbg⟩ := hcut
          have t3 := o3.below hbg o3.lt
          have z0 : wc.cell? ⟨w.heap.size + 1 + 1, 0, none⟩ = some (.int .u64 0) := t3.cell 0
          have z1 : wc.cell? ⟨w.heap.size + 1 + 1, 1, none⟩ = some (.int .i64 0) := t3.cell 1
          have z2 : wc.cell? ⟨w.heap.size + 1 + 1, 2, none⟩ = some (.slice none 0 0) := t3.cell 2
          have z3 : wc.cell? ⟨w.heap.size + 1 + 1, 3, none⟩ = some (.slice none 0 0) := t3.cell 3
          have y0 := t3.free 0
          have y1 := t3.free 1
          have y2 := t3.free 2
          have y3 := t3.free 3
          clear p0 p1 p2 p3 p4 q0 q1 q2 q3 q4 c1 c2
          go_wp2
          refine bodyPost_ret (v := .tuple #[.agg #[.int .u64 0, .int .i64 0, .slice none 0 0, .slice none 0 0], .int .i64 10]) (by simp [results, Try.results11, go_sem, z0, z1, z2, z3]) rfl ?_
          refine JoinCPost.err ?_ ?_
          · exact ((((hbw.trans (hbg.mono hbw.size)).setCell (by simp; omega) _).setCell (by simp; omega) _).setCell (by simp; omega) _).setCell (by simp; omega) _
          · rw [HGO.out]
            have := joinI_none (l := ai.map LW.pure) (m := bi.map LW.pure) (by rw [List.getElem?_map, HX.out]; rfl) (by rw [List.getElem?_map, HY.out]; rfl) hP.out hinv.out
            show (match joinI (ai.map LW.pure) (bi.map LW.pure) with | none => _ | some i => _) = _
            rw [this]
    · obtain rfl : k = aiN := by omega
      have hin := joinI_end (k := k) (by rw [List.length_map, ← ax.1]; exact Nat.le_refl _) hinv.out
      have HI := Lib.hid hin
      clear hin hinv
      obtain ⟨vA, vc, rfl⟩ := owns_slice hown
      have c1 : wr.cell? ⟨w.heap.size, 3, none⟩ = some (.slice anA anN anC) := o1.cell 3
      go_wp2
      clear c1
      obtain ⟨wo, rfl⟩ : ∃ wo : World, wo = wr := ⟨_, rfl⟩
      go_loopw [88] (fun iv wr => ∃ (m : Nat) (v : Value) (outs2 : List LR), iv = .int .i64 m ∧ m ≤ anN ∧ Own wr w.heap.size 26 (LC.mk ak ac aiA k aiC ai anA anN anC anu).cells ∧ Own wr (w.heap.size + 1) 26 (LC.mk ak bc biA k biC bi bnA anN bnC bnu).cells ∧
        Own wr (w.heap.size + 1 + 1) 26 [.int .u64 0, .int .i64 0, .slice none 0 0, .slice none 0 0] ∧ Own wr (w.heap.size + 1 + 1 + 1) 26 [.int .u64 (ak : Int), .int .i64 (waddF ac bc).1, .slice vA k vc, v] ∧
        Below w.heap.size w wr ∧ w.heap.size + 1 + 1 + 1 + 1 ≤ wr.heap.size ∧ wr.ownsRow (w.heap.size + 1 + 1 + 1 + 1) 71 5 (.slice vA k vc) k (outs.flatMap LW.cells) ∧ Hid (∀ x ∈ outs, x.okT N wr) ∧
        wr.ownsRow (w.heap.size + 1 + 1 + 1 + 1) 75 3 v m (outs2.flatMap LR.cells) ∧ Hid (∀ x ∈ outs2, x.okT wr) ∧
        Hid (Sum.mapR (outs2.map LR.pure ++ ·) (joinR ((anu.map LR.pure).drop m) ((bnu.map LR.pure).drop m)) = joinR (anu.map LR.pure) (bnu.map LR.pure))) (fun iv _ => anN - (intOf iv).toNat)
      case atStart =>
        exact ⟨0, .slice none 0 0, [], rfl, Nat.zero_le _, o1, o2, o3, o4, hbw, hsz, hown, hok, World.ownsRow_nil _ _ _ _, (fun x hx => by cases hx), joinR_start _ _⟩
      case round =>
        clear o1 o2 o3 o4 hbw hsz hown hok
        obtain ⟨m, v, outs2, rfl, hm, o1, o2, o3, o4, hbw, hsz, hown1, hok1, hown, hok, hinv⟩ := hrel
        by_cases hmn : m < anN
        · obtain ⟨ad, x, p, rfl, hxk, xok, hp, p0, p1, p2⟩ := (ay.below hbw).at_ hmn
          obtain ⟨bd, y, q, rfl, hyk, yok, hq, q0, q1, q2⟩ := (by_.below hbw).at_ hmn
          have c1 : wr.cell? ⟨w.heap.size, 3, none⟩ = some (.slice (some ad) anN anC) := o1.cell 3
          have c2 : wr.cell? ⟨w.heap.size + 1, 3, none⟩ = some (.slice (some bd) anN bnC) := o2.cell 3
          cases hf : realsF x.sum y.sum with
          | inr bs =>
            have HX := Lib.hid hxk
            have HY := Lib.hid hyk
            have HF := Lib.hid hf
            clear hxk hyk hf
            have hk0 : (0 : Int) ≤ m := by omega
            have hk1 : (m : Int) < anN := by omega
            go_wp2
            have lp : p.block < wr.heap.size := lt_of_cell p0
            have lq : q.block < wr.heap.size := lt_of_cell q0
            have np : wr.heap.size ≠ p.block := by omega
            have nq : wr.heap.size ≠ q.block := by omega
            have n1 : wr.heap.size ≠ w.heap.size := by omega
            have n2 : wr.heap.size ≠ w.heap.size + 1 := by omega
            go_cut [13, 14] (fun s10 s11 wx => s11 = .int .i64 0 ∧ ∃ g C kk pp, s10 = .pointer (some ⟨g, 0, none⟩) ∧ wr.heap.size ≤ g ∧ Own wx g 75 (LR.mk C kk pp bs (leastF x.mn y.mn) (mostF x.mx y.mx)).cells ∧ Bytes wx C kk pp bs ∧ Below wr.heap.size wr wx ∧ Typ wx C 5)
            case first =>
              go_region_held3 (fun w' => w'.cell? ⟨w.heap.size, 3, none⟩ = some (.slice (some ad) anN anC) ∧ w'.cell? ⟨w.heap.size + 1, 3, none⟩ = some (.slice (some bd) anN bnC) ∧ w'.cell? p = some (.slice x.A x.n x.c) ∧ w'.cell? ⟨p.block, p.off + 1, none⟩ = some (.float .f64 x.mn) ∧ w'.cell? ⟨p.block, p.off + 2, none⟩ = some (.float .f64 x.mx) ∧ w'.cell? q = some (.slice y.A y.n y.c) ∧ w'.cell? ⟨q.block, q.off + 1, none⟩ = some (.float .f64 y.mn) ∧ w'.cell? ⟨q.block, q.off + 2, none⟩ = some (.float .f64 y.mx))
                (((try go_split_ands); refine ⟨?_, ?_, ?_, ?_, ?_, ?_, ?_, ?_⟩ <;> (first | (with_reducible assumption) | (with_reducible refine keepD ?_; with_reducible assumption) | (with_reducible refine keepA ?_; with_reducible assumption) | (with_reducible refine keepA' ?_; with_reducible assumption) | (with_reducible refine keep3 ?_ ?_; with_reducible assumption; ((try dsimp only); omega)) | (with_reducible refine keepB hbc ?_; with_reducible assumption) | (with_reducible refine keepO (o := (.cells #[.slice none 0 0, .float .f64 0, .float .f64 0] 75)) ?_ ?_; with_reducible assumption; ((try dsimp only); omega)))))
                (first
                  | (go_at_call 32; refine (reals_any (a := x) (b := y) (xok.below (by go_grown)) (yok.below (by go_grown))).mono ?_; rintro e w1 hrp; refine RealsPost.elim_ok hrp HF.out ?_; rintro C kk pp rfl hw hty hbc; have hw1s : wr.heap.size ≤ w1.heap.size := Nat.le_trans (by simp) hbc.size; first | (refine kept3_k (Own.drew (Own.new wr 75 [.slice none 0 0, .float .f64 0, .float .f64 0])) hbc ?_; rintro ⟨kc0, kc1, kc2, kf0, kf1, kf2⟩) | skip))
              all_goals
                go_wp2_with fail
                go_meet
                first
                  | (refine ⟨rfl, wr.heap.size, C, kk, pp, rfl, Nat.le_refl _, ?_, ?_, ?_, ?_⟩
                     · exact ((((Own.drew (Own.new wr 75 [.slice none 0 0, .float .f64 0, .float .f64 0])).below hbc (Own.lt (Own.drew (Own.new wr 75 [.slice none 0 0, .float .f64 0, .float .f64 0])))).set_ 0 _).set_ 1 _).set_ 2 _
                     · exact hw.only ((Own.drew (Own.new wr 75 [.slice none 0 0, .float .f64 0, .float .f64 0])).below hbc (Own.lt (Own.drew (Own.new wr 75 [.slice none 0 0, .float .f64 0, .float .f64 0])))) nokind_zero8 (only_set (only_set (only_set (World.grownBy.refl _ _) _ _) _ _) _ _)
                     · exact (((((Below.refl _ _).alloc (Nat.le_refl _) _).drew.trans (hbc.mono (by simp))).setCell (Nat.le_refl _) _).setCell (Nat.le_refl _) _).setCell (Nat.le_refl _) _
                     · exact hty.only ((Own.drew (Own.new wr 75 [.slice none 0 0, .float .f64 0, .float .f64 0])).below hbc (Own.lt (Own.drew (Own.new wr 75 [.slice none 0 0, .float .f64 0, .float .f64 0])))) (by decide) (only_set (only_set (only_set (World.grownBy.refl _ _) _ _) _ _) _ _))
                  | (refine ⟨rfl, w1.heap.size, C, kk, pp, rfl, hw1s, ?_, ?_, ?_, ?_⟩
                     · exact Own.new w1 75 [_, _, _]
                     · exact hw.below ((Below.refl _ _).alloc (Nat.le_refl _) _)
                     · exact ((Below.refl _ _).drew.trans hbc).alloc hw1s _
                     · exact hty.below ((Below.refl _ _).alloc (Nat.le_refl _) _))
            case rest =>
              obtain ⟨rfl, g, C, kk, pp, rfl, hg, og, hw, hbg, hty⟩ := hcut
              have t1 := o4.below hbg (by omega)
              have g0 := og.cell 0
              have g1 := og.cell 1
              have g2 := og.cell 2
              simp only [List.getElem?_cons_zero, List.getElem?_cons_succ] at g0 g1 g2
              have d2 : wc.cell? ⟨w.heap.size + 1 + 1 + 1, 3, none⟩ = some v := t1.cell 3
              have hownc := owns_below hown hbg
              have hown1c := owns_below hown1 hbg
              have hszc : w.heap.size + 1 + 1 + 1 + 1 ≤ wc.heap.size := Nat.le_trans hsz hbg.size
              have hsz2 : w.heap.size + 1 + 1 + 1 < wc.heap.size := by omega
              obtain ⟨uA, uc, rfl⟩ := owns_slice hown
              clear p0 p1 p2 q0 q1 q2 c1 c2
              have hnew : (LR.mk C kk pp bs (leastF x.mn y.mn) (mostF x.mx y.mx)).okT wc := LR.okT.new xok yok hw hty HF.out
              go_wp2_with (first
                | (at_builtin
                   refine wpList_appg (w0 := wc) (news := (LR.mk C kk pp bs (leastF x.mn y.mn) (mostF x.mx y.mx)).cells) rfl rfl Try.underlying24 info_real rfl (by decide) rfl hownc (m := 1) (c := 1) rfl rfl lr_one (by unfold maxLen; omega) (by omega) hszc ?_
                   intro v' w2 hown' hb2 hg2
                   refine app_k hown' (hb2.cell (p := ⟨w.heap.size + 1 + 1 + 1, 3, none⟩) (by simp)) (hb2.frozen (p := ⟨w.heap.size + 1 + 1 + 1, 3, none⟩) (by simp)) d2 (t1.free 3) ?_
                   rintro uA' uc' rfl u2 uf2))
              have ho4 := t1.below hb2 (by omega)
              go_roundw
              case rel =>
                refine ⟨m + 1, _, outs2 ++ [(LR.mk C kk pp bs (leastF x.mn y.mn) (mostF x.mx y.mx))], by go_num, by omega, ?_, ?_, ?_, (ho4.set_ 3 _), ?_, ?_, ?_, ?_, ?_, ?_, ?_⟩
                · exact ((o1.below hbg o1.lt).below hb2 (by omega)).far (by first | (simp; done) | (simp; omega)) _
                · exact ((o2.below hbg o2.lt).below hb2 (by omega)).far (by first | (simp; done) | (simp; omega)) _
                · exact ((o3.below hbg o3.lt).below hb2 (by omega)).far (by first | (simp; done) | (simp; omega)) _
                · exact ((hbw.trans (hbg.mono hbw.size)).trans (hb2.mono (by omega))).setCell (by simp; omega) _
                · have := hb2.size; simp [World.setCell]; omega
                · have hq1 := hown1c.alloc (.cells (LR.mk C kk pp bs (leastF x.mn y.mn) (mostF x.mx y.mx)).cells.toArray 75)
                  have hq2 := hownc.alloc (.cells (LR.mk C kk pp bs (leastF x.mn y.mn) (mostF x.mx y.mx)).cells.toArray 75)
                  exact ownsRow_setCell_below (hq1.kept hg2 (own_apart hq1 hq2 (by decide))) (by simp) _
                · intro z hz
                  exact ((((hok1.out z hz).below hbg).below ((Below.refl _ _).alloc (Nat.le_refl _) _)).kept (hownc.alloc _) (by decide) hg2).only ho4 (nokind_cell _ _ _ _ _ _ _ _) (only_set (World.grownBy.refl _ _) _ _)
                · have h1 := ownsRow_setCell_below hown' (a := ⟨w.heap.size + 1 + 1 + 1, 3, none⟩) (by simp) (.slice uA' (m + 1) uc')
                  rw [List.flatMap_append]
                  exact h1
                · intro z hz
                  have hz' : z.okT wc := (List.mem_append.1 hz).elim (fun h => (hok.out z h).below hbg) (fun h => by rw [List.mem_singleton.1 h]; exact hnew)
                  exact ((hz'.below ((Below.refl _ _).alloc (Nat.le_refl _) _)).kept (hownc.alloc _) (by decide) hg2).only ho4 (nokind_cell8 _ _ _ _ _ _ _ _) (only_set (World.grownBy.refl _ _) _ _)
                · have := joinR_step (l := anu.map LR.pure) (m := bnu.map LR.pure) (by rw [List.getElem?_map, HX.out]; rfl) (by rw [List.getElem?_map, HY.out]; rfl) (realsP_ok HF.out) hinv.out
                  unfold Hid
                  rw [List.map_append]
                  exact this
              case measure => simp [intOf]; omega
          | inl er =>
            have HX := Lib.hid hxk
            have HY := Lib.hid hyk
            have HF := Lib.hid hf
            clear hxk hyk hf
            have hk0 : (0 : Int) ≤ m := by omega
            have hk1 : (m : Int) < anN := by omega
            go_wp2
            have lp : p.block < wr.heap.size := lt_of_cell p0
            have lq : q.block < wr.heap.size := lt_of_cell q0
            have np : wr.heap.size ≠ p.block := by omega
            have nq : wr.heap.size ≠ q.block := by omega
            have n1 : wr.heap.size ≠ w.heap.size := by omega
            have n2 : wr.heap.size ≠ w.heap.size + 1 := by omega
            go_cut [13, 14] (fun _ s11 wx => s11 = .int .i64 er ∧ Below wr.heap.size wr wx)
            case first =>
              go_region_held3 (fun w' => w'.cell? ⟨w.heap.size, 3, none⟩ = some (.slice (some ad) anN anC) ∧ w'.cell? ⟨w.heap.size + 1, 3, none⟩ = some (.slice (some bd) anN bnC) ∧ w'.cell? p = some (.slice x.A x.n x.c) ∧ w'.cell? ⟨p.block, p.off + 1, none⟩ = some (.float .f64 x.mn) ∧ w'.cell? ⟨p.block, p.off + 2, none⟩ = some (.float .f64 x.mx) ∧ w'.cell? q = some (.slice y.A y.n y.c) ∧ w'.cell? ⟨q.block, q.off + 1, none⟩ = some (.float .f64 y.mn) ∧ w'.cell? ⟨q.block, q.off + 2, none⟩ = some (.float .f64 y.mx))
                (((try go_split_ands); refine ⟨?_, ?_, ?_, ?_, ?_, ?_, ?_, ?_⟩ <;> (first | (with_reducible assumption) | (with_reducible refine keepD ?_; with_reducible assumption) | (with_reducible refine keepA ?_; with_reducible assumption) | (with_reducible refine keepA' ?_; with_reducible assumption) | (with_reducible refine keep3 ?_ ?_; with_reducible assumption; ((try dsimp only); omega)) | (with_reducible refine keepB hbc ?_; with_reducible assumption) | (with_reducible refine keepO (o := (.cells #[.slice none 0 0, .float .f64 0, .float .f64 0] 75)) ?_ ?_; with_reducible assumption; ((try dsimp only); omega)))))
                (first
                  | (go_at_call 32; refine (reals_any (a := x) (b := y) (xok.below (by go_grown)) (yok.below (by go_grown))).mono ?_; rintro e w1 hrp; refine RealsPost.elim_err hrp HF.out ?_; rintro rfl hbc; have hw1s : wr.heap.size ≤ w1.heap.size := Nat.le_trans (by simp) hbc.size; first | (refine kept3_k (Own.drew (Own.new wr 75 [.slice none 0 0, .float .f64 0, .float .f64 0])) hbc ?_; rintro ⟨kc0, kc1, kc2, kf0, kf1, kf2⟩) | skip))
              all_goals
                go_wp2_with fail
                go_meet
                refine ⟨rfl, ?_⟩
                first
                  | ((with_reducible refine Below.alloc ?_ hw1s _); exact (Below.refl _ _).drew.trans hbc)
                  | ((with_reducible refine ((Below.setCell (Below.setCell (Below.setCell ?_ ?_ _) ?_ _) ?_ _)))
                     · exact ((Below.refl _ _).alloc (Nat.le_refl _) _).drew.trans (hbc.mono (by simp))
                     all_goals exact Nat.le_refl _)
            case rest =>
              obtain ⟨rfl, hbg⟩ := hcut
              have t3 := o3.below hbg o3.lt
              have z0 : wc.cell? ⟨w.heap.size + 1 + 1, 0, none⟩ = some (.int .u64 0) := t3.cell 0
              have z1 : wc.cell? ⟨w.heap.size + 1 + 1, 1, none⟩ = some (.int .i64 0) := t3.cell 1
              have z2 : wc.cell? ⟨w.heap.size + 1 + 1, 2, none⟩ = some (.slice none 0 0) := t3.cell 2
              have z3 : wc.cell? ⟨w.heap.size + 1 + 1, 3, none⟩ = some (.slice none 0 0) := t3.cell 3
              have y0 := t3.free 0
              have y1 := t3.free 1
              have y2 := t3.free 2
              have y3 := t3.free 3
              have her : ((er : Int) != 0) = true := realsF_ne HF.out
              clear p0 p1 p2 q0 q1 q2 c1 c2
              go_wp2
              refine bodyPost_ret (v := .tuple #[.agg #[.int .u64 0, .int .i64 0, .slice none 0 0, .slice none 0 0], .int .i64 er]) (by simp [results, Try.results11, go_sem, z0, z1, z2, z3]) rfl ?_
              refine JoinCPost.err ?_ ?_
              · exact ((((hbw.trans (hbg.mono hbw.size)).setCell (by simp; omega) _).setCell (by simp; omega) _).setCell (by simp; omega) _).setCell (by simp; omega) _
              · rw [HGO.out]
                have h2 := joinR_err (l := anu.map LR.pure) (m := bnu.map LR.pure) (by rw [List.getElem?_map, HX.out]; rfl) (by rw [List.getElem?_map, HY.out]; rfl) (realsP_err HF.out) hinv.out
                show (match joinI (ai.map LW.pure) (bi.map LW.pure) with | none => _ | some i => match joinR (anu.map LR.pure) (bnu.map LR.pure) with | .inl e => _ | .inr r => _) = _
                rw [HI.out, h2]
        · obtain rfl : m = anN := by omega
          have hrn := joinR_end (k := m) (by rw [List.length_map, ← ay.1]; exact Nat.le_refl _) hinv.out
          have HR := Lib.hid hrn
          clear hrn hinv
          obtain ⟨uA, uc, rfl⟩ := owns_slice hown
          have z0 : wr.cell? ⟨w.heap.size + 1 + 1 + 1, 0, none⟩ = some (.int .u64 (ak : Int)) := o4.cell 0
          have z1 : wr.cell? ⟨w.heap.size + 1 + 1 + 1, 1, none⟩ = some (.int .i64 (waddF ac bc).1) := o4.cell 1
          have z2 : wr.cell? ⟨w.heap.size + 1 + 1 + 1, 2, none⟩ = some (.slice vA k vc) := o4.cell 2
          have z3 : wr.cell? ⟨w.heap.size + 1 + 1 + 1, 3, none⟩ = some (.slice uA m uc) := o4.cell 3
          have x0 : wr.cell? ⟨w.heap.size + 1 + 1, 0, none⟩ = some (.int .u64 0) := o3.cell 0
          have x1 : wr.cell? ⟨w.heap.size + 1 + 1, 1, none⟩ = some (.int .i64 0) := o3.cell 1
          have x2 : wr.cell? ⟨w.heap.size + 1 + 1, 2, none⟩ = some (.slice none 0 0) := o3.cell 2
          have x3 : wr.cell? ⟨w.heap.size + 1 + 1, 3, none⟩ = some (.slice none 0 0) := o3.cell 3
          have y0 := o3.free 0
          have y1 := o3.free 1
          have y2 := o3.free 2
          have y3 := o3.free 3
          go_wp2
          refine bodyPost_ret (v := .tuple #[.agg #[.int .u64 (ak : Int), .int .i64 (waddF ac bc).1, .slice vA k vc, .slice uA m uc], .int .i64 0]) (by simp [results, Try.results11, go_sem, x0, x1, x2, x3]) rfl ?_
          refine JoinCPost.fine (c := LC.mk ak (waddF ac bc).1 vA k vc outs uA m uc outs2) (p := ⟨ak, (waddF ac bc).1, outs.map LW.pure, outs2.map LR.pure⟩) ?_ ?_ ?_ rfl ?_
          · exact (((hbw.setCell (by simp; omega) _).setCell (by simp; omega) _).setCell (by simp; omega) _).setCell (by simp; omega) _
          · rw [HGO.out]
            show (match joinI (ai.map LW.pure) (bi.map LW.pure) with | none => _ | some i => match joinR (anu.map LR.pure) (bnu.map LR.pure) with | .inl e => _ | .inr r => _) = _
            rw [HI.out, HR.out]
          · have hr1 := ownsRow_setCell_below (ownsRow_setCell_below (ownsRow_setCell_below (ownsRow_setCell_below hown1 (a := ⟨w.heap.size + 1 + 1, 0, none⟩) (by simp) (.int .u64 (ak : Int))) (a := ⟨w.heap.size + 1 + 1, 1, none⟩) (by simp) (.int .i64 (waddF ac bc).1)) (a := ⟨w.heap.size + 1 + 1, 2, none⟩) (by simp) (.slice vA k vc)) (a := ⟨w.heap.size + 1 + 1, 3, none⟩) (by simp) (.slice uA m uc)
            have hr2 := ownsRow_setCell_below (ownsRow_setCell_below (ownsRow_setCell_below (ownsRow_setCell_below hown (a := ⟨w.heap.size + 1 + 1, 0, none⟩) (by simp) (.int .u64 (ak : Int))) (a := ⟨w.heap.size + 1 + 1, 1, none⟩) (by simp) (.int .i64 (waddF ac bc).1)) (a := ⟨w.heap.size + 1 + 1, 2, none⟩) (by simp) (.slice vA k vc)) (a := ⟨w.heap.size + 1 + 1, 3, none⟩) (by simp) (.slice uA m uc)
            have hl1 : (outs.flatMap LW.cells).length = k * 5 := hown1.1
            have hl2 : (outs2.flatMap LR.cells).length = m * 3 := hown.1
            rw [flat_length LW.cells 5 (fun _ => rfl)] at hl1
            rw [flat_length LR.cells 3 (fun _ => rfl)] at hl2
            refine ⟨a1, waddF_I64 _ _, ⟨by show k = outs.length; omega, (cap_of_owns hown1).1, (cap_of_owns hown1).2, Row.of_owns hr1, ?_⟩, ⟨by show m = outs2.length; omega, (cap_of_owns hown).1, (cap_of_owns hown).2, Row.of_owns hr2, ?_⟩, an, am⟩
            · intro z hz
              exact ((hok1.out z hz).only o3 (nokind_cell _ _ _ _ _ _ _ _) (only_set (only_set (only_set (only_set (World.grownBy.refl _ _) _ _) _ _) _ _) _ _)).1
            · intro z hz
              exact ((hok.out z hz).only o3 (nokind_cell8 _ _ _ _ _ _ _ _) (only_set (only_set (only_set (only_set (World.grownBy.refl _ _) _ _) _ _) _ _) _ _)).1
          · intro z hz
            exact (hok1.out z hz).2.2
end Go.Proofs.Ytdhlcbhpjejljaa
