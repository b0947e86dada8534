import Derived.Test.YtdhlcbhpjejljaaAgg
namespace Go.Proofs.Ytdhlcbhpjejljaa
open Go.RowKit

theorem Bytes.only {w w' : World} {A : Option Addr} {n c g : Nat} {e : TypeId} {xs : List Nat} {vs : List Value} (h : Bytes w A n c xs) (ho : Own w g e vs) (hk : NoKind .u8 vs) (hg : w.grownBy w' (some g)) : Bytes w' A n c xs := by
  refine ⟨h.1, h.2.1, h.2.2.1, h.2.2.2.1, fun j hj => ?_⟩
  obtain ⟨ad, e, hc⟩ := h.2.2.2.2 j hj
  refine ⟨ad, e, ?_⟩
  rw [← hc]
  rw [List.getElem?_eq_getElem hj] at hc
  simp only [List.getElem_map] at hc
  exact World.cell?_of_block (hg.block _ (lt_of_cell hc) (by simpa using ho.nokind hk hc))
theorem three_new3 (w : World) (e : TypeId) (v1 v2 v3 : List Value) :
    Own (((w.alloc (.cells v1.toArray e)).alloc (.cells v2.toArray e)).alloc (.cells v3.toArray e)) w.heap.size e v1 ∧ Own (((w.alloc (.cells v1.toArray e)).alloc (.cells v2.toArray e)).alloc (.cells v3.toArray e)) (w.heap.size + 1) e v2 ∧
    Own (((w.alloc (.cells v1.toArray e)).alloc (.cells v2.toArray e)).alloc (.cells v3.toArray e)) (w.heap.size + 1 + 1) e v3 ∧ Below w.heap.size w (((w.alloc (.cells v1.toArray e)).alloc (.cells v2.toArray e)).alloc (.cells v3.toArray e)) := by
  refine ⟨((Own.new w e v1).alloc _).alloc _, ?_, ?_, by go_grown⟩
  · have := (Own.new (w.alloc (.cells v1.toArray e)) e v2).alloc (.cells v3.toArray e)
    simpa using this
  · have := Own.new ((w.alloc (.cells v1.toArray e)).alloc (.cells v2.toArray e)) e v3
    simpa using this
/-- A real measure as it lies in memory. -/
structure LR where
  A : Option Addr
  n : Nat
  c : Nat
  sum : List Nat
  mn : Nat
  mx : Nat
abbrev LR.cells (x : LR) : List Value := [.slice x.A x.n x.c, .float .f64 x.mn, .float .f64 x.mx]
def LR.ok (w : World) (x : LR) : Prop := Bytes w x.A x.n x.c x.sum ∧ W64 x.mn ∧ W64 x.mx ∧ x.n ≤ 4294967296

/-- Two real measures' sums together: an error's number, or the bytes. -/
def realsF (a b : List Nat) : Nat ⊕ List Nat :=
  if readErr a ≠ 0 ∨ readErr b ≠ 0 then .inl 13 else
  match putF (decide (a.getD 0 0 / 32 % 2 = 1)) (val (magF a)) (decide (b.getD 0 0 / 32 % 2 = 1)) (val (magF b)) with
  | none => .inl 10
  | some (ng, v) => .inr (bytesF (a.getD 0 0 % 32 ||| b.getD 0 0 % 32) ng (wds v))

def RealsPost (a b : LR) (w : World) (e : Ending) (w' : World) : Prop :=
  Below w.heap.size w w' ∧ match realsF a.sum b.sum with
  | .inl er => e = .returned (.tuple #[.agg #[.slice none 0 0, .float .f64 0, .float .f64 0], .int .i64 er])
  | .inr bs => ∃ C k p, e = .returned (.tuple #[.agg #[.slice C k p, .float .f64 (leastF a.mn b.mn), .float .f64 (mostF a.mx b.mx)], .int .i64 0]) ∧ Bytes w' C k p bs ∧ Typ w' C 5
theorem RealsPost.err {a b : LR} {w w' : World} {er : Nat} (hb : Below w.heap.size w w') (h : realsF a.sum b.sum = .inl er) : RealsPost a b w (.returned (.tuple #[.agg #[.slice none 0 0, .float .f64 0, .float .f64 0], .int .i64 er])) w' := by
  refine ⟨hb, ?_⟩; rw [h]
theorem RealsPost.ok {a b : LR} {w w' : World} {bs : List Nat} {C : Option Addr} {k p : Nat} (hb : Below w.heap.size w w') (h : realsF a.sum b.sum = .inr bs) (hw : Bytes w' C k p bs) (ht : Typ w' C 5) : RealsPost a b w (.returned (.tuple #[.agg #[.slice C k p, .float .f64 (leastF a.mn b.mn), .float .f64 (mostF a.mx b.mx)], .int .i64 0])) w' := by
  refine ⟨hb, ?_⟩; rw [h]; exact ⟨C, k, p, rfl, hw, ht⟩
theorem putF_le {neg neg' ng : Bool} {x y v : Nat} (h : putF neg x neg' y = some (ng, v)) : v ≤ x + y := by
  unfold putF at h
  split at h
  · split at h
    · cases h
    · injection h with h; injection h with _ h; omega
  · split at h <;> (injection h with h; injection h with _ h; omega)
theorem wds_len_le {xs ys : List Nat} {v t : Nat} (hv : v ≤ val xs + val ys) (hx : Small xs) (hy : Small ys) (h1 : xs.length ≤ t) (h2 : ys.length ≤ t) : (wds v).length ≤ t + 1 := by
  apply wds_length_le
  have e1 := Nat.lt_of_lt_of_le (val_lt hx) (Nat.pow_le_pow_right (by omega : 4294967296 > 0) h1)
  have e2 := Nat.lt_of_lt_of_le (val_lt hy) (Nat.pow_le_pow_right (by omega : 4294967296 > 0) h2)
  rw [Nat.pow_succ]; omega
theorem getD_bytey {l : List Nat} (h : Bytey l) (k : Nat) : l.getD k 0 < 256 := by
  rw [List.getD_eq_getElem?_getD]
  by_cases hk : k < l.length
  · rw [List.getElem?_eq_getElem hk]; exact h _ (List.getElem_mem hk)
  · rw [List.getElem?_eq_none (by omega)]; simp
theorem magF_len {b : List Nat} (h : Bytey b) : (magF b).length ≤ 510 := by
  unfold magF; rw [mg_length]; have := getD_bytey h 1; have := getD_bytey h 2; omega

set_option maxRecDepth 100000 in
set_option maxHeartbeats 4000000 in
theorem reals_any {a b : LR} {w : World} (ha : a.ok w) (hb : b.ok w) :
    Calls Try.prog 32 #[.agg a.cells.toArray, .agg b.cells.toArray] w (RealsPost a b w) := by
  obtain ⟨ax, a1, a2, an⟩ := ha
  obtain ⟨bx, b1, b2, bn⟩ := hb
  obtain ⟨aA, an', ac, asum, amn, amx⟩ := a
  obtain ⟨bA, bn', bc, bsum, bmn, bmx⟩ := b
  dsimp only at ax a1 a2 an bx b1 b2 bn
  go_enter Try.func32, Try.ntmps32
  go_wp2_with fail
  obtain ⟨own1, own2, own3, bel0⟩ := three_new3 w 75 [.slice aA an' ac, .float .f64 amn, .float .f64 amx] [.slice bA bn' bc, .float .f64 bmn, .float .f64 bmx] [.slice none 0 0, .float .f64 0, .float .f64 0]
  refine (read_any (ax.below bel0) an).mono ?_
  rintro e w1 ⟨hb1, hr1⟩
  have bel1 := bel0.trans (hb1.mono (by simp; omega))
  have own1' := own1.below hb1 own1.lt
  have own2' := own2.below hb1 own2.lt
  have own3' := own3.below hb1 own3.lt
  clear own1 own2 own3 bel0
  have f20 : w1.cell? ⟨w.heap.size + 1, 0, none⟩ = some (.slice bA bn' bc) := own2'.cell 0
  rcases hr1 with ⟨he1, rfl⟩ | ⟨he1, g1, A1, n1, c1, rfl, hg1, ho1, hw1⟩
  · go_wp2_with fail
    refine (read_any (bx.below bel1) bn).mono ?_
    rintro e w2 ⟨hb2, hr2⟩
    have bel2 := bel1.trans (hb2.mono bel1.size)
    have own3'' := own3'.below hb2 own3'.lt
    have hrF : realsF asum bsum = .inl 13 := by unfold realsF; rw [if_pos (.inl he1)]
    have k0 : w2.cell? ⟨w.heap.size + 1 + 1, 0, none⟩ = some (.slice none 0 0) := own3''.cell 0
    have k1 : w2.cell? ⟨w.heap.size + 1 + 1, 1, none⟩ = some (.float .f64 0) := own3''.cell 1
    have k2 : w2.cell? ⟨w.heap.size + 1 + 1, 2, none⟩ = some (.float .f64 0) := own3''.cell 2
    have z0 := own3''.free 0
    have z1 := own3''.free 1
    have z2 := own3''.free 2
    have hne : ((readErr asum : Int) != 0) = true := by simp; omega
    rcases hr2 with ⟨he2, rfl⟩ | ⟨he2, g2, A2, n2, c2, rfl, hg2, ho2, hw2⟩
    · go_wp2
      refine bodyPost_ret (v := .tuple #[.agg #[.slice none 0 0, .float .f64 0, .float .f64 0], .int .i64 13]) (by simp [results, Try.results32, go_sem, k0, k1, k2]) rfl ?_
      exact RealsPost.err (((bel2.setCell (by simp; omega) _).setCell (by simp; omega) _).setCell (by simp; omega) _) hrF
    · go_wp2
      refine bodyPost_ret (v := .tuple #[.agg #[.slice none 0 0, .float .f64 0, .float .f64 0], .int .i64 13]) (by simp [results, Try.results32, go_sem, k0, k1, k2]) rfl ?_
      exact RealsPost.err (((bel2.setCell (by simp; omega) _).setCell (by simp; omega) _).setCell (by simp; omega) _) hrF
  · go_wp2_with fail
    refine (read_any (bx.below bel1) bn).mono ?_
    rintro e w2 ⟨hb2, hr2⟩
    have bel2 := bel1.trans (hb2.mono bel1.size)
    have own3'' := own3'.below hb2 own3'.lt
    have k0 : w2.cell? ⟨w.heap.size + 1 + 1, 0, none⟩ = some (.slice none 0 0) := own3''.cell 0
    have k1 : w2.cell? ⟨w.heap.size + 1 + 1, 1, none⟩ = some (.float .f64 0) := own3''.cell 1
    have k2 : w2.cell? ⟨w.heap.size + 1 + 1, 2, none⟩ = some (.float .f64 0) := own3''.cell 2
    have z0 := own3''.free 0
    have z1 := own3''.free 1
    have z2 := own3''.free 2
    rcases hr2 with ⟨he2, rfl⟩ | ⟨he2, g2, A2, n2, c2, rfl, hg2, ho2, hw2⟩
    · have hrF : realsF asum bsum = .inl 13 := by unfold realsF; rw [if_pos (.inr he2)]
      have hne : ((readErr bsum : Int) != 0) = true := by simp; omega
      go_wp2
      refine bodyPost_ret (v := .tuple #[.agg #[.slice none 0 0, .float .f64 0, .float .f64 0], .int .i64 13]) (by simp [results, Try.results32, go_sem, k0, k1, k2]) rfl ?_
      exact RealsPost.err (((bel2.setCell (by simp; omega) _).setCell (by simp; omega) _).setCell (by simp; omega) _) hrF
    · have hle1 : n1 ≤ 4294967295 := by rw [hw1.len]; have := magF_len ax.small; omega
      have hle2 : n2 ≤ 4294967295 := by rw [hw2.len]; have := magF_len bx.small; omega
      have hgg : g1 ≠ g2 := by have := ho1.lt; omega
      have ho1' := ho1.below hb2 ho1.lt
      have hif : ¬ (readErr asum ≠ 0 ∨ readErr bsum ≠ 0) := by rintro (h | h); exact h he1; exact h he2
      go_wp2_with fail
      refine (sumjoin_any ho1' ho2 hgg (hw1.below hb2) hw2 hle1 hle2 (by omega) (by omega)).mono ?_
      intro e w3 hj
      cases hpf : putF (decide (asum.getD 0 0 / 32 % 2 = 1)) (val (magF asum)) (decide (bsum.getD 0 0 / 32 % 2 = 1)) (val (magF bsum)) with
      | none =>
        have hrF : realsF asum bsum = .inl 10 := by unfold realsF; rw [if_neg hif, hpf]
        have hj' : e = .returned (.bool false) ∧ Below w2.heap.size w2 w3 := by unfold JoinPost at hj; rw [hpf] at hj; exact hj
        obtain ⟨rfl, hb3⟩ := hj'
        have HP := Lib.hid hpf
        clear hj hpf
        have bel3 := bel2.trans (hb3.mono bel2.size)
        have own4 := own3''.below hb3 own3''.lt
        clear k0 k1 k2 z0 z1 z2
        have k0 : w3.cell? ⟨w.heap.size + 1 + 1, 0, none⟩ = some (.slice none 0 0) := own4.cell 0
        have k1 : w3.cell? ⟨w.heap.size + 1 + 1, 1, none⟩ = some (.float .f64 0) := own4.cell 1
        have k2 : w3.cell? ⟨w.heap.size + 1 + 1, 2, none⟩ = some (.float .f64 0) := own4.cell 2
        have z0 := own4.free 0
        have z1 := own4.free 1
        have z2 := own4.free 2
        go_wp2
        refine bodyPost_ret (v := .tuple #[.agg #[.slice none 0 0, .float .f64 0, .float .f64 0], .int .i64 10]) (by simp [results, Try.results32, go_sem, k0, k1, k2]) rfl ?_
        exact RealsPost.err (((bel3.setCell (by simp; omega) _).setCell (by simp; omega) _).setCell (by simp; omega) _) hrF
      | some r =>
        obtain ⟨ng, v⟩ := r
        have hrF : realsF asum bsum = .inr (bytesF (asum.getD 0 0 % 32 ||| bsum.getD 0 0 % 32) ng (wds v)) := by unfold realsF; rw [if_neg hif, hpf]
        have hj' : e = .returned (.bool true) ∧ w2.grownBy w3 (some g1) ∧ ∃ A n c, Own w3 g1 145 (sumv (asum.getD 0 0 % 32 ||| bsum.getD 0 0 % 32) ng A n c) ∧ Words w3 A n c (wds v) := by unfold JoinPost at hj; rw [hpf] at hj; exact hj
        obtain ⟨rfl, hg3, A3, n3, c3, ho3, hw3⟩ := hj'
        have HP := Lib.hid hpf
        have HF := Lib.hid hrF
        have hn3 : n3 ≤ 4294967295 := by
          have h1 := magF_len ax.small
          have h2 := magF_len bx.small
          have h3 := wds_len_le (putF_le hpf) hw1.small hw2.small h1 h2
          rw [hw3.len]; omega
        have hca : (asum.getD 0 0 % 32 ||| bsum.getD 0 0 % 32) < 256 := Nat.or_lt_two_pow (n := 8) (by omega) (by omega)
        clear hj hpf hrF k0 k1 k2 z0 z1 z2 f20
        have hg1' : w.heap.size + 1 + 1 < g1 := by have : _ ≤ g1 := hg1; simp at this; omega
        have own1'' := own1'.below hb2 own1'.lt
        have own2'' := own2'.below hb2 own2'.lt
        have q1 : Own w3 w.heap.size 75 _ := (hg3.block _ own1''.lt (by simp; omega)).trans own1''
        have q2 : Own w3 (w.heap.size + 1) 75 _ := (hg3.block _ own2''.lt (by simp; omega)).trans own2''
        have q3 : Own w3 (w.heap.size + 1 + 1) 75 _ := (hg3.block _ own3''.lt (by simp; omega)).trans own3''
        have bel3 : Below w.heap.size w w3 := bel2.grown hg3 bel2.size (fun k hk => by injection hk with hk; omega)
        have s11 : w3.cell? ⟨w.heap.size, 1, none⟩ = some (.float .f64 amn) := q1.cell 1
        have s12 : w3.cell? ⟨w.heap.size, 2, none⟩ = some (.float .f64 amx) := q1.cell 2
        have s21 : w3.cell? ⟨w.heap.size + 1, 1, none⟩ = some (.float .f64 bmn) := q2.cell 1
        have s22 : w3.cell? ⟨w.heap.size + 1, 2, none⟩ = some (.float .f64 bmx) := q2.cell 2
        have hsz3 := q3.lt
        go_upto_region 7 with fail
        go_cut [5] (fun s wx => s = .int .i64 0 ∧ ∃ C k p, Own wx (w.heap.size + 1 + 1) 75 [.slice C k p, .float .f64 (leastF amn bmn), .float .f64 (mostF amx bmx)] ∧ Bytes wx C k p (bytesF (asum.getD 0 0 % 32 ||| bsum.getD 0 0 % 32) ng (wds v)) ∧ Below w.heap.size w wx ∧ Typ wx C 5)
        case first =>
          go_region_held3 (fun w' => w'.cell? ⟨w.heap.size, 1, none⟩ = some (.float .f64 amn) ∧ w'.cell? ⟨w.heap.size, 2, none⟩ = some (.float .f64 amx) ∧ w'.cell? ⟨w.heap.size + 1, 1, none⟩ = some (.float .f64 bmn) ∧ w'.cell? ⟨w.heap.size + 1, 2, none⟩ = some (.float .f64 bmx))
            (first
              | (go_keep; done)
              | (simp (disch := (dsimp only; omega)) [*, World.cell?_setCell_far]; done)
              | (go_split_ands
                 refine ⟨?_, ?_, ?_, ?_⟩ <;> (rw [hbw.cell (by simp; omega)]; first | assumption | (simp [go_sem]; done))))
            (first
              | (go_at_call 51; refine (bytes_any ho3.drew (hw3.keep (fun _ _ => rfl)) hn3 hca).mono ?_; rintro e w4 ⟨C, k, p, rfl, hwb, hbw, hty⟩; have own5 := (Own.drew q3).below hbw hsz3; have kc0 : w4.cell? ⟨w.heap.size + 1 + 1, 0, none⟩ = some (.slice none 0 0) := own5.cell 0; have kc1 : w4.cell? ⟨w.heap.size + 1 + 1, 1, none⟩ = some (.float .f64 0) := own5.cell 1; have kc2 : w4.cell? ⟨w.heap.size + 1 + 1, 2, none⟩ = some (.float .f64 0) := own5.cell 2; have kf0 := own5.free 0; have kf1 := own5.free 1; have kf2 := own5.free 2)
              | (go_at_call 73; refine (least_any a1 b1).mono ?_; rintro e w' ⟨rfl, rfl⟩)
              | (go_at_call 74; refine (most_any a2 b2).mono ?_; rintro e w' ⟨rfl, rfl⟩))
          all_goals
            go_wp2_with fail
            go_meet
            refine ⟨rfl, C, k, p, ?_, ?_, ?_, ?_⟩
            · exact ((own5.set_ 0 _).set_ 1 _).set_ 2 _
            · exact hwb.only own5 (by intro v hv x; simp at hv; rcases hv with rfl | rfl <;> simp) (only_set (only_set (only_set (World.grownBy.refl _ _) _ _) _ _) _ _)
            · have bel4 := bel3.drew.trans (hbw.mono (by simp; omega))
              exact ((bel4.setCell (by simp; omega) _).setCell (by simp; omega) _).setCell (by simp; omega) _
            · exact hty.only own5 (by decide) (only_set (only_set (only_set (World.grownBy.refl _ _) _ _) _ _) _ _)
        case rest =>
          obtain ⟨rfl, C, k, p, ho, hw, hb, hty⟩ := hcut
          have c0 := ho.cell 0
          have c1 := ho.cell 1
          have c2 := ho.cell 2
          simp only [List.getElem?_cons_zero, List.getElem?_cons_succ] at c0 c1 c2
          go_wp2
          refine bodyPost_ret (v := .tuple #[.agg #[.slice C k p, .float .f64 (leastF amn bmn), .float .f64 (mostF amx bmx)], .int .i64 0]) (by simp [results, Try.results32, go_sem, c0, c1, c2]) rfl ?_
          exact RealsPost.ok hb HF.out hw hty
end Go.Proofs.Ytdhlcbhpjejljaa
