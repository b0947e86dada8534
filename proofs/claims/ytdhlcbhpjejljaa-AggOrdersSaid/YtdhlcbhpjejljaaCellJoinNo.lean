import Derived.Test.YtdhlcbhpjejljaaCellJoin
namespace Go.Proofs.Ytdhlcbhpjejljaa
open Go.RowKit
theorem joinF_one {a b : LC} (h : a.key ≠ b.key ∨ a.ints.length ≠ b.ints.length ∨ a.nums.length ≠ b.nums.length) : joinF a.pure b.pure = .inl 1 := by
  unfold joinF
  exact if_pos (by simpa [LC.pure] using h)
theorem joinF_ten {a b : LC} (hk : a.key = b.key) (hi : a.ints.length = b.ints.length) (hn : a.nums.length = b.nums.length) (hc : (waddF a.count b.count).2 = false) : joinF a.pure b.pure = .inl 10 := by
  unfold joinF
  have h1 : ¬ (a.pure.key ≠ b.pure.key ∨ a.pure.ints.length ≠ b.pure.ints.length ∨ a.pure.nums.length ≠ b.pure.nums.length) := by
    simp [LC.pure, hk, hi, hn]
  rw [if_neg h1]
  exact if_pos hc
theorem ne_int {a b : Nat} (h : a ≠ b) : ((a : Int) != (b : Int)) = true := by simp; omega
theorem below_3 (w : World) (o1 o2 o3 : Obj) : Below w.heap.size w (((w.alloc o1).alloc o2).alloc o3) := by
  have h1 : Below w.heap.size w (w.alloc o1) := (Below.refl _ _).alloc (Nat.le_refl _) _
  have h2 : Below w.heap.size w ((w.alloc o1).alloc o2) := h1.alloc h1.size _
  exact h2.alloc h2.size _
set_option maxRecDepth 100000 in
set_option maxHeartbeats 1000000 in
theorem join_ten {a b : LC} {w : World} {N : Nat} (ha : a.ok w) (hb : b.ok w) (hk : a.key = b.key) (hi : a.iN = b.iN) (hn : a.nN = b.nN) (hc : (waddF a.count b.count).2 = false) :
    Calls Try.prog 11 #[.agg a.cells.toArray, .agg b.cells.toArray] w (JoinCPost a b N w) := by
  have HG := Lib.hid (joinF_ten hk (by rw [← ha.2.2.1.1, ← hb.2.2.1.1]; exact hi) (by rw [← ha.2.2.2.1.1, ← hb.2.2.2.1.1]; exact hn) hc)
  obtain ⟨a1, a2, ax, ay, an, am⟩ := ha
  obtain ⟨b1, b2, bx, by_, bn, bm⟩ := hb
  obtain ⟨ak, ac, aiA, aiN, aiC, ai, anA, anN, anC, anu⟩ := a
  obtain ⟨bk, bc, biA, biN, biC, bi, bnA, bnN, bnC, bnu⟩ := b
  dsimp only at *
  subst hk hi hn
  go_enter Try.func11, Try.ntmps11
  go_wp2_with fail
  refine (wadd_any a2 b2).mono ?_
  rintro e w' ⟨rfl, rfl⟩
  go_wp2
  refine bodyPost_ret (v := .tuple #[.agg #[.int .u64 0, .int .i64 0, .slice none 0 0, .slice none 0 0], .int .i64 10]) (by simp [results, Try.results11, go_sem]) rfl ?_
  refine JoinCPost.err ?_ HG.out
  exact below_3 _ _ _ _

set_option maxRecDepth 100000 in
set_option maxHeartbeats 1000000 in
theorem join_one {a b : LC} {w : World} {N : Nat} (ha : a.ok w) (hb : b.ok w) (hk : a.key ≠ b.key ∨ a.iN ≠ b.iN ∨ a.nN ≠ b.nN) :
    Calls Try.prog 11 #[.agg a.cells.toArray, .agg b.cells.toArray] w (JoinCPost a b N w) := by
  have HG := Lib.hid (joinF_one (a := a) (b := b) (by rw [← ha.2.2.1.1, ← hb.2.2.1.1, ← ha.2.2.2.1.1, ← hb.2.2.2.1.1]; exact hk))
  obtain ⟨a1, a2, ax, ay, an, am⟩ := ha
  obtain ⟨b1, b2, bx, by_, bn, bm⟩ := hb
  obtain ⟨ak, ac, aiA, aiN, aiC, ai, anA, anN, anC, anu⟩ := a
  obtain ⟨bk, bc, biA, biN, biC, bi, bnA, bnN, bnC, bnu⟩ := b
  dsimp only at *
  by_cases h1 : ak = bk
  · subst h1
    by_cases h2 : aiN = biN
    · subst h2
      have h3 := ne_int (hk.resolve_left (fun h => h rfl) |>.resolve_left (fun h => h rfl))
      clear hk
      go_enter Try.func11, Try.ntmps11
      go_wp2
      refine bodyPost_ret (v := .tuple #[.agg #[.int .u64 0, .int .i64 0, .slice none 0 0, .slice none 0 0], .int .i64 1]) (by simp [results, Try.results11, go_sem]) rfl ?_
      refine JoinCPost.err ?_ HG.out
      exact below_3 _ _ _ _
    · have h3 := ne_int h2
      clear hk h2
      go_enter Try.func11, Try.ntmps11
      go_wp2
      refine bodyPost_ret (v := .tuple #[.agg #[.int .u64 0, .int .i64 0, .slice none 0 0, .slice none 0 0], .int .i64 1]) (by simp [results, Try.results11, go_sem]) rfl ?_
      refine JoinCPost.err ?_ HG.out
      exact below_3 _ _ _ _
  · have h3 := ne_int h1
    clear hk h1
    go_enter Try.func11, Try.ntmps11
    go_wp2
    refine bodyPost_ret (v := .tuple #[.agg #[.int .u64 0, .int .i64 0, .slice none 0 0, .slice none 0 0], .int .i64 1]) (by simp [results, Try.results11, go_sem]) rfl ?_
    refine JoinCPost.err ?_ HG.out
    exact below_3 _ _ _ _
/-- agg.Join on any two cells that lie in memory. -/
theorem joins_any {a b : LC} {w : World} (ha : a.ok w) (hb : b.ok w) {N : Nat} (hN : N < 4294967295) (hNa : ∀ x ∈ a.ints, x.n ≤ N) (hNb : ∀ x ∈ b.ints, x.n ≤ N) :
    Calls Try.prog 11 #[.agg a.cells.toArray, .agg b.cells.toArray] w (JoinCPost a b N w) := by
  by_cases hk : a.key ≠ b.key ∨ a.iN ≠ b.iN ∨ a.nN ≠ b.nN
  · exact join_one ha hb hk
  · have h1 : a.key = b.key := Decidable.byContradiction (fun h => hk (.inl h))
    have h2 : a.iN = b.iN := Decidable.byContradiction (fun h => hk (.inr (.inl h)))
    have h3 : a.nN = b.nN := Decidable.byContradiction (fun h => hk (.inr (.inr h)))
    cases hc : (waddF a.count b.count).2 with
    | true => exact join_any ha hb h1 h2 h3 hc hN hNa hNb
    | false => exact join_ten ha hb h1 h2 h3 hc
end Go.Proofs.Ytdhlcbhpjejljaa
