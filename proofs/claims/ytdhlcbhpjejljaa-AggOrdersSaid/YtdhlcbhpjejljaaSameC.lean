import Derived.Test.YtdhlcbhpjejljaaLight
import Derived.Test.YtdhlcbhpjejljaaSameW
import Derived.Test.YtdhlcbhpjejljaaSameF
namespace Go.Proofs.Ytdhlcbhpjejljaa
open Go.RowKit
def sameW (a b : PW) : Bool := a.sum == b.sum && a.abs == b.abs && a.mn == b.mn && a.mx == b.mx && decide (a.sq = b.sq)
def sameR (a b : PR) : Bool := decide (a.sum = b.sum) && same3F a.mn b.mn && same3F a.mx b.mx
def allTwo {α β : Type} (f : α → β → Bool) : List α → List β → Bool
  | [], [] => true
  | x :: l, y :: m => f x y && allTwo f l m
  | _, _ => false
def sameCF (a b : PC) : Bool := a.key == b.key && a.count == b.count && allTwo sameW a.ints b.ints && allTwo sameR a.nums b.nums
theorem allTwo_len {α β : Type} {f : α → β → Bool} : ∀ {l : List α} {m : List β}, l.length ≠ m.length → allTwo f l m = false
  | [], [], h => absurd rfl h
  | [], _ :: _, _ => rfl
  | _ :: _, [], _ => rfl
  | x :: l, y :: m, h => by
    rw [allTwo, allTwo_len (l := l) (m := m) (by simpa using h)]; simp
theorem sameCF_no {a b : LC} (h : a.key ≠ b.key ∨ a.count ≠ b.count ∨ a.ints.length ≠ b.ints.length ∨ a.nums.length ≠ b.nums.length) : sameCF a.pure b.pure = false := by
  unfold sameCF LC.pure
  rcases h with h | h | h | h
  · simp [h]
  · simp [h]
  · rw [allTwo_len (l := a.ints.map LW.pure) (by simpa using h)]; simp
  · rw [allTwo_len (l := a.nums.map LR.pure) (by simpa using h)]; simp
theorem below_2 (w : World) (o1 o2 : Obj) : Below w.heap.size w ((w.alloc o1).alloc o2) := by
  have h1 : Below w.heap.size w (w.alloc o1) := (Below.refl _ _).alloc (Nat.le_refl _) _
  exact h1.alloc h1.size _
theorem ne_intI {a b : Int} (h : a ≠ b) : (a != b) = true := by simpa using h
set_option maxRecDepth 100000 in
theorem sameC_no {a b : LC} {w : World} (ha : a.ok w) (hb : b.ok w) (hk : a.key ≠ b.key ∨ a.count ≠ b.count ∨ a.iN ≠ b.iN ∨ a.nN ≠ b.nN) :
    Calls Try.prog 13 #[.agg a.cells.toArray, .agg b.cells.toArray] w fun e w' => e = .returned (.bool (sameCF a.pure b.pure)) ∧ Below w.heap.size w w' := by
  have HG := Lib.hid (sameCF_no (a := a) (b := b) (by rw [← ha.2.2.1.1, ← hb.2.2.1.1, ← ha.2.2.2.1.1, ← hb.2.2.2.1.1]; exact hk))
  obtain ⟨a1, a2, ax, ay, an, am⟩ := ha
  obtain ⟨b1, b2, bx, by_, bn, bm⟩ := hb
  obtain ⟨ak, ac, aiA, aiN, aiC, ai, anA, anN, anC, anu⟩ := a
  obtain ⟨bk, bc, biA, biN, biC, bi, bnA, bnN, bnC, bnu⟩ := b
  dsimp only at *
  by_cases h1 : ak = bk
  · subst h1
    by_cases h2 : ac = bc
    · subst h2
      by_cases h3 : aiN = biN
      · subst h3
        have h4 := ne_int (((hk.resolve_left (fun h => h rfl)).resolve_left (fun h => h rfl)).resolve_left (fun h => h rfl))
        clear hk
        go_enter Try.func13, Try.ntmps13
        go_wp2
        go_ret
        exact ⟨by rw [HG.out]; rfl, below_2 _ _ _⟩
      · have h4 := ne_int h3
        clear hk h3
        go_enter Try.func13, Try.ntmps13
        go_wp2
        go_ret
        exact ⟨by rw [HG.out]; rfl, below_2 _ _ _⟩
    · have h4 := ne_intI h2
      clear hk h2
      go_enter Try.func13, Try.ntmps13
      go_wp2
      go_ret
      exact ⟨by rw [HG.out]; rfl, below_2 _ _ _⟩
  · have h4 := ne_int h1
    clear hk h1
    go_enter Try.func13, Try.ntmps13
    go_wp2
    go_ret
    exact ⟨by rw [HG.out]; rfl, below_2 _ _ _⟩
end Go.Proofs.Ytdhlcbhpjejljaa
