import Derived.Test.YtdhlcbhpjejljaaSameC
namespace Go.Proofs.Ytdhlcbhpjejljaa
open Go.RowKit
theorem allTwo_at {α β : Type} {f : α → β → Bool} : ∀ {l : List α} {m : List β} {k : Nat} {x : α} {y : β}, l[k]? = some x → m[k]? = some y → f x y = false → allTwo f l m = false
  | x :: l, y :: m, 0, _, _, hx, hy, hf => by
    simp at hx hy; subst hx hy; rw [allTwo, hf]; rfl
  | x :: l, y :: m, k + 1, _, _, hx, hy, hf => by
    rw [allTwo, allTwo_at (l := l) (m := m) (k := k) (by simpa using hx) (by simpa using hy) hf]; simp
  | [], _, _, _, _, hx, _, _ => by simp at hx
  | _ :: _, [], _, _, _, _, hy, _ => by simp at hy
theorem allTwo_drop {α β : Type} {f : α → β → Bool} {l : List α} {m : List β} {k : Nat} {x : α} {y : β} (hx : l[k]? = some x) (hy : m[k]? = some y) (hf : f x y = true) : allTwo f (l.drop k) (m.drop k) = allTwo f (l.drop (k + 1)) (m.drop (k + 1)) := by
  obtain ⟨h1, rfl⟩ := List.getElem?_eq_some_iff.1 hx
  obtain ⟨h2, rfl⟩ := List.getElem?_eq_some_iff.1 hy
  rw [List.drop_eq_getElem_cons h1, List.drop_eq_getElem_cons h2, allTwo, hf]; rfl
theorem allTwo_done {α β : Type} {f : α → β → Bool} {l : List α} {m : List β} {k : Nat} (h1 : l.length ≤ k) (h2 : m.length ≤ k) : allTwo f (l.drop k) (m.drop k) = true := by
  rw [List.drop_eq_nil_of_le h1, List.drop_eq_nil_of_le h2]; rfl
end Go.Proofs.Ytdhlcbhpjejljaa
