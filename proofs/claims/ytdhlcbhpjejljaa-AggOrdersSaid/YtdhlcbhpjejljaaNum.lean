/-
  Plain facts about numbers written as lists of 32-bit words, the lowest word first; no program in sight.
-/
namespace Go.Proofs.Ytdhlcbhpjejljaa

/-- The number of a list of words. -/
def val : List Nat → Nat
  | [] => 0
  | x :: xs => x + 4294967296 * val xs

/-- The words of a number, without noughts at the end. -/
def wds (n : Nat) : List Nat := if n = 0 then [] else n % 4294967296 :: wds (n / 4294967296)
termination_by n
decreasing_by omega

/-- How many words are left when the noughts at the end are gone. -/
def sz : List Nat → Nat
  | [] => 0
  | x :: xs => if sz xs = 0 then (if x = 0 then 0 else 1) else sz xs + 1

def Small (xs : List Nat) : Prop := ∀ x ∈ xs, x < 4294967296

theorem wds_zero : wds 0 = [] := by rw [wds]; simp
theorem wds_pos {n : Nat} (h : n ≠ 0) : wds n = n % 4294967296 :: wds (n / 4294967296) := by rw [wds]; simp [h]
theorem val_nil : val [] = 0 := rfl
theorem val_cons (x : Nat) (xs : List Nat) : val (x :: xs) = x + 4294967296 * val xs := rfl
theorem val_wds (n : Nat) : val (wds n) = n := by
  induction n using Nat.strongRecOn with
  | _ n ih =>
    by_cases h : n = 0
    · subst h; rw [wds_zero]; rfl
    · rw [wds_pos h, val_cons, ih _ (by omega)]; omega
theorem small_wds (n : Nat) : Small (wds n) := by
  induction n using Nat.strongRecOn with
  | _ n ih =>
    by_cases h : n = 0
    · subst h; rw [wds_zero]; intro x hx; cases hx
    · rw [wds_pos h]; intro x hx
      rcases List.mem_cons.1 hx with rfl | hx
      · omega
      · exact ih _ (by omega) x hx
theorem val_append (xs ys : List Nat) : val (xs ++ ys) = val xs + 4294967296 ^ xs.length * val ys := by
  induction xs with
  | nil => simp [val]
  | cons x xs ih => simp only [List.cons_append, val_cons, ih, List.length_cons, Nat.pow_succ, Nat.mul_add]; rw [Nat.mul_comm (4294967296 ^ xs.length) 4294967296, Nat.mul_assoc]; omega
theorem val_snoc (xs : List Nat) (y : Nat) : val (xs ++ [y]) = val xs + 4294967296 ^ xs.length * y := by rw [val_append]; simp [val]
theorem Small.tail {x : Nat} {xs : List Nat} (h : Small (x :: xs)) : Small xs := fun y hy => h y (List.mem_cons_of_mem _ hy)
theorem Small.head {x : Nat} {xs : List Nat} (h : Small (x :: xs)) : x < 4294967296 := h x List.mem_cons_self
theorem Small.append {xs ys : List Nat} (h : Small xs) (h' : Small ys) : Small (xs ++ ys) := fun x hx => (List.mem_append.1 hx).elim (h x) (h' x)
theorem Small.take {xs : List Nat} (h : Small xs) (k : Nat) : Small (xs.take k) := fun x hx => h x (List.mem_of_mem_take hx)
theorem Small.drop {xs : List Nat} (h : Small xs) (k : Nat) : Small (xs.drop k) := fun x hx => h x (List.mem_of_mem_drop hx)
theorem Small.one {y : Nat} (h : y < 4294967296) : Small [y] := fun x hx => by simp at hx; omega
theorem val_lt {xs : List Nat} (h : Small xs) : val xs < 4294967296 ^ xs.length := by
  induction xs with
  | nil => simp [val]
  | cons x xs ih =>
    have h1 := ih h.tail
    have h2 := h.head
    simp only [val_cons, List.length_cons, Nat.pow_succ]
    have : 4294967296 * (val xs + 1) ≤ 4294967296 * 4294967296 ^ xs.length := Nat.mul_le_mul_left _ h1
    rw [Nat.mul_comm (4294967296 ^ xs.length)]; omega
theorem sz_le (xs : List Nat) : sz xs ≤ xs.length := by
  induction xs with
  | nil => simp [sz]
  | cons x xs ih => simp only [sz, List.length_cons]; split <;> (try split) <;> omega
theorem sz_zero {xs : List Nat} : sz xs = 0 ↔ val xs = 0 := by
  induction xs with
  | nil => simp [sz, val]
  | cons x xs ih =>
    simp only [sz, val_cons]
    by_cases h : sz xs = 0
    · have := ih.1 h; rw [if_pos h]; by_cases hx : x = 0 <;> simp [hx, this]
    · have : val xs ≠ 0 := fun e => h (ih.2 e)
      rw [if_neg h]; constructor <;> intro <;> omega
theorem take_sz {xs : List Nat} (h : Small xs) : xs.take (sz xs) = wds (val xs) := by
  induction xs with
  | nil => simp [sz, val, wds_zero]
  | cons x xs ih =>
    have h1 := ih h.tail
    have h2 := h.head
    by_cases hs : sz xs = 0
    · have hv := sz_zero.1 hs
      by_cases hx : x = 0
      · simp [sz, hs, hx, val_cons, hv, wds_zero]
      · have e : sz (x :: xs) = 1 := by simp [sz, hs, hx]
        rw [e, val_cons, hv, wds_pos (by omega)]
        simp only [List.take_succ_cons, List.take_zero]
        rw [show (x + 4294967296 * 0) / 4294967296 = 0 by omega, wds_zero]; congr 1; omega
    · have hv : val xs ≠ 0 := fun e => hs (sz_zero.2 e)
      have e : sz (x :: xs) = sz xs + 1 := by simp [sz, hs]
      rw [e, List.take_succ_cons, h1, val_cons, wds_pos (n := x + _) (by omega)]
      congr 1
      · omega
      · congr 1; omega
theorem sz_eq {xs : List Nat} (h : Small xs) : sz xs = (wds (val xs)).length := by
  rw [← take_sz h, List.length_take]; have := sz_le xs; omega
theorem sz_snoc_zero (xs : List Nat) : sz (xs ++ [0]) = sz xs := by
  induction xs with
  | nil => simp [sz]
  | cons x xs ih => simp only [List.cons_append, sz, ih]
theorem sz_snoc {x : Nat} (hx : x ≠ 0) (xs : List Nat) : sz (xs ++ [x]) = xs.length + 1 := by
  induction xs with
  | nil => simp [sz, hx]
  | cons y xs ih => simp [List.cons_append, sz, ih]
theorem take_snoc {xs : List Nat} {k : Nat} (h : k < xs.length) : xs.take (k + 1) = xs.take k ++ [xs[k]] := List.take_succ_eq_append_getElem h
/-- A list of small words that ends in none or in a word other than 0 is the words of its number. -/
theorem wds_val_of_last {xs : List Nat} (h : Small xs) (hl : ∀ y, xs.getLast? = some y → y ≠ 0) : wds (val xs) = xs := by
  rcases List.eq_nil_or_concat xs with rfl | ⟨ys, y, rfl⟩
  · exact wds_zero
  · have hy : y ≠ 0 := hl y (by simp)
    rw [← take_sz h, List.concat_eq_append, sz_snoc hy]; exact List.take_of_length_le (by simp)
theorem wds_last {n : Nat} {y : Nat} (h : (wds n).getLast? = some y) : y ≠ 0 := by
  intro e; subst e
  have hs := take_sz (small_wds n)
  rw [val_wds] at hs
  rcases List.eq_nil_or_concat (wds n) with e | ⟨ys, z, e⟩
  · rw [e] at h; simp at h
  · rw [e] at h; simp at h; subst h
    have h1 : sz (wds n) ≤ ys.length := by rw [e, List.concat_eq_append, sz_snoc_zero]; exact sz_le _
    have h2 := congrArg List.length hs
    rw [List.length_take, e] at h2
    rw [e] at h1
    simp at h2; simp at h1; omega
theorem wds_length_le {n k : Nat} (h : n < 4294967296 ^ k) : (wds n).length ≤ k := by
  induction k generalizing n with
  | zero => simp at h; subst h; simp [wds_zero]
  | succ k ih =>
    by_cases h0 : n = 0
    · subst h0; simp [wds_zero]
    · rw [wds_pos h0]; simp only [List.length_cons]
      have : n / 4294967296 < 4294967296 ^ k := by rw [Nat.div_lt_iff_lt_mul (by omega)]; rwa [Nat.pow_succ] at h
      have := ih this; omega
theorem wds_length_gt {n k : Nat} (h : 4294967296 ^ k ≤ n) : k < (wds n).length := by
  have h1 := val_lt (small_wds n)
  rw [val_wds] at h1
  exact (Nat.pow_lt_pow_iff_right (a := 4294967296) (by omega)).1 (Nat.lt_of_le_of_lt h h1)
theorem wds_inj {m n : Nat} (h : wds m = wds n) : m = n := by rw [← val_wds m, h, val_wds]
theorem sz_take_zero {xs : List Nat} {k : Nat} (h : xs[k]? = some 0) : sz (xs.take (k + 1)) = sz (xs.take k) := by
  obtain ⟨hk, e⟩ := List.getElem?_eq_some_iff.1 h
  rw [take_snoc hk, e, sz_snoc_zero]
theorem sz_take_pos {xs : List Nat} {k x : Nat} (h : xs[k]? = some x) (h0 : x ≠ 0) : sz (xs.take (k + 1)) = k + 1 := by
  obtain ⟨hk, e⟩ := List.getElem?_eq_some_iff.1 h
  rw [take_snoc hk, e, sz_snoc h0]; simp; omega

theorem val_take_succ (l : List Nat) (k : Nat) : val (l.take (k + 1)) = val (l.take k) + 4294967296 ^ k * l.getD k 0 := by
  by_cases h : k < l.length
  · rw [take_snoc h, val_snoc, List.length_take, Nat.min_eq_left (by omega), List.getD_eq_getElem?_getD, List.getElem?_eq_getElem h]; rfl
  · rw [List.take_of_length_le (by omega), List.take_of_length_le (by omega), List.getD_eq_getElem?_getD, List.getElem?_eq_none (by omega)]; simp
theorem getD_small {l : List Nat} (h : Small l) (k : Nat) : l.getD k 0 < 4294967296 := by
  rw [List.getD_eq_getElem?_getD]
  by_cases hk : k < l.length
  · rw [List.getElem?_eq_getElem hk]; exact h _ (List.getElem_mem hk)
  · rw [List.getElem?_eq_none (by omega)]; simp
theorem Small.set {l : List Nat} (h : Small l) (k : Nat) {v : Nat} (hv : v < 4294967296) : Small (l.set k v) := fun x hx => by
  rcases List.mem_or_eq_of_mem_set hx with hx | rfl
  · exact h x hx
  · exact hv
def AddInv (xs ys o : List Nat) (n k cy : Nat) : Prop := o.length = n + 1 ∧ Small o ∧ cy ≤ 1 ∧ val (o.take k) + 4294967296 ^ k * cy = val (xs.take k) + val (ys.take k)
theorem AddInv.start (xs ys : List Nat) (n : Nat) : AddInv xs ys (List.replicate (n + 1) 0) n 0 0 :=
  ⟨by simp, (fun x hx => by have := List.eq_of_mem_replicate hx; omega), by omega, by simp [val]⟩
theorem AddInv.step {xs ys o : List Nat} {n k cy x y : Nat} (h : AddInv xs ys o n k cy) (hk : k ≤ n) (hx : xs.getD k 0 = x) (hy : ys.getD k 0 = y) (hx32 : x < 4294967296) (hy32 : y < 4294967296) :
    AddInv xs ys (o.set k ((x + cy + y) % 4294967296)) n (k + 1) ((x + cy + y) / 4294967296) := by
  obtain ⟨h1, h2, h3, h4⟩ := h
  refine ⟨by simpa using h1, h2.set k (by omega), by omega, ?_⟩
  rw [val_take_succ xs, val_take_succ ys, hx, hy, List.take_succ_eq_append_getElem (by simp; omega), val_snoc]
  simp only [List.getElem_set_self, List.length_take, List.take_set_of_le (Nat.le_refl k)]
  rw [Nat.min_eq_left (by omega), Nat.pow_succ, Nat.mul_assoc]
  have e : (x + cy + y) % 4294967296 + 4294967296 * ((x + cy + y) / 4294967296) = x + cy + y := Nat.mod_add_div _ _
  have e2 : val (o.take k) + 4294967296 ^ k * (x + cy + y) = val (xs.take k) + 4294967296 ^ k * x + (val (ys.take k) + 4294967296 ^ k * y) := by
    rw [Nat.mul_add, Nat.mul_add]; omega
  rw [← e2, Nat.add_assoc, ← Nat.mul_add, e]
theorem AddInv.done {xs ys o : List Nat} {n cy : Nat} (h : AddInv xs ys o n n cy) (hx : xs.length ≤ n) (hy : ys.length ≤ n) :
    Small (o.set n cy) ∧ (o.set n cy).length = n + 1 ∧ val (o.set n cy) = val xs + val ys := by
  obtain ⟨h1, h2, h3, h4⟩ := h
  refine ⟨h2.set n (by omega), by simpa using h1, ?_⟩
  rw [List.take_of_length_le hx, List.take_of_length_le hy] at h4
  rw [← h4, ← List.take_of_length_le (l := o.set n cy) (i := n + 1) (by simp; omega), val_take_succ, List.take_set_of_le (Nat.le_refl n)]
  congr 2
  rw [List.getD_eq_getElem?_getD, List.getElem?_set_self (by omega)]; rfl


theorem AddInv.step0 {xs ys o : List Nat} {n k cy x : Nat} (h : AddInv xs ys o n k cy) (hk : k ≤ n) (hx : xs.getD k 0 = x) (hy : ys.length ≤ k) (hx32 : x < 4294967296) :
    AddInv xs ys (o.set k ((x + cy) % 4294967296)) n (k + 1) ((x + cy) / 4294967296) := by
  have := h.step hk hx (y := 0) (by rw [List.getD_eq_getElem?_getD, List.getElem?_eq_none hy]; rfl) hx32 (by omega)
  simpa using this
theorem getD_some {l : List Nat} {k x : Nat} (h : l[k]? = some x) : l.getD k 0 = x := by rw [List.getD_eq_getElem?_getD, h]; rfl


/-- How two numbers stand to each other. -/
def cmpI (a b : Nat) : Int := if a < b then -1 else if b < a then 1 else 0
theorem cmpI_lt {a b : Nat} (h : a < b) : cmpI a b = -1 := by simp [cmpI, h]
theorem cmpI_gt {a b : Nat} (h : b < a) : cmpI a b = 1 := by unfold cmpI; rw [if_neg (by omega), if_pos h]
theorem cmpI_eq (a : Nat) : cmpI a a = 0 := by simp [cmpI]
theorem cmpI_neg {a b : Nat} : cmpI a b < 0 ↔ a < b := by unfold cmpI; split <;> (try split) <;> simp_all
theorem val_take_sz {xs : List Nat} (h : Small xs) : val (xs.take (sz xs)) = val xs := by rw [take_sz h, val_wds]
theorem pow_le_val {xs : List Nat} (h : Small xs) {k : Nat} (hk : k < sz xs) : 4294967296 ^ k ≤ val xs := by
  rcases Nat.lt_or_ge (val xs) (4294967296 ^ k) with hlt | hge
  · have := wds_length_le hlt
    rw [← sz_eq h] at this; omega
  · exact hge
theorem val_lt_sz {xs : List Nat} (h : Small xs) : val xs < 4294967296 ^ sz xs := by
  have := val_lt (h.take (sz xs))
  rw [val_take_sz h, List.length_take, Nat.min_eq_left (sz_le xs)] at this
  exact this
theorem val_lt_of_sz {xs ys : List Nat} (hx : Small xs) (hy : Small ys) (h : sz xs < sz ys) : val xs < val ys :=
  Nat.lt_of_lt_of_le (val_lt_sz hx) (pow_le_val hy h)
theorem val_take_lt {xs : List Nat} (h : Small xs) (k : Nat) : val (xs.take k) < 4294967296 ^ k := by
  have := val_lt (h.take k)
  exact Nat.lt_of_lt_of_le this (Nat.pow_le_pow_right (by omega) (by simp; omega))
theorem cmp_same {xs ys : List Nat} {k x : Nat} (hx : xs.getD k 0 = x) (hy : ys.getD k 0 = x) : cmpI (val (xs.take (k + 1))) (val (ys.take (k + 1))) = cmpI (val (xs.take k)) (val (ys.take k)) := by
  rw [val_take_succ, val_take_succ, hx, hy]; unfold cmpI
  by_cases h1 : val (xs.take k) < val (ys.take k)
  · rw [if_pos h1, if_pos (by omega)]
  · by_cases h2 : val (ys.take k) < val (xs.take k)
    · rw [if_neg h1, if_pos h2, if_neg (by omega), if_pos (by omega)]
    · rw [if_neg h1, if_neg h2, if_neg (by omega), if_neg (by omega)]
theorem cmp_less {xs ys : List Nat} {k x y : Nat} (hs : Small xs) (hx : xs.getD k 0 = x) (hy : ys.getD k 0 = y) (h : x < y) : val (xs.take (k + 1)) < val (ys.take (k + 1)) := by
  rw [val_take_succ, val_take_succ, hx, hy]
  have h1 := val_take_lt hs k
  have h2 : 4294967296 ^ k * (x + 1) ≤ 4294967296 ^ k * y := Nat.mul_le_mul_left _ h
  rw [Nat.mul_add] at h2; omega

/-- How many binary digits a number has. -/
def bitsN (v : Nat) : Nat := if v = 0 then 0 else bitsN (v / 2) + 1
termination_by v
decreasing_by omega
theorem bitsN_zero : bitsN 0 = 0 := by rw [bitsN]; simp
theorem bitsN_pos {v : Nat} (h : v ≠ 0) : bitsN v = bitsN (v / 2) + 1 := by rw [bitsN]; simp [h]
theorem bitsN_le {v k : Nat} : bitsN v ≤ k ↔ v < 2 ^ k := by
  induction k generalizing v with
  | zero =>
    by_cases h : v = 0
    · subst h; simp [bitsN_zero]
    · rw [bitsN_pos h]; simp; omega
  | succ k ih =>
    by_cases h : v = 0
    · subst h; simp [bitsN_zero, Nat.pow_succ]; exact Nat.pos_of_ne_zero (by simp)
    · rw [bitsN_pos h, Nat.pow_succ, Nat.add_le_add_iff_right, ih]; omega
theorem bitsN_shift (k v r : Nat) (hv : v ≠ 0) (hr : r < 2 ^ k) : bitsN (r + 2 ^ k * v) = k + bitsN v := by
  induction k generalizing r with
  | zero => simp at hr; subst hr; simp
  | succ k ih =>
    have hp : 2 ^ (k + 1) * v = 2 * (2 ^ k * v) := by rw [Nat.pow_succ, Nat.mul_comm (2 ^ k) 2, Nat.mul_assoc]
    have hpos : 0 < 2 ^ k * v := Nat.mul_pos (Nat.pow_pos (by omega)) (Nat.pos_of_ne_zero hv)
    rw [hp, bitsN_pos (by omega), show (r + 2 * (2 ^ k * v)) / 2 = r / 2 + 2 ^ k * v by omega, ih _ (by rw [Nat.pow_succ] at hr; omega)]; omega
theorem bitsN_words {xs : List Nat} {k x : Nat} (h : Small xs) (hx : xs.getD k 0 = x) (h0 : x ≠ 0) : bitsN (val (xs.take (k + 1))) = 32 * k + bitsN x := by
  rw [val_take_succ, hx]
  have e : 4294967296 ^ k = 2 ^ (32 * k) := by rw [Nat.pow_mul]
  have := val_take_lt h k
  rw [e] at this ⊢
  exact bitsN_shift _ _ _ h0 this
/-- How often a number can be halved. -/
def halves (v : Nat) : Nat := if v = 0 then 0 else if v % 2 = 0 then halves (v / 2) + 1 else 0
termination_by v
decreasing_by omega
theorem halves_zero : halves 0 = 0 := by rw [halves]; simp
theorem halves_even {v : Nat} (h : v ≠ 0) (h2 : v % 2 = 0) : halves v = halves (v / 2) + 1 := by rw [halves]; simp [h, h2]
theorem halves_odd {v : Nat} (h2 : v % 2 ≠ 0) : halves v = 0 := by rw [halves, if_neg h2]; exact ite_self 0
theorem halves_double (k v : Nat) (hv : v ≠ 0) : halves (2 ^ k * v) = k + halves v := by
  induction k with
  | zero => simp
  | succ k ih =>
    have hp : 2 ^ (k + 1) * v = 2 * (2 ^ k * v) := by rw [Nat.pow_succ, Nat.mul_comm (2 ^ k) 2, Nat.mul_assoc]
    have hpos : 0 < 2 ^ k * v := Nat.mul_pos (Nat.pow_pos (by omega)) (Nat.pos_of_ne_zero hv)
    rw [hp, halves_even (by omega) (by omega), show 2 * (2 ^ k * v) / 2 = 2 ^ k * v by omega, ih]; omega
theorem halves_low {k v u : Nat} (hv : v ≠ 0) (hk : v < 2 ^ k) : halves (v + 2 ^ k * u) = halves v := by
  induction k generalizing v with
  | zero => simp at hk; omega
  | succ k ih =>
    have hp : 2 ^ (k + 1) * u = 2 * (2 ^ k * u) := by rw [Nat.pow_succ, Nat.mul_comm (2 ^ k) 2, Nat.mul_assoc]
    rw [hp]
    by_cases h2 : v % 2 = 0
    · rw [halves_even (by omega) (by omega), halves_even hv h2, show (v + 2 * (2 ^ k * u)) / 2 = v / 2 + 2 ^ k * u by omega, ih (by omega) (by rw [Nat.pow_succ] at hk; omega)]
    · rw [halves_odd (by omega), halves_odd h2]
theorem halves_lt {k v : Nat} (hv : v ≠ 0) (hk : v < 2 ^ k) : halves v < k := by
  induction k generalizing v with
  | zero => simp at hk; omega
  | succ k ih =>
    by_cases h2 : v % 2 = 0
    · rw [halves_even hv h2]; have := ih (v := v / 2) (by omega) (by rw [Nat.pow_succ] at hk; omega); omega
    · rw [halves_odd h2]; omega
theorem pow32 (k : Nat) : 4294967296 ^ k = 2 ^ (32 * k) := by rw [Nat.pow_mul]
theorem halves_low32 {v u : Nat} (hv : v ≠ 0) (hk : v < 4294967296) : halves (v + 4294967296 * u) = halves v := by
  have h := halves_low (k := 32) (u := u) hv (by simpa using hk)
  simpa using h
theorem val_split (xs : List Nat) (k : Nat) : val xs = val (xs.take k) + 4294967296 ^ k * val (xs.drop k) := by
  by_cases hl : k ≤ xs.length
  · conv => lhs; rw [← List.take_append_drop k xs, val_append]
    rw [List.length_take, Nat.min_eq_left hl]
  · rw [List.take_of_length_le (by omega), List.drop_eq_nil_of_le (by omega)]; simp [val]
/-- The list's number where its first k words are 0 and the next is not. -/
theorem halves_words {xs : List Nat} {k x : Nat} (h : Small xs) (hz : val (xs.take k) = 0) (hx : xs.getD k 0 = x) (h0 : x ≠ 0) : halves (val xs) = 32 * k + halves x := by
  have h1 : val xs = val (xs.take (k + 1)) + 4294967296 ^ (k + 1) * val (xs.drop (k + 1)) := val_split xs (k + 1)
  have hx32 : x < 4294967296 := by have := getD_small h k; rwa [hx] at this
  have e1 : val xs = 4294967296 ^ k * (x + 4294967296 * val (xs.drop (k + 1))) := by
    rw [h1, val_take_succ, hz, hx, Nat.zero_add, Nat.pow_succ, Nat.mul_assoc, ← Nat.mul_add]
  rw [e1, pow32 k, halves_double _ _ (Nat.ne_of_gt (Nat.lt_of_lt_of_le (Nat.pos_of_ne_zero h0) (Nat.le_add_right _ _))), halves_low32 h0 hx32]

def SubInv (xs ys o : List Nat) (n k bw : Nat) : Prop := o.length = n ∧ Small o ∧ bw ≤ 1 ∧ val (o.take k) + val (ys.take k) = val (xs.take k) + 4294967296 ^ k * bw
theorem SubInv.start (xs ys : List Nat) (n : Nat) : SubInv xs ys (List.replicate n 0) n 0 0 :=
  ⟨by simp, (fun x hx => by have := List.eq_of_mem_replicate hx; omega), by omega, by simp [val]⟩
theorem SubInv.step {xs ys o : List Nat} {n k bw x y v b' : Nat} (h : SubInv xs ys o n k bw) (hk : k < n) (hx : xs.getD k 0 = x) (hy : ys.getD k 0 = y) (hv : v < 4294967296) (hb' : b' ≤ 1)
    (he : v + y + bw = x + 4294967296 * b') : SubInv xs ys (o.set k v) n (k + 1) b' := by
  obtain ⟨h1, h2, h3, h4⟩ := h
  refine ⟨by simpa using h1, h2.set k hv, hb', ?_⟩
  rw [val_take_succ xs, val_take_succ ys, hx, hy, List.take_succ_eq_append_getElem (by simp; omega), val_snoc]
  simp only [List.getElem_set_self, List.length_take, List.take_set_of_le (Nat.le_refl k)]
  rw [Nat.min_eq_left (by omega), Nat.pow_succ, Nat.mul_assoc]
  have e2 : 4294967296 ^ k * (v + y + bw) = 4294967296 ^ k * (x + 4294967296 * b') := by rw [he]
  rw [Nat.mul_add, Nat.mul_add, Nat.mul_add] at e2
  omega
theorem val_take_of_lt {xs : List Nat} {k : Nat} (h : val xs < 4294967296 ^ k) : val (xs.take k) = val xs := by
  have := val_split xs k
  rcases Nat.eq_zero_or_pos (val (xs.drop k)) with h0 | h0
  · rw [h0] at this; omega
  · have : 4294967296 ^ k * 1 ≤ 4294967296 ^ k * val (xs.drop k) := Nat.mul_le_mul_left _ h0
    omega
theorem SubInv.done {xs ys o : List Nat} {bw : Nat} (hsx : Small xs) (h : SubInv xs ys o (sz xs) (sz xs) bw) (hle : val ys ≤ val xs) : val o = val xs - val ys := by
  obtain ⟨h1, h2, h3, h4⟩ := h
  have hlt := val_lt_sz hsx
  rw [List.take_of_length_le (by omega), val_take_sz hsx, val_take_of_lt (Nat.lt_of_le_of_lt hle hlt)] at h4
  have ho := val_lt h2
  rw [h1] at ho
  rcases (show bw = 0 ∨ bw = 1 by omega) with rfl | rfl <;> omega
end Go.Proofs.Ytdhlcbhpjejljaa
