/-
  The plain law of AggOrders: what three cells come to hangs on no order. No program in sight.
-/
import Derived.Test.YtdhlcbhpjejljaaSameCL
namespace Go.Proofs.Ytdhlcbhpjejljaa
open Go.RowKit

def sgn (ng : Bool) (v : Nat) : Int := if ng then -(v : Int) else v
theorem putF_sgn {neg neg' ng : Bool} {x y v : Nat} (h : putF neg x neg' y = some (ng, v)) : sgn ng v = sgn neg x + sgn neg' y := by
  unfold putF at h
  split at h
  · split at h
    · cases h
    · injection h with h; injection h with h1 h2; subst h1 h2; rename_i e _; subst e; unfold sgn; split <;> omega
  · rename_i hne
    split at h
    · injection h with h; injection h with h1 h2
      subst h2
      split at h1
      · rename_i e; subst h1; unfold sgn; cases neg <;> cases neg' <;> simp at hne ⊢ <;> omega
      · subst h1; unfold sgn; cases neg <;> cases neg' <;> simp at hne ⊢ <;> omega
    · injection h with h; injection h with h1 h2; subst h1 h2; unfold sgn; cases neg <;> cases neg' <;> simp at hne ⊢ <;> omega
theorem putF_canon {neg neg' ng : Bool} {x y v : Nat} (h : putF neg x neg' y = some (ng, v)) (hx : neg = true → x ≠ 0) : ng = true → v ≠ 0 := by
  unfold putF at h
  split at h
  · split at h
    · cases h
    · injection h with h; injection h with h1 h2; subst h1 h2; intro e; have := hx e; omega
  · split at h
    · injection h with h; injection h with h1 h2
      subst h2
      split at h1
      · subst h1; intro e; cases e
      · intro _; assumption
    · injection h with h; injection h with h1 h2; subst h1 h2; intro _; omega
theorem sgn_inj {a b : Bool} {x y : Nat} (hx : a = true → x ≠ 0) (hy : b = true → y ≠ 0) (h : sgn a x = sgn b y) : a = b ∧ x = y := by
  unfold sgn at h
  cases a <;> cases b <;> simp at h hx hy ⊢ <;> omega

theorem val_ne_of {xs : List Nat} {k x : Nat} (h : xs[k]? = some x) (h0 : x ≠ 0) : val xs ≠ 0 := by
  induction xs generalizing k with
  | nil => simp at h
  | cons y ys ih =>
    rw [val_cons]
    cases k with
    | zero => simp at h; subst h; omega
    | succ k => have := ih (k := k) (by simpa using h); omega
theorem read_parts {b : List Nat} (h : readErr b = 0) : headF b = 0 ∧ 3 ≤ b.length ∧ rdErr b (b.getD 2 0) 0 = 0 := by
  unfold readErr at h
  split at h
  · exact absurd h (by assumption)
  · rename_i h1
    split at h
    · cases h
    · split at h
      · exact absurd h (by assumption)
      · rename_i h2 h3; exact ⟨by omega, by omega, by omega⟩
theorem head_parts {b : List Nat} (h : headF b = 0) (h3 : 3 ≤ b.length) : b.getD 1 0 + b.getD 2 0 ≤ 70 ∧ (b.getD 2 0 = 0 → b.getD 0 0 / 32 % 2 ≠ 1) ∧ b.getD 0 0 < 64 := by
  unfold headF at h
  split at h
  · cases h
  · rename_i e1
    split at h
    · cases h
    · split at h
      · cases h
      · rename_i e2 e3
        have e1' := of_decide_eq_false (Bool.not_eq_true _ ▸ e1)
        have e3' := of_decide_eq_false (Bool.not_eq_true _ ▸ e3)
        refine ⟨?_, ?_, ?_⟩
        · apply Classical.byContradiction; intro hc; exact e3' ⟨by omega, Or.inl (by omega)⟩
        · intro h0 hc; exact e3' ⟨by omega, Or.inr (Or.inr ⟨h0, Or.inr hc⟩)⟩
        · apply Classical.byContradiction; intro hc; exact e1' ⟨by omega, Or.inl (by omega)⟩
theorem rd_first {b : List Nat} {n : Nat} (h : rdErr b n 0 = 0) (hn : 0 < n) : be b 0 ≠ 0 := by
  rw [rdErr, if_pos hn] at h
  split at h
  · cases h
  · split at h
    · cases h
    · rename_i h1; intro e; exact h1 ⟨Or.inl rfl, e⟩
theorem read_canon {b : List Nat} (h : readErr b = 0) : decide (b.getD 0 0 / 32 % 2 = 1) = true → val (magF b) ≠ 0 := by
  intro hs
  have hs' := of_decide_eq_true hs
  obtain ⟨h1, h2, h3⟩ := read_parts h
  obtain ⟨_, h5, _⟩ := head_parts h1 h2
  have hn : 0 < b.getD 2 0 := by
    rcases Nat.eq_zero_or_pos (b.getD 2 0) with e | e
    · exact absurd hs' (h5 e)
    · exact e
  refine val_ne_of (k := b.getD 1 0 + b.getD 2 0 - 1) (x := be b 0) ?_ (rd_first h3 hn)
  unfold magF mg
  rw [List.getElem?_map, List.getElem?_range (by omega)]
  simp only [Option.map_some]
  rw [if_pos (by omega), show b.getD 1 0 + b.getD 2 0 - 1 - (b.getD 1 0 + b.getD 2 0 - 1) = 0 by omega]
theorem mag_len70 {b : List Nat} (h : readErr b = 0) : (magF b).length ≤ 70 := by
  obtain ⟨h1, h2, _⟩ := read_parts h
  unfold magF; rw [mg_length]; exact (head_parts h1 h2).1

theorem getD_left (l m : List Nat) {k : Nat} (h : k < l.length) : (l ++ m).getD k 0 = l.getD k 0 := by
  simp only [List.getD_eq_getElem?_getD]; rw [List.getElem?_append_left h]
theorem getD_right (l m : List Nat) {k : Nat} (h : l.length ≤ k) : (l ++ m).getD k 0 = m.getD (k - l.length) 0 := by
  simp only [List.getD_eq_getElem?_getD]; rw [List.getElem?_append_right h]
theorem wb_len (x : Nat) : (wbytes x).length = 4 := rfl
theorem downB_get {xs : List Nat} {low : Nat} : ∀ {m i k : Nat}, i + low < m → k < 4 → (downB xs low m).getD (4 * i + k) 0 = (wbytes (xs.getD (m - 1 - i) 0)).getD k 0
  | 0, i, k, h, _ => by omega
  | m + 1, 0, k, h, hk => by
    rw [downB, if_neg (by omega), getD_left _ _ (by rw [wb_len]; omega)]
    simp
  | m + 1, i + 1, k, h, hk => by
    rw [downB, if_neg (by omega), getD_right _ _ (by rw [wb_len]; omega), wb_len, show 4 * (i + 1) + k - 4 = 4 * i + k by omega, downB_get (by omega) hk, show m + 1 - 1 - (i + 1) = m - 1 - i by omega]
theorem be_bytes {ca : Nat} {ng : Bool} {xs : List Nat} (hs : Small xs) {i : Nat} (hi : i + lowF xs < xs.length) : be (bytesF ca ng xs) i = xs.getD (xs.length - 1 - i) 0 := by
  have hg : ∀ k, k < 4 → (bytesF ca ng xs).getD (3 + 4 * i + k) 0 = (wbytes (xs.getD (xs.length - 1 - i) 0)).getD k 0 := fun k hk => by
    unfold bytesF
    rw [getD_right _ _ (by simp [hdrF]; omega), show 3 + 4 * i + k - (hdrF ca ng xs).length = 4 * i + k by simp [hdrF]; omega, downB_get hi hk]
  have hx := getD_small hs (xs.length - 1 - i)
  generalize xs.getD (xs.length - 1 - i) 0 = x at hg hx ⊢
  simp only [be, bePart]
  rw [hg 0 (by omega), hg 1 (by omega), hg 2 (by omega), hg 3 (by omega)]
  simp [wbytes]; omega
theorem halves_dvd {v : Nat} : 2 ^ halves v ∣ v := by
  induction v using Nat.strongRecOn with
  | _ v ih =>
    by_cases h0 : v = 0
    · subst h0; exact Nat.dvd_zero _
    · by_cases h2 : v % 2 = 0
      · rw [halves_even h0 h2, Nat.pow_succ]
        obtain ⟨u, hu⟩ := ih (v / 2) (by omega)
        refine ⟨u, ?_⟩
        have : v = 2 * (v / 2) := by omega
        rw [Nat.mul_assoc, Nat.mul_comm 2 u, ← Nat.mul_assoc, ← hu]; omega
      · rw [halves_odd h2]; simp
theorem val_take_low {xs : List Nat} (hs : Small xs) : val (xs.take (lowF xs)) = 0 := by
  have hd : 4294967296 ^ lowF xs ∣ val xs := by
    rw [pow32]
    refine Nat.dvd_trans (Nat.pow_dvd_pow 2 ?_) halves_dvd
    unfold lowF; omega
  have h1 := val_split xs (lowF xs)
  have h2 := val_take_lt hs (lowF xs)
  have h3 : 4294967296 ^ lowF xs ∣ val (xs.take (lowF xs)) := by
    rw [h1] at hd
    exact (Nat.dvd_add_left (Nat.dvd_mul_right _ _)).1 hd
  exact Nat.eq_zero_of_dvd_of_lt h3 h2
theorem low_zero {xs : List Nat} (hs : Small xs) {j : Nat} (h : j < lowF xs) : xs.getD j 0 = 0 := by
  apply Classical.byContradiction
  intro hne
  by_cases hj : j < xs.length
  · refine val_ne_of (xs := xs.take (lowF xs)) (k := j) (x := xs[j]) ?_ ?_ (val_take_low hs)
    · rw [List.getElem?_take, if_pos h, List.getElem?_eq_getElem hj]
    · rw [List.getD_eq_getElem?_getD, List.getElem?_eq_getElem hj] at hne; exact hne
  · rw [List.getD_eq_getElem?_getD, List.getElem?_eq_none (by omega)] at hne; exact hne rfl
theorem bytes_head {ca : Nat} {ng : Bool} {xs : List Nat} : (bytesF ca ng xs).getD 0 0 = (if ng then ca ||| 32 else ca) ∧ (bytesF ca ng xs).getD 1 0 = lowF xs % 256 ∧ (bytesF ca ng xs).getD 2 0 = (xs.length - lowF xs) % 256 := ⟨rfl, rfl, rfl⟩
theorem mag_bytes {ca : Nat} {ng : Bool} {xs : List Nat} (hs : Small xs) (hl : xs.length < 256) : magF (bytesF ca ng xs) = xs := by
  have hlow := lowF_le xs hs
  unfold magF
  rw [bytes_head.2.1, bytes_head.2.2, Nat.mod_eq_of_lt (by omega), Nat.mod_eq_of_lt (by omega), show lowF xs + (xs.length - lowF xs) = xs.length by omega]
  apply List.ext_getElem
  · rw [mg_length]
  · intro j h1 h2
    have hx : xs[j] = xs.getD j 0 := by rw [List.getD_eq_getElem?_getD, List.getElem?_eq_getElem h2]; rfl
    simp only [mg, List.getElem_map, List.getElem_range]
    split
    · rw [be_bytes hs (by omega), hx, show xs.length - 1 - (xs.length - 1 - j) = j by omega]
    · rw [hx, low_zero hs (by omega)]
theorem flag_tab : ∀ ca, ca < 32 → (ca ||| 32) % 32 = ca ∧ (ca ||| 32) / 32 % 2 = 1 ∧ ca % 32 = ca ∧ ca / 32 % 2 = 0 := by decide
theorem bytes_flags {ca : Nat} {ng : Bool} {xs : List Nat} (hc : ca < 32) : (bytesF ca ng xs).getD 0 0 % 32 = ca ∧ decide ((bytesF ca ng xs).getD 0 0 / 32 % 2 = 1) = ng := by
  obtain ⟨h1, h2, h3, h4⟩ := flag_tab ca hc
  rw [bytes_head.1]
  cases ng <;> simp [h1, h2, h3, h4]
theorem realsF_inr {a b s : List Nat} (h : realsF a b = .inr s) : readErr a = 0 ∧ readErr b = 0 ∧ ∃ ng v, putF (decide (a.getD 0 0 / 32 % 2 = 1)) (val (magF a)) (decide (b.getD 0 0 / 32 % 2 = 1)) (val (magF b)) = some (ng, v) ∧ s = bytesF (a.getD 0 0 % 32 ||| b.getD 0 0 % 32) ng (wds v) := by
  unfold realsF at h
  split at h
  · cases h
  · rename_i h0
    have h1 : readErr a = 0 := Classical.byContradiction fun e => h0 (Or.inl e)
    have h2 : readErr b = 0 := Classical.byContradiction fun e => h0 (Or.inr e)
    split at h
    · cases h
    · rename_i ng v hp
      injection h with h
      exact ⟨h1, h2, ng, v, hp, h.symm⟩
theorem or32 (x y : Nat) : x % 32 ||| y % 32 < 32 := Nat.or_lt_two_pow (n := 5) (Nat.mod_lt _ (by omega)) (Nat.mod_lt _ (by omega))
theorem small_magF {b : List Nat} (hb : Bytey b) : Small (magF b) := small_mg hb _ _
/-- What stands in the bytes of two sums together. -/
theorem realsF_read {a b s : List Nat} (ha : Bytey a) (hb : Bytey b) (h : realsF a b = .inr s) :
    readErr a = 0 ∧ readErr b = 0 ∧ s.getD 0 0 % 32 = (a.getD 0 0 % 32 ||| b.getD 0 0 % 32) ∧
    (decide (s.getD 0 0 / 32 % 2 = 1) = true → val (magF s) ≠ 0) ∧
    sgn (decide (s.getD 0 0 / 32 % 2 = 1)) (val (magF s)) = sgn (decide (a.getD 0 0 / 32 % 2 = 1)) (val (magF a)) + sgn (decide (b.getD 0 0 / 32 % 2 = 1)) (val (magF b)) ∧
    s = bytesF (s.getD 0 0 % 32) (decide (s.getD 0 0 / 32 % 2 = 1)) (wds (val (magF s))) := by
  obtain ⟨h1, h2, ng, v, hp, hs⟩ := realsF_inr h
  have hc := or32 (a.getD 0 0) (b.getD 0 0)
  have hl := wds_len_le (putF_le hp) (small_magF ha) (small_magF hb) (mag_len70 h1) (mag_len70 h2)
  have hm : magF s = wds v := by rw [hs]; exact mag_bytes (small_wds v) (by omega)
  have hv : val (magF s) = v := by rw [hm, val_wds]
  obtain ⟨f1, f2⟩ := bytes_flags (ca := a.getD 0 0 % 32 ||| b.getD 0 0 % 32) (ng := ng) (xs := wds v) hc
  rw [← hs] at f1 f2
  refine ⟨h1, h2, f1, ?_, ?_, ?_⟩
  · rw [f2, hv]; exact putF_canon hp (read_canon h1)
  · rw [f2, hv]; exact putF_sgn hp
  · rw [f1, f2, hv]; exact hs
theorem bytey_realsF {a b s : List Nat} (h : realsF a b = .inr s) : Bytey s := by
  obtain ⟨_, _, ng, v, _, rfl⟩ := realsF_inr h
  unfold bytesF
  refine Bytey.append (hdr_bytey (Nat.lt_of_lt_of_le (or32 _ _) (by omega)) _ _) ?_
  intro y hy
  have : ∀ m, y ∈ downB (wds v) (lowF (wds v)) m → y < 256 := fun m => by
    induction m with
    | zero => intro h; simp [downB] at h
    | succ m ih =>
      intro h
      rw [downB] at h
      split at h
      · cases h
      · rcases List.mem_append.1 h with h | h
        · have hx := getD_small (small_wds v) m
          simp only [wbytes, List.mem_cons, List.not_mem_nil, or_false] at h
          rcases h with rfl | rfl | rfl | rfl <;> omega
        · exact ih h
  exact this _ hy
theorem realsF_assoc {a b c s t p q : List Nat} (ha : Bytey a) (hb : Bytey b) (hc : Bytey c) (h1 : realsF a b = .inr s) (h2 : realsF b c = .inr t) (h3 : realsF s c = .inr p) (h4 : realsF a t = .inr q) : p = q := by
  obtain ⟨-, -, s0, -, s2, -⟩ := realsF_read ha hb h1
  obtain ⟨-, -, t0, -, t2, -⟩ := realsF_read hb hc h2
  obtain ⟨-, -, p0, p1, p2, p3⟩ := realsF_read (bytey_realsF h1) hc h3
  obtain ⟨-, -, q0, q1, q2, q3⟩ := realsF_read ha (bytey_realsF h2) h4
  rw [s2, Int.add_assoc, ← t2, ← q2] at p2
  obtain ⟨e1, e2⟩ := sgn_inj p1 q1 p2
  rw [p3, q3, e1, e2, p0, q0, s0, t0, Nat.or_assoc]

theorem wadd_val {a b : Int} (h : (waddF a b).2 = true) : (waddF a b).1 = a + b := by
  unfold waddF at h ⊢; split <;> simp_all
theorem wholesP_some {a b p : PW} (h : wholesP a b = some p) : p = ⟨a.sum + b.sum, a.abs + b.abs, wds (val a.sq + val b.sq), min a.mn b.mn, max a.mx b.mx⟩ := by
  unfold wholesP at h
  split at h
  · rename_i hc
    injection h with h
    rw [← h, wadd_val hc.1, wadd_val hc.2]
  · cases h
theorem wholesP_assoc {a b c s t p q : PW} (h1 : wholesP a b = some s) (h2 : wholesP b c = some t) (h3 : wholesP s c = some p) (h4 : wholesP a t = some q) : p = q := by
  rw [wholesP_some h3, wholesP_some h4, wholesP_some h1, wholesP_some h2]
  simp only [val_wds]
  rw [Int.add_assoc, Int.add_assoc, Nat.add_assoc, Int.min_assoc, Int.max_assoc]
theorem fkey_least (a b : Nat) : fkey (leastF a b) = min (fkey a) (fkey b) := by unfold leastF; split <;> omega
theorem fkey_most (a b : Nat) : fkey (mostF a b) = max (fkey a) (fkey b) := by unfold mostF; split <;> omega
theorem nan_top : nanB 9223372036854775807 = true := by decide
theorem fkey_full {b : Nat} (h : fkey b = 18446744073709551615) : nanB b = true := by
  cases hn : nanB b with
  | true => rfl
  | false =>
    unfold fkey at h; rw [if_neg (by rw [hn]; simp)] at h
    split at h
    · omega
    · have : b = 9223372036854775807 := by omega
      rw [this, nan_top] at hn; cases hn
theorem same3_key {a b : Nat} (ha : W64 a) (hb : W64 b) (h : fkey a = fkey b) : same3F a b = true := by
  cases hna : nanB a with
  | true =>
    have : fkey a = 18446744073709551615 := by unfold fkey; rw [if_pos hna]
    have hnb := fkey_full (by rw [← h, this])
    unfold same3F; rw [hna, hnb]; rfl
  | false =>
    have hnb : nanB b = false := by
      cases hnb : nanB b with
      | false => rfl
      | true =>
        have : fkey b = 18446744073709551615 := by unfold fkey; rw [if_pos hnb]
        rw [fkey_full (by rw [h, this])] at hna; cases hna
    have e : a = b := by
      unfold fkey at h; simp only [hna, hnb, Bool.false_eq_true, if_false] at h
      unfold W64 at ha hb
      split at h <;> split at h <;> omega
    subst e
    unfold same3F; rw [hna]
    have ho : (FloatKind.f64.format.order a a == some Ordering.eq) = true := by
      unfold nanB at hna; simpa using hna
    simp [ho]
theorem w64_least {a b : Nat} (ha : W64 a) (hb : W64 b) : W64 (leastF a b) := by unfold leastF; split <;> assumption
theorem w64_most {a b : Nat} (ha : W64 a) (hb : W64 b) : W64 (mostF a b) := by unfold mostF; split <;> assumption
/-- A real measure as plain data is one. -/
def PR.ok (a : PR) : Prop := Bytey a.sum ∧ W64 a.mn ∧ W64 a.mx
theorem realsP_inr {a b p : PR} (h : realsP a b = .inr p) : ∃ s, realsF a.sum b.sum = .inr s ∧ p = ⟨s, leastF a.mn b.mn, mostF a.mx b.mx⟩ := by
  unfold realsP at h
  split at h
  · cases h
  · rename_i s hs; injection h with h; exact ⟨s, hs, h.symm⟩
theorem realsP_assoc {a b c s t p q : PR} (ha : a.ok) (hb : b.ok) (hc : c.ok) (h1 : realsP a b = .inr s) (h2 : realsP b c = .inr t) (h3 : realsP s c = .inr p) (h4 : realsP a t = .inr q) : sameR p q = true := by
  obtain ⟨s', e1, rfl⟩ := realsP_inr h1
  obtain ⟨t', e2, rfl⟩ := realsP_inr h2
  obtain ⟨p', e3, rfl⟩ := realsP_inr h3
  obtain ⟨q', e4, rfl⟩ := realsP_inr h4
  dsimp only at *
  have := realsF_assoc ha.1 hb.1 hc.1 e1 e2 e3 e4
  subst this
  unfold sameR; dsimp only
  rw [same3_key (w64_least (w64_least ha.2.1 hb.2.1) hc.2.1) (w64_least ha.2.1 (w64_least hb.2.1 hc.2.1)) (by simp only [fkey_least]; omega),
    same3_key (w64_most (w64_most ha.2.2 hb.2.2) hc.2.2) (w64_most ha.2.2 (w64_most hb.2.2 hc.2.2)) (by simp only [fkey_most]; omega)]
  simp
theorem sameW_refl (a : PW) : sameW a a = true := by simp [sameW]
theorem joinI_cons {a b : PW} {l m r : List PW} (h : joinI (a :: l) (b :: m) = some r) : ∃ p r', wholesP a b = some p ∧ joinI l m = some r' ∧ r = p :: r' := by
  unfold joinI at h
  split at h
  · cases h
  · rename_i p hp
    cases hj : joinI l m with
    | none => rw [hj] at h; cases h
    | some r' => rw [hj] at h; injection h with h; exact ⟨p, r', hp, rfl, h.symm⟩
theorem joinI_len : ∀ {l m r : List PW}, l.length = m.length → joinI l m = some r → r.length = l.length
  | [], [], r, _, h => by simp [joinI] at h; subst h; rfl
  | [], _ :: _, _, h, _ => by simp at h
  | _ :: _, [], _, h, _ => by simp at h
  | a :: l, b :: m, r, h, hj => by
    obtain ⟨p, r', _, h2, rfl⟩ := joinI_cons hj
    simp at h ⊢; exact joinI_len h h2
theorem joinI_assoc : ∀ {a b c s t p q : List PW}, a.length = b.length → b.length = c.length → joinI a b = some s → joinI b c = some t → joinI s c = some p → joinI a t = some q → p = q
  | [], [], [], s, t, p, q, _, _, h1, h2, h3, h4 => by
    simp [joinI] at h1 h2; subst h1 h2; simp [joinI] at h3 h4; rw [h3, h4]
  | x :: a, y :: b, z :: c, s, t, p, q, l1, l2, h1, h2, h3, h4 => by
    obtain ⟨s0, s', e1, e2, rfl⟩ := joinI_cons h1
    obtain ⟨t0, t', f1, f2, rfl⟩ := joinI_cons h2
    obtain ⟨p0, p', g1, g2, rfl⟩ := joinI_cons h3
    obtain ⟨q0, q', k1, k2, rfl⟩ := joinI_cons h4
    rw [wholesP_assoc e1 f1 g1 k1, joinI_assoc (by simpa using l1) (by simpa using l2) e2 f2 g2 k2]
  | [], _ :: _, _, _, _, _, _, l1, _, _, _, _, _ => by simp at l1
  | _ :: _, [], _, _, _, _, _, l1, _, _, _, _, _ => by simp at l1
  | [], [], _ :: _, _, _, _, _, _, l2, _, _, _, _ => by simp at l2
  | _ :: _, _ :: _, [], _, _, _, _, _, l2, _, _, _, _ => by simp at l2
theorem allW_refl : ∀ (l : List PW), allTwo sameW l l = true
  | [] => rfl
  | x :: l => by rw [allTwo, sameW_refl, allW_refl]; rfl
theorem joinR_cons {a b : PR} {l m r : List PR} (h : joinR (a :: l) (b :: m) = .inr r) : ∃ p r', realsP a b = .inr p ∧ joinR l m = .inr r' ∧ r = p :: r' := by
  unfold joinR at h
  split at h
  · cases h
  · rename_i p hp
    split at h
    · cases h
    · rename_i r' hj; injection h with h; exact ⟨p, r', hp, hj, h.symm⟩
theorem joinR_len : ∀ {l m r : List PR}, l.length = m.length → joinR l m = .inr r → r.length = l.length
  | [], [], r, _, h => by simp [joinR] at h; subst h; rfl
  | [], _ :: _, _, h, _ => by simp at h
  | _ :: _, [], _, h, _ => by simp at h
  | a :: l, b :: m, r, h, hj => by
    obtain ⟨p, r', _, h2, rfl⟩ := joinR_cons hj
    simp at h ⊢; exact joinR_len h h2
theorem joinR_assoc : ∀ {a b c s t p q : List PR}, (∀ x ∈ a, x.ok) → (∀ x ∈ b, x.ok) → (∀ x ∈ c, x.ok) → a.length = b.length → b.length = c.length → joinR a b = .inr s → joinR b c = .inr t → joinR s c = .inr p → joinR a t = .inr q → allTwo sameR p q = true
  | [], [], [], s, t, p, q, _, _, _, _, _, h1, h2, h3, h4 => by
    simp [joinR] at h1 h2; subst h1 h2; simp [joinR] at h3 h4; rw [h3, h4]; rfl
  | x :: a, y :: b, z :: c, s, t, p, q, o1, o2, o3, l1, l2, h1, h2, h3, h4 => by
    obtain ⟨s0, s', e1, e2, rfl⟩ := joinR_cons h1
    obtain ⟨t0, t', f1, f2, rfl⟩ := joinR_cons h2
    obtain ⟨p0, p', g1, g2, rfl⟩ := joinR_cons h3
    obtain ⟨q0, q', k1, k2, rfl⟩ := joinR_cons h4
    rw [allTwo, realsP_assoc (o1 _ List.mem_cons_self) (o2 _ List.mem_cons_self) (o3 _ List.mem_cons_self) e1 f1 g1 k1,
      joinR_assoc (fun u hu => o1 u (List.mem_cons_of_mem _ hu)) (fun u hu => o2 u (List.mem_cons_of_mem _ hu)) (fun u hu => o3 u (List.mem_cons_of_mem _ hu)) (by simpa using l1) (by simpa using l2) e2 f2 g2 k2]; rfl
  | [], _ :: _, _, _, _, _, _, _, _, _, l1, _, _, _, _, _ => by simp at l1
  | _ :: _, [], _, _, _, _, _, _, _, _, l1, _, _, _, _, _ => by simp at l1
  | [], [], _ :: _, _, _, _, _, _, _, _, _, l2, _, _, _, _ => by simp at l2
  | _ :: _, _ :: _, [], _, _, _, _, _, _, _, _, l2, _, _, _, _ => by simp at l2
theorem joinF_inr {a b p : PC} (h : joinF a b = .inr p) : a.key = b.key ∧ a.ints.length = b.ints.length ∧ a.nums.length = b.nums.length ∧ (waddF a.count b.count).2 = true ∧ ∃ i r, joinI a.ints b.ints = some i ∧ joinR a.nums b.nums = .inr r ∧ p = ⟨a.key, (waddF a.count b.count).1, i, r⟩ := by
  unfold joinF at h
  split at h
  · cases h
  · rename_i h0
    split at h
    · cases h
    · rename_i h1
      split at h
      · cases h
      · rename_i i hi
        split at h
        · cases h
        · rename_i r hr
          injection h with h
          refine ⟨Classical.byContradiction fun e => h0 (Or.inl e), Classical.byContradiction fun e => h0 (Or.inr (Or.inl e)), Classical.byContradiction fun e => h0 (Or.inr (Or.inr e)), by simpa using h1, i, r, hi, hr, h.symm⟩
def PC.ok (a : PC) : Prop := ∀ x ∈ a.nums, x.ok
/-- THE LAW: any three cells, joined in two ways, come to the same. -/
theorem joinF_assoc {a b c s t p q : PC} (ha : a.ok) (hb : b.ok) (hc : c.ok) (h1 : joinF a b = .inr s) (h2 : joinF b c = .inr t) (h3 : joinF s c = .inr p) (h4 : joinF a t = .inr q) : sameCF p q = true := by
  obtain ⟨k1, l1, m1, c1, i1, r1, j1, n1, rfl⟩ := joinF_inr h1
  obtain ⟨k2, l2, m2, c2, i2, r2, j2, n2, rfl⟩ := joinF_inr h2
  obtain ⟨k3, l3, m3, c3, i3, r3, j3, n3, rfl⟩ := joinF_inr h3
  obtain ⟨k4, l4, m4, c4, i4, r4, j4, n4, rfl⟩ := joinF_inr h4
  dsimp only at *
  have e1 := joinI_assoc l1 l2 j1 j2 j3 j4
  subst e1
  have e2 := joinR_assoc ha hb hc m1 m2 n1 n2 n3 n4
  unfold sameCF; dsimp only
  rw [e2, allW_refl, wadd_val c3, wadd_val c4, wadd_val c1, wadd_val c2, Int.add_assoc]
  simp
theorem LC.ok.pure {w : World} {a : LC} (h : a.ok w) : a.pure.ok := fun x hx => by
  obtain ⟨y, hy, rfl⟩ := List.mem_map.1 hx
  have := h.2.2.2.1.2.2.2.2 y hy
  exact ⟨this.1.small, this.2.1, this.2.2.1⟩
end Go.Proofs.Ytdhlcbhpjejljaa
