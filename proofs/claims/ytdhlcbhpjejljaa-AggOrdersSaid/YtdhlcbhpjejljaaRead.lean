import Derived.Test.YtdhlcbhpjejljaaHead
import Derived.Test.YtdhlcbhpjejljaaNat
namespace Go.Proofs.Ytdhlcbhpjejljaa
open Go.RowKit

def bePart (b : List Nat) (i : Nat) : Nat → Nat
  | 0 => 0
  | k + 1 => bePart b i k * 256 + b.getD (3 + 4 * i + k) 0
def be (b : List Nat) (i : Nat) : Nat := bePart b i 4
def mg (b : List Nat) (t i : Nat) : List Nat := (List.range t).map fun j => if t ≤ j + i then be b (t - 1 - j) else 0
/-- The fault of the words from the i-th on. -/
def rdErr (b : List Nat) (n i : Nat) : Nat :=
  if i < n then if b.length < 7 + 4 * i then 5 else if (i = 0 ∨ i + 1 = n) ∧ be b i = 0 then 6 else rdErr b n (i + 1) else 0
termination_by n - i
decreasing_by omega
def readErr (b : List Nat) : Nat :=
  if headF b ≠ 0 then headF b else if b.length < 3 then 5 else if rdErr b (b.getD 2 0) 0 ≠ 0 then rdErr b (b.getD 2 0) 0 else if 3 + 4 * b.getD 2 0 < b.length then 7 else 0
def magF (b : List Nat) : List Nat := mg b (b.getD 1 0 + b.getD 2 0) (b.getD 2 0)
def ReadPost (b : List Nat) (w : World) (e : Ending) (w' : World) : Prop :=
  Below w.heap.size w w' ∧ ((readErr b ≠ 0 ∧ e = .returned (.tuple #[.pointer none, .int .i64 (readErr b)])) ∨
    (readErr b = 0 ∧ ∃ g A n c, e = .returned (.tuple #[.pointer (some ⟨g, 0, none⟩), .int .i64 0]) ∧ w.heap.size ≤ g ∧
      Own w' g 145 [.bool true, .int .u8 ((b.getD 0 0 % 32 : Nat) : Int), .bool (decide (b.getD 0 0 / 32 % 2 = 1)), .slice A n c] ∧ Words w' A n c (magF b)))

theorem readErr_short {b : List Nat} (hh : headF b = 0) (h3 : b.length < 3) : readErr b = 5 := by simp [readErr, hh, h3]
theorem mg_zero (b : List Nat) (t : Nat) : mg b t 0 = List.replicate t 0 := by
  unfold mg
  apply List.ext_getElem (by simp)
  intro j h1 h2
  simp at h1
  simp; omega
theorem bePart_lt {b : List Nat} (hb : Bytey b) (i k : Nat) : bePart b i k < 256 ^ k := by
  induction k with
  | zero => simp [bePart]
  | succ k ih =>
    have : b.getD (3 + 4 * i + k) 0 < 256 := by
      rw [List.getD_eq_getElem?_getD]
      by_cases h : 3 + 4 * i + k < b.length
      · rw [List.getElem?_eq_getElem h]; exact hb _ (List.getElem_mem h)
      · rw [List.getElem?_eq_none (by omega)]; simp
    simp only [bePart, Nat.pow_succ]; omega
theorem bePart_24 {b : List Nat} (hb : Bytey b) (i : Nat) {k : Nat} (hk : k < 4) : bePart b i k < 16777216 :=
  Nat.lt_of_lt_of_le (bePart_lt hb i k) (by rw [show (16777216 : Nat) = 256 ^ 3 by rfl]; exact Nat.pow_le_pow_right (by omega) (by omega))
theorem be_lt {b : List Nat} (hb : Bytey b) (i : Nat) : be b i < 4294967296 := bePart_lt hb i 4
theorem or_shift {x y : Nat} (hx : x < 16777216) (hy : y < 256) : bits .or .u32 ((x : Int) * 256 % 4294967296) (y : Int) = ((x * 256 + y : Nat) : Int) := by
  rw [show (x : Int) * 256 % 4294967296 = ((x * 256 : Nat) : Int) by omega, u32_or_nat _ _ (by omega) (by omega), nat_join 8 _ _ (by omega) (by omega)]
theorem andNot32 : ∀ x, x < 64 → x &&& (255 - 32) = x % 32 := by decide
theorem andNot_b0 {x : Nat} (h : x < 64) : bits .andNot .u8 (x : Int) 32 = ((x % 32 : Nat) : Int) := by
  rw [show (32 : Int) = ((32 : Nat) : Int) from rfl, u8_andNot_nat x 32 (by omega) (by omega), andNot32 x h]
theorem and32_b {x : Nat} (h : x < 256) : (bits BinOp.and IntKind.u8 (x : Int) 32 != 0) = decide (x / 32 % 2 = 1) := by
  rcases Nat.mod_two_eq_zero_or_one (x / 32) with e | e
  · rw [and32_f h e]; simp [e]
  · rw [and32_t h e]; simp [e]
theorem mg_length (b : List Nat) (t i : Nat) : (mg b t i).length = t := by simp [mg]
theorem mg_set0 (b : List Nat) {t i : Nat} (h : i < t) : (mg b t i).set (t - 1 - i) 0 = mg b t i := by
  apply List.ext_getElem (by simp)
  intro j h1 h2
  rw [List.getElem_set]
  split
  · simp [mg]; omega
  · rfl
theorem mg_step (b : List Nat) {t i : Nat} (h : i < t) : (mg b t i).set (t - 1 - i) (be b i) = mg b t (i + 1) := by
  apply List.ext_getElem (by simp [mg_length])
  intro j h1 h2
  rw [List.getElem_set]
  split
  · rename_i e; subst e
    simp only [mg, List.getElem_map, List.getElem_range]
    rw [if_pos (by omega), show t - 1 - (t - 1 - i) = i by omega]
  · simp only [mg, List.getElem_map, List.getElem_range]
    by_cases hj : t ≤ j + i
    · rw [if_pos hj, if_pos (by omega)]
    · rw [if_neg hj, if_neg (by omega)]
theorem small_mg {b : List Nat} (hb : Bytey b) (t i : Nat) : Small (mg b t i) := fun x hx => by
  obtain ⟨j, _, rfl⟩ := List.mem_map.1 hx
  split
  · exact be_lt hb _
  · omega
theorem rdErr_short {b : List Nat} {n i : Nat} (h : i < n) (hs : b.length < 7 + 4 * i) : rdErr b n i = 5 := by rw [rdErr, if_pos h, if_pos hs]
theorem rdErr_bad {b : List Nat} {n i : Nat} (h : i < n) (hs : ¬ b.length < 7 + 4 * i) (he : i = 0 ∨ i + 1 = n) (h0 : be b i = 0) : rdErr b n i = 6 := by rw [rdErr, if_pos h, if_neg hs, if_pos ⟨he, h0⟩]
theorem rdErr_step {b : List Nat} {n i : Nat} (h : i < n) (hs : ¬ b.length < 7 + 4 * i) (he : ¬ ((i = 0 ∨ i + 1 = n) ∧ be b i = 0)) : rdErr b n i = rdErr b n (i + 1) := by rw [rdErr, if_pos h, if_neg hs, if_neg he]
theorem rdErr_end {b : List Nat} {n : Nat} : rdErr b n n = 0 := by rw [rdErr, if_neg (by omega)]
theorem readErr_rd {b : List Nat} {n e : Nat} (hh : headF b = 0) (h3 : ¬ b.length < 3) (h2 : b.getD 2 0 = n) (he : rdErr b n 0 = e) (h0 : e ≠ 0) : readErr b = e := by
  subst h2; unfold readErr; rw [if_neg (fun h => h hh), if_neg h3, if_pos (by rw [he]; exact h0), he]
theorem readErr_more {b : List Nat} {n : Nat} (hh : headF b = 0) (h3 : ¬ b.length < 3) (h2 : b.getD 2 0 = n) (he : rdErr b n 0 = 0) (h0 : 3 + 4 * n < b.length) : readErr b = 7 := by
  subst h2; unfold readErr; rw [if_neg (fun h => h hh), if_neg h3, if_neg (fun h => h he), if_pos h0]
theorem readErr_ok {b : List Nat} {n : Nat} (hh : headF b = 0) (h3 : ¬ b.length < 3) (h2 : b.getD 2 0 = n) (he : rdErr b n 0 = 0) (h0 : ¬ 3 + 4 * n < b.length) : readErr b = 0 := by
  subst h2; unfold readErr; rw [if_neg (fun h => h hh), if_neg h3, if_neg (fun h => h he), if_neg h0]
theorem headF_b0 {b : List Nat} (hh : headF b = 0) (h : 0 < b.length) : b.getD 0 0 < 64 := by
  unfold headF at hh
  split at hh
  · omega
  · rename_i h1
    have := of_decide_eq_false (Bool.not_eq_true _ ▸ h1)
    omega
theorem ret_pair {v : Value} {k : IntKind} {x y : Int} (h : x = y) : Ending.returned (.tuple #[v, .int k x]) = .returned (.tuple #[v, .int k y]) := by rw [h]
theorem ReadPost.ok {b mag : List Nat} {w w' : World} {g n c b0 : Nat} {A : Option Addr} (hb : Below w.heap.size w w') (hr : readErr b = 0) (hg : w.heap.size ≤ g) (h0 : b.getD 0 0 = b0) (hm : magF b = mag)
    (ho : Own w' g 145 [.bool true, .int .u8 ((b0 % 32 : Nat) : Int), .bool (decide (b0 / 32 % 2 = 1)), .slice A n c]) (hw : Words w' A n c mag) :
    ReadPost b w (.returned (.tuple #[.pointer (some ⟨g, 0, none⟩), .int .i64 0])) w' := by
  subst h0 hm; exact ⟨hb, .inr ⟨hr, g, A, n, c, rfl, hg, ho, hw⟩⟩
theorem headF_val (b : List Nat) : headF b = 0 ∨ headF b = 6 := by unfold headF; split <;> (try split) <;> (try split) <;> simp

set_option maxRecDepth 100000 in
set_option maxHeartbeats 4000000 in
theorem read_any {A : Option Addr} {n c : Nat} {b : List Nat} {w : World} (hx : Bytes w A n c b) (hl : n ≤ 4294967296) :
    Calls Try.prog 62 #[.slice A n c] w (ReadPost b w) := by
  obtain ⟨i0, hi, hz0, hz1, hz2⟩ := info_parts info_u32
  have hlen := hx.len
  have HL := Lib.hid hlen; clear hlen
  go_enter Try.func62, Try.ntmps62
  go_wp2_with fail
  refine (head_any hx).mono ?_
  rintro e w' ⟨rfl, q, rfl⟩
  by_cases hh : headF b = 0
  case neg =>
    have h0 : ((headF b : Int) != 0) = true := by simp; omega
    have hr : readErr b = headF b := by unfold readErr; rw [if_pos hh]
    have HR := Lib.hid hr; have HH := Lib.hid hh; clear hr hh
    go_wp2
    go_ret2
    exact ⟨below_drawn (Below.refl _ _) _, .inl ⟨by rw [HR.out]; exact HH.out, ret_pair (by rw [HR.out])⟩⟩
  case pos =>
  have h0 : ((headF b : Int) != 0) = false := by simp; omega
  by_cases h3 : n < 3
  · have hr : readErr b = 5 := readErr_short hh (by rw [← HL.out]; exact h3)
    have HR := Lib.hid hr; clear hr hh
    go_wp2
    go_ret2
    exact ⟨below_drawn (Below.refl _ _) _, .inl ⟨by rw [HR.out]; omega, ret_pair (by rw [HR.out]; rfl)⟩⟩
  have HH := Lib.hid hh; clear hh
  obtain ⟨ad, b0, rfl, e0, l0, c0⟩ := hx.at_ (k := 0) (by omega)
  obtain ⟨ad1, b1, ead1, e1, l1, c1⟩ := hx.at_ (k := 1) (by omega)
  injection ead1 with ead1; subst ead1
  obtain ⟨ad2, b2, ead2, e2, l2, c2⟩ := hx.at_ (k := 2) (by omega)
  injection ead2 with ead2; subst ead2
  have c0' : w.cell? ad = some (.int .u8 (b0 : Int)) := c0
  have c1' : w.cell? ⟨ad.block, ad.off + 1, none⟩ = some (.int .u8 (b1 : Int)) := c1
  have c2' : w.cell? ⟨ad.block, ad.off + 2, none⟩ = some (.int .u8 (b2 : Int)) := c2
  have E0 := Lib.hid e0; have E1 := Lib.hid e1; have E2 := Lib.hid e2
  clear c0 c1 c2 e0 e1 e2
  go_wp2
  go_quiet (fail)
  go_wp2_with (first
    | (at_make
       refine wpList_make_full _ rfl _ _ _ rfl w.heap.size 41 i0 _ 1 Try.underlying38 hi hz0 hz1 _ _ _ _ (b1 + b2) rfl rfl (by simp) (by simp) (by rw [hz2]; omega) (by unfold maxLen; omega) (Nat.le_refl _) ?_
       intro w1 hown1 hg1))
  have hown := Own.of_row hown1
  rw [made_words] at hown
  have hb : Below w.heap.size w w1 := below_undrawn (below_of_grown hg1)
  clear hown1 hg1
  rw [← mg_zero b (b1 + b2)] at hown
  go_loopw [32] (fun iv wr => ∃ i : Nat, i ≤ b2 ∧ iv = .int .i64 i ∧ Hid (rdErr b b2 i = rdErr b b2 0) ∧ Hid (0 < i → 3 + 4 * i ≤ b.length) ∧ Own wr w.heap.size 41 ((mg b (b1 + b2) i).map wv) ∧ Below w.heap.size w wr) (fun iv _ => b2 - (intOf iv).toNat)
  case atStart => exact ⟨0, by omega, rfl, rfl, (fun h => by omega), hown, hb⟩
  case round =>
    clear hown hb
    obtain ⟨i, hi2, rfl, herr, hlen, hown, hb⟩ := hrel
    by_cases hin : i < b2
    · obtain ⟨p, hp⟩ : ∃ p : Nat, p = b1 + b2 - 1 - i := ⟨_, rfl⟩
      have hpi : (b1 : Int) + b2 - 1 - i = p := by omega
      have hpl : p < b1 + b2 := by omega
      have HP := Lib.hid hp; clear hp
      have HPI := Lib.hid hpi; clear hpi
      go_wp2
      obtain ⟨wo, rfl⟩ : ∃ wo : World, wo = wr := ⟨_, rfl⟩
      go_loopw [35] (fun kv wr => ∃ k : Nat, k ≤ 4 ∧ kv = .int .i64 k ∧ Hid (3 + 4 * i + k ≤ n) ∧ Own wr w.heap.size 41 (((mg b (b1 + b2) i).set p (bePart b i k)).map wv) ∧ Below w.heap.size w wr) (fun kv _ => 4 - (intOf kv).toNat)
      case atStart => exact ⟨0, by omega, rfl, (by unfold Hid; have := hlen.out; have := HL.out; omega), (by have e := mg_set0 b (t := b1 + b2) (i := i) (by omega); rw [← HP.out] at e; show Own wo w.heap.size _ (((mg b (b1 + b2) i).set p 0).map wv); rw [e]; exact hown), hb⟩
      case round =>
        clear hown hb
        obtain ⟨k, hk, rfl, hkn, hown, hb⟩ := hrel
        have cw : wr.cell? ⟨w.heap.size, p, none⟩ = some (.int .u32 (bePart b i k : Nat)) := hown.cellv (by simp [mg]; exact hpl) (by simp)
        by_cases hk4 : k < 4
        · by_cases hat : 3 + 4 * i + k < n
          · obtain ⟨ad', y, ead, ey, ly, cy⟩ := (hx.below hb).at_ hat
            injection ead with ead; subst ead
            have hfr := hown.free p
            have hpi := HPI.out
            have hat' : ((3 : Int) + 4 * i + k).toNat = 3 + 4 * i + k := by omega
            have hor := or_shift (bePart_24 hx.small i hk4) ly
            have hnext : bePart b i (k + 1) = bePart b i k * 256 + y := by rw [bePart, getD_some ey]
            have HN := Lib.hid hnext
            have HO := Lib.hid hor
            clear hnext hor ey
            go_wp2
            go_region
            go_wp2
            go_roundw
            case rel => exact ⟨k + 1, by omega, by go_num, by unfold Hid; omega, by have := hown.setw (k := p) (v := bePart b i (k + 1)) (vi := bits .or .u32 ((bePart b i k : Int) * 256 % 4294967296) (y : Int)) (by rw [HO.out, HN.out]); rw [List.set_set] at this; exact this, (hb.setCell (Nat.le_refl _) _).drew⟩
            case measure => simp [intOf]; omega
          · have hr : readErr b = 5 := readErr_rd HH.out (by have := HL.out; omega) (getD_some E2.out) (by rw [← herr.out]; exact rdErr_short hin (by have := HL.out; omega)) (by omega)
            have HR := Lib.hid hr; clear hr
            go_wp2
            go_ret2
            exact ⟨hb, .inl ⟨by rw [HR.out]; omega, ret_pair (by rw [HR.out]; rfl)⟩⟩
        · obtain rfl : k = 4 := by omega
          have hlen' : ¬ b.length < 7 + 4 * i := by have := hkn.out; have := HL.out; omega
          have hown' : Own wr w.heap.size 41 ((mg b (b1 + b2) (i + 1)).map wv) := by rw [← mg_step b (by omega), ← HP.out]; exact hown
          have cw' : wr.cell? ⟨w.heap.size, p, none⟩ = some (.int .u32 (be b i : Nat)) := cw
          clear cw hown hk4 hk
          have herr' : ¬ ((i = 0 ∨ i + 1 = b2) ∧ be b i = 0) → Hid (rdErr b b2 (i + 1) = rdErr b b2 0) := fun h => by unfold Hid; rw [← herr.out, rdErr_step hin hlen' h]
          have hlen3 : Hid (0 < i + 1 → 3 + 4 * (i + 1) ≤ b.length) := fun _ => by omega
          by_cases hbe : be b i = 0
          · have hbe' : ((be b i : Int) == 0) = true := by simp; omega
            by_cases hi0 : i = 0
            · have hpi : (b1 : Int) + b2 - 1 = p := by have := HPI.out; omega
              have gi0 : ((i : Int) == 0) = true := by simp; omega
              have hr : readErr b = 6 := readErr_rd HH.out (by have := HL.out; omega) (getD_some E2.out) (by rw [← herr.out]; exact rdErr_bad hin hlen' (.inl hi0) hbe) (by omega)
              have HR := Lib.hid hr; clear hr herr' hbe hlen' hi0
              go_wp2
              go_ret2
              exact ⟨hb, .inl ⟨by rw [HR.out]; omega, ret_pair (by rw [HR.out]; rfl)⟩⟩
            · have gi0 : ((i : Int) == 0) = false := by simp; omega
              by_cases hi1 : i + 1 = b2
              · have gi1 : ((i : Int) == b2 - 1) = true := by simp; omega
                have hpb : p = b1 := by have := HP.out; omega
                have cw2 : wr.cell? ⟨w.heap.size, b1, none⟩ = some (.int .u32 (be b i : Nat)) := by rw [← hpb]; exact cw'
                clear hpb hi0
                have hr : readErr b = 6 := readErr_rd HH.out (by have := HL.out; omega) (getD_some E2.out) (by rw [← herr.out]; exact rdErr_bad hin hlen' (.inr hi1) hbe) (by omega)
                have HR := Lib.hid hr; clear hr herr' hbe hlen' hi1
                go_wp2
                go_ret2
                exact ⟨hb, .inl ⟨by rw [HR.out]; omega, ret_pair (by rw [HR.out]; rfl)⟩⟩
              · have gi1 : ((i : Int) == b2 - 1) = false := by simp; omega
                have herr2 := herr' (fun h => h.1.elim hi0 hi1)
                clear herr' hbe hi0 hi1 hlen'
                go_wp2
                go_roundw
                case rel => exact ⟨i + 1, by omega, by go_num, herr2, hlen3, hown', hb⟩
                case measure => simp [intOf]; omega
          · have hbe' : ((be b i : Int) == 0) = false := by simp; omega
            have herr2 := herr' (fun h => hbe h.2)
            clear herr' hbe hlen'
            by_cases hi0 : i = 0
            · have hpi : (b1 : Int) + b2 - 1 = p := by have := HPI.out; omega
              have gi0 : ((i : Int) == 0) = true := by simp; omega
              by_cases hi1 : i + 1 = b2
              · have gi1 : ((i : Int) == b2 - 1) = true := by simp; omega
                have hpb : p = b1 := by have := HP.out; omega
                have cw2 : wr.cell? ⟨w.heap.size, b1, none⟩ = some (.int .u32 (be b i : Nat)) := by rw [← hpb]; exact cw'
                clear hi0 hi1 hpb
                go_wp2
                go_roundw
                case rel => exact ⟨i + 1, by omega, by go_num, herr2, hlen3, hown', hb⟩
                case measure => simp [intOf]; omega
              · have gi1 : ((i : Int) == b2 - 1) = false := by simp; omega
                clear hi0 hi1
                go_wp2
                go_roundw
                case rel => exact ⟨i + 1, by omega, by go_num, herr2, hlen3, hown', hb⟩
                case measure => simp [intOf]; omega
            · have gi0 : ((i : Int) == 0) = false := by simp; omega
              by_cases hi1 : i + 1 = b2
              · have gi1 : ((i : Int) == b2 - 1) = true := by simp; omega
                have hpb : p = b1 := by have := HP.out; omega
                have cw2 : wr.cell? ⟨w.heap.size, b1, none⟩ = some (.int .u32 (be b i : Nat)) := by rw [← hpb]; exact cw'
                clear hi0 hi1 hpb
                go_wp2
                go_roundw
                case rel => exact ⟨i + 1, by omega, by go_num, herr2, hlen3, hown', hb⟩
                case measure => simp [intOf]; omega
              · have gi1 : ((i : Int) == b2 - 1) = false := by simp; omega
                clear hi0 hi1
                go_wp2
                go_roundw
                case rel => exact ⟨i + 1, by omega, by go_num, herr2, hlen3, hown', hb⟩
                case measure => simp [intOf]; omega
    · obtain rfl : i = b2 := by omega
      have he0 : rdErr b i 0 = 0 := by rw [← herr.out, rdErr_end]
      by_cases hmore : 3 + 4 * i < n
      · have hr : readErr b = 7 := readErr_more HH.out (by have := HL.out; omega) (getD_some E2.out) he0 (by have := HL.out; omega)
        have HR := Lib.hid hr; clear hr he0
        go_wp2
        go_ret2
        exact ⟨hb, .inl ⟨by rw [HR.out]; omega, ret_pair (by rw [HR.out]; rfl)⟩⟩
      · have hr : readErr b = 0 := readErr_ok HH.out (by have := HL.out; omega) (getD_some E2.out) he0 (by have := HL.out; omega)
        have HR := Lib.hid hr; clear hr he0
        have h64 : b0 < 64 := by have := headF_b0 HH.out (by have := HL.out; omega); rw [getD_some E0.out] at this; exact this
        have hand := andNot_b0 h64
        have hbit := and32_b l0
        have c0'' : wr.cell? ad = some (.int .u8 (b0 : Int)) := by rw [hb.cell (lt_of_cell c0')]; exact c0'
        go_wp2
        go_region
        go_wp2
        go_ret2
        have hm : magF b = mg b (b1 + i) i := by unfold magF; rw [getD_some E1.out, getD_some E2.out]
        have hg0 : b.getD 0 0 = b0 := getD_some E0.out
        have h1 := (Own.new wr 145 [.bool true, .int .u8 ((b.getD 0 0 % 32 : Nat) : Int), .bool (decide (b.getD 0 0 / 32 % 2 = 1)), .slice (some ⟨w.heap.size, 0, none⟩) (b1 + i) (b1 + i)]).drew
        have h2 : Own ((wr.alloc (.cells #[.bool true, .int .u8 ((b0 : Int) % 32), .bool (decide (b0 / 32 % 2 = 1)), .slice (some ⟨w.heap.size, 0, none⟩) (b1 + i) (b1 + i)] 145)).drew) w.heap.size 41 ((mg b (b1 + i) i).map wv) := (hown.alloc _).drew
        rw [hg0] at h1
        have hw' := Words.own (n := b1 + i) (c := b1 + i) h2 (small_mg hx.small _ _) (mg_length _ _ _).symm (Nat.le_refl _) (by unfold maxLen; omega)
        exact ReadPost.ok (hb.alloc hb.size _).drew HR.out hb.size hg0 hm h1 hw'
end Go.Proofs.Ytdhlcbhpjejljaa
