/-
  names: Words, Word, Is.
-/
import Derived.Test.YtdhlcbhpjejljaaProg
import Derived.Test.YtdhlcbhpjejljaaMem
import Derived.Deep.DeepCutAuto
namespace Go.Proofs.Ytdhlcbhpjejljaa
open Go.RowKit

/-- A slice of texts that reads as this list. -/
def Strs (w : World) (A : Option Addr) (n c : Nat) (l : List ByteArray) : Prop := n = l.length ∧ n ≤ c ∧ c ≤ maxLen ∧ Row w A (l.map Value.string) ∧ ∀ s ∈ l, s.size ≤ maxLen
section
variable {w w' : World} {A : Option Addr} {n c : Nat} {l : List ByteArray}
theorem Strs.len (h : Strs w A n c l) : n = l.length := h.1
theorem Strs.most (h : Strs w A n c l) : n ≤ 9223372036854775807 := by have := h.2.1; have := h.2.2.1; unfold maxLen at this; omega
theorem Strs.below (h : Strs w A n c l) (hb : Below w.heap.size w w') : Strs w' A n c l := ⟨h.1, h.2.1, h.2.2.1, h.2.2.2.1.below hb, h.2.2.2.2⟩
theorem Strs.keep (h : Strs w A n c l) (hk : ∀ p : Addr, p.block < w.heap.size → w'.cell? p = w.cell? p) : Strs w' A n c l := ⟨h.1, h.2.1, h.2.2.1, h.2.2.2.1.keep hk, h.2.2.2.2⟩
theorem Strs.at_ (h : Strs w A n c l) {k : Nat} (hk : k < n) : ∃ ad s, A = some ad ∧ l[k]? = some s ∧ s.size ≤ maxLen ∧ w.cell? (ad.add k) = some (.string s) := by
  have hl : k < l.length := by rw [← h.1]; exact hk
  obtain ⟨ad, e, hc⟩ := h.2.2.2.1.one (k := k) (by simpa using hl) rfl
  exact ⟨ad, l[k], e, List.getElem?_eq_getElem hl, h.2.2.2.2 _ (List.getElem_mem hl), by simpa using hc⟩
end

/-- The words. -/
def wordsL : List ByteArray := [⟨#[97, 110, 100]⟩, ⟨#[97, 115, 99]⟩, ⟨#[98, 121]⟩, ⟨#[99, 111, 117, 110, 116]⟩, ⟨#[100, 101, 115, 99]⟩, ⟨#[100, 101, 118]⟩, ⟨#[105, 110]⟩, ⟨#[108, 105, 109, 105, 116]⟩, ⟨#[109, 97, 120]⟩, ⟨#[109, 101, 97, 110]⟩, ⟨#[109, 105, 110]⟩, ⟨#[111, 114, 100, 101, 114]⟩, ⟨#[115, 101, 108, 101, 99, 116]⟩, ⟨#[115, 104, 97, 114, 101]⟩, ⟨#[115, 117, 109]⟩, ⟨#[119, 104, 101, 114, 101]⟩]
def wordAt (k : Nat) : ByteArray := wordsL.getD k ⟨#[]⟩
theorem words_any (w : World) : Calls Try.prog 128 #[] w fun e w' => e = .returned (.slice (some ⟨w.heap.size, 0, none⟩) 16 16) ∧ Own w' w.heap.size 9 (wordsL.map Value.string) ∧ Below w.heap.size w w' := by
  go_enter Try.func128, Try.ntmps128
  go_wp2
  go_ret
  exact ⟨rfl, Own.new _ _ _, (Below.refl _ _).alloc (Nat.le_refl _) _⟩
/-- The search by halves. -/
def srch (s : ByteArray) (lo hi : Nat) : Bool :=
  if lo < hi then
    if (wordAt ((lo + hi) / 2)).toList == s.toList then true
    else if Op.bytesLess (wordAt ((lo + hi) / 2)).toList s.toList then srch s ((lo + hi) / 2 + 1) hi else srch s lo ((lo + hi) / 2)
  else false
termination_by hi - lo
decreasing_by all_goals omega
def wordF (s : ByteArray) : Bool := srch s 0 16
theorem srch_hit {s : ByteArray} {lo hi m : Nat} (h : lo < hi) (hm : (lo + hi) / 2 = m) (h1 : ((wordAt m).toList == s.toList) = true) : srch s lo hi = true := by subst hm; rw [srch, if_pos h, if_pos h1]
theorem srch_up {s : ByteArray} {lo hi m : Nat} (h : lo < hi) (hm : (lo + hi) / 2 = m) (h1 : ((wordAt m).toList == s.toList) = false) (h2 : Op.bytesLess (wordAt m).toList s.toList = true) : srch s lo hi = srch s (m + 1) hi := by
  subst hm; rw [srch, if_pos h, if_neg (by rw [h1]; simp), if_pos h2]
theorem srch_down {s : ByteArray} {lo hi m : Nat} (h : lo < hi) (hm : (lo + hi) / 2 = m) (h1 : ((wordAt m).toList == s.toList) = false) (h2 : Op.bytesLess (wordAt m).toList s.toList = false) : srch s lo hi = srch s lo m := by
  subst hm; rw [srch, if_pos h, if_neg (by rw [h1]; simp), if_neg (by rw [h2]; simp)]
theorem srch_end {s : ByteArray} {lo hi : Nat} (h : ¬ lo < hi) : srch s lo hi = false := by rw [srch, if_neg h]
theorem word_cell {w : World} {g : Nat} (h : Own w g 9 (wordsL.map Value.string)) {m : Nat} (hm : m < 16) : w.cell? ⟨g, m, none⟩ = some (.string (wordAt m)) := by
  rw [h.cell, List.getElem?_map, wordAt, List.getD_eq_getElem?_getD]
  rw [List.getElem?_eq_getElem (by exact hm)]; rfl
set_option maxRecDepth 100000 in
set_option maxHeartbeats 1000000 in
theorem word_any (s : ByteArray) (w : World) : Calls Try.prog 123 #[.string s] w fun e w' => e = .returned (.bool (wordF s)) ∧ Below w.heap.size w w' := by
  go_enter Try.func123, Try.ntmps123
  go_wp2_with fail
  refine (words_any w).mono ?_
  rintro e w' ⟨rfl, own, hb⟩
  go_wp2_with fail
  go_loop [4, 5] (fun lo hi => ∃ a b : Nat, lo = .int .i64 a ∧ hi = .int .i64 b ∧ b ≤ 16 ∧ a ≤ 16 ∧ Hid (srch s a b = wordF s)) (fun lo hi => (intOf hi).toNat - (intOf lo).toNat)
  case atStart => exact ⟨0, 16, rfl, rfl, Nat.le_refl _, by omega, rfl⟩
  case round =>
    obtain ⟨a, b, rfl, rfl, hb16, ha16, hinv⟩ := hrel
    by_cases hab : a < b
    · obtain ⟨m, hm⟩ : ∃ m, m = (a + b) / 2 := ⟨_, rfl⟩
      have hm16 : m < 16 := by omega
      have HD := Lib.hid (show ((a : Int) + b) / 2 = m by omega)
      have HM := Lib.hid hm.symm
      have h1 : a ≤ m := by omega
      have h2 : m < b := by omega
      clear hm
      have hc : w'.cell? ⟨w.heap.size, m, none⟩ = some (.string (wordAt m)) := word_cell own hm16
      have hab' : (a : Int) < b := by omega
      go_upto_region 4 with fail
      go_cut [6] (fun s wx => s = .int .i64 m ∧ wx = w')
      case first =>
        go_wp2_with fail
        go_meet
        exact ⟨by rw [← HD.out], rfl⟩
      case rest =>
      obtain ⟨rfl, rfl⟩ := hcut
      cases e1 : ((wordAt m).toList == s.toList) with
      | true =>
        have HR := Lib.hid (hinv.out.symm.trans (srch_hit hab HM.out e1))
        clear hinv
        go_wp2
        go_ret
        exact ⟨by rw [HR.out]; rfl, hb⟩
      | false =>
        cases e2 : Op.bytesLess (wordAt m).toList s.toList with
        | true =>
          have HI := Lib.hid ((srch_up hab HM.out e1 e2).symm.trans hinv.out)
          clear hinv
          go_wp2
          go_round
          case rel => exact ⟨m + 1, b, by go_num, rfl, hb16, by omega, HI⟩
          case measure => simp [intOf]; omega
        | false =>
          have HI := Lib.hid ((srch_down hab HM.out e1 e2).symm.trans hinv.out)
          clear hinv
          go_wp2
          go_round
          case rel => exact ⟨a, m, rfl, rfl, by omega, ha16, HI⟩
          case measure => simp [intOf]; omega
    · have HR := Lib.hid (hinv.out.symm.trans (srch_end hab))
      have hab' : ¬ (a : Int) < b := by omega
      clear hinv
      go_wp2
      go_ret
      exact ⟨by rw [HR.out]; rfl, hb⟩

/-- A letter of a name. -/
def letB (c : Nat) : Bool := (decide (97 ≤ c) && decide (c ≤ 122)) || (decide (48 ≤ c) && decide (c ≤ 57)) || decide (c = 95)
def lettersF (l : List UInt8) : Bool := l.all fun c => letB c.toNat
def firstB (l : List UInt8) : Bool := match l with | [] => false | c :: _ => decide (97 ≤ c.toNat) && decide (c.toNat ≤ 122)
/-- Is a text a name? -/
def isF (s : ByteArray) : Bool := decide (s.size ≤ 16) && firstB s.data.toList && lettersF s.data.toList && !wordF s
theorem isF_empty {s : ByteArray} (h : s.size = 0) : isF s = false := by
  obtain ⟨⟨l⟩⟩ := s
  cases l with
  | nil => rfl
  | cons c l => cases h
theorem isF_long {s : ByteArray} (h : 16 < s.size) : isF s = false := by
  unfold isF; rw [decide_eq_false (by omega)]; rfl
theorem first_get {s : ByteArray} (h : 0 < s.size) : firstB s.data.toList = (decide (97 ≤ s[0].toNat) && decide (s[0].toNat ≤ 122)) := by
  obtain ⟨⟨l⟩⟩ := s
  cases l with
  | nil => exact absurd h (by decide)
  | cons c l => rfl
theorem toList_nil {s : ByteArray} (h : s.size = 0) : s.toList = [] := by
  rw [ByteArray.toList_eq]
  obtain ⟨⟨l⟩⟩ := s
  cases l with
  | nil => rfl
  | cons c l => cases h
theorem toList_full {s : ByteArray} (h : 0 < s.size) : s.toList.isEmpty = false := by
  rw [ByteArray.toList_eq]
  obtain ⟨⟨l⟩⟩ := s
  cases l with
  | nil => exact absurd h (by decide)
  | cons c l => rfl
def headB (s : ByteArray) : Bool := decide (s.size ≤ 16) && firstB s.data.toList
theorem bs_len (s : ByteArray) : s.data.toList.length = s.size := by obtain ⟨⟨l⟩⟩ := s; rfl
theorem bs_get {s : ByteArray} {k : Nat} (h : k < s.size) : s.data.toList[k]? = some s[k] := by
  rw [List.getElem?_eq_getElem (by rw [bs_len]; exact h)]; rfl
theorem letters_bad {s : ByteArray} {k : Nat} (h : k < s.size) (hf : letB s[k].toNat = false) : lettersF s.data.toList = false := by
  apply Bool.eq_false_iff.2; intro e
  have := List.all_eq_true.1 e s[k] (List.mem_of_getElem? (bs_get h))
  rw [hf] at this; cases this
theorem letters_next {s : ByteArray} {k : Nat} (h : k < s.size) (hi : ((s.data.toList.take k).all fun c => letB c.toNat) = true) (hf : letB s[k].toNat = true) : ((s.data.toList.take (k + 1)).all fun c => letB c.toNat) = true := by
  rw [List.take_add_one, List.all_append, hi, bs_get h]
  simp [hf]
theorem letters_all {s : ByteArray} {k : Nat} (h : s.size ≤ k) (hi : ((s.data.toList.take k).all fun c => letB c.toNat) = true) : lettersF s.data.toList = true := by
  rw [List.take_of_length_le (by rw [bs_len]; exact h)] at hi; exact hi
set_option maxRecDepth 100000 in
set_option maxHeartbeats 1000000 in
theorem nameis_any (s : ByteArray) (w : World) (hs : s.size ≤ maxLen) : Calls Try.prog 105 #[.string s] w fun e w' => e = .returned (.bool (isF s)) ∧ Below w.heap.size w w' := by
  have HF := Lib.hid (show isF s = (headB s && lettersF s.data.toList && !wordF s) from rfl)
  unfold maxLen at hs
  go_enter Try.func105, Try.ntmps105
  go_upto_region 1 with fail
  go_cut [21] (fun t wx => ∃ B, t = .bool B ∧ Hid (B = !headB s) ∧ w = wx)
  case first =>
    clear HF
    rcases Nat.eq_zero_or_pos s.size with h0 | h0
    · have HR := Lib.hid (show true = !headB s by
        unfold headB
        have : s.data.toList = [] := by rw [← ByteArray.toList_eq]; exact toList_nil h0
        rw [this]; simp [firstB])
      have h1 := toList_nil h0
      clear h0
      go_wp2_with fail
      go_meet
      exact ⟨_, rfl, HR.out, rfl⟩
    · have h1 := toList_full h0
      by_cases h2 : 16 < s.size
      · have HR := Lib.hid (show true = !headB s by unfold headB; rw [decide_eq_false (by omega)]; rfl)
        have d1 : decide ((16 : Int) < s.size) = true := by simp; omega
        go_wp2_with fail
        go_meet
        exact ⟨_, rfl, HR.out, rfl⟩
      · have HB := Lib.hid (show headB s = (decide (97 ≤ s[0].toNat) && decide (s[0].toNat ≤ 122)) by
          unfold headB; rw [first_get h0, decide_eq_true (by omega)]; rfl)
        have d1 : decide ((16 : Int) < s.size) = false := by simp; omega
        have h3 : (0 : Int) < s.size := by omega
        by_cases h4 : s[0].toNat < 97
        · have HR := Lib.hid (show true = !headB s by rw [HB.out, decide_eq_false (by omega)]; rfl)
          have d2 : decide ((s[0].toNat : Int) < 97) = true := by simp; omega
          clear HB
          go_wp2_with fail
          go_meet
          exact ⟨_, rfl, HR.out, rfl⟩
        · have d2 : decide ((s[0].toNat : Int) < 97) = false := by simp; omega
          have HR := Lib.hid (show decide ((122 : Int) < s[0].toNat) = !headB s by
            rw [HB.out, decide_eq_true (show 97 ≤ s[0].toNat by omega)]
            by_cases h5 : s[0].toNat ≤ 122
            · rw [decide_eq_true h5, decide_eq_false (by omega)]; rfl
            · rw [decide_eq_false h5, decide_eq_true (by omega)]; rfl)
          clear HB h4
          go_wp2_with fail
          go_meet
          exact ⟨_, rfl, HR.out, rfl⟩
  case rest =>
    obtain ⟨B, rfl, HB, rfl⟩ := hcut
    cases B with
    | true =>
      have HR := Lib.hid (show isF s = false by rw [HF.out]; have := HB.out; simp at this; rw [this]; rfl)
      go_wp2
      go_ret
      exact ⟨by rw [HR.out]; rfl, Below.refl _ _⟩
    | false =>
      have HB' := Lib.hid (show headB s = true by have := HB.out; simpa using this)
      have h16 : s.size ≤ 16 := by
        have := HB'.out; unfold headB at this; simp at this; exact this.1
      clear HB
      go_wp2
      go_loop [24] (fun i => ∃ k : Nat, k ≤ s.size ∧ i = .int .i64 k ∧ Hid (((s.data.toList.take k).all fun c => letB c.toNat) = true)) (fun i => s.size - (intOf i).toNat)
      case atStart => exact ⟨0, Nat.zero_le _, rfl, rfl⟩
      case round =>
        obtain ⟨k, hk, rfl, hinv⟩ := hrel
        by_cases hlt : k < s.size
        · have i1 : (k : Int) < s.size := by omega
          have i0 : (0 : Int) ≤ k := by omega
          go_upto_region 7 with fail
          go_cut [47] (fun t wx => ∃ B, t = .bool B ∧ Hid (B = !letB s[k].toNat) ∧ w = wx)
          case first =>
            clear HF HB' hinv
            by_cases e1 : s[k].toNat < 97
            · by_cases e2 : s[k].toNat < 48
              · have HR := Lib.hid (show true = !letB s[k].toNat by simp [letB]; omega)
                have d1 : decide ((s[k].toNat : Int) < 97) = true := by simp; omega
                have d2 : decide ((s[k].toNat : Int) < 48) = true := by simp; omega
                have d3 : ((s[k].toNat : Int) != 95) = true := by simp; omega
                clear e1 e2
                go_wp2_with fail
                go_meet
                exact ⟨_, rfl, HR.out, rfl⟩
              · by_cases e3 : 57 < s[k].toNat
                · have HR := Lib.hid (show ((s[k].toNat : Int) != 95) = !letB s[k].toNat by
                    rw [Bool.eq_iff_iff]; simp [letB]; omega)
                  have d1 : decide ((s[k].toNat : Int) < 97) = true := by simp; omega
                  have d2 : decide ((s[k].toNat : Int) < 48) = false := by simp; omega
                  have d3 : decide ((57 : Int) < s[k].toNat) = true := by simp; omega
                  clear e1 e2 e3
                  go_wp2_with fail
                  go_meet
                  exact ⟨_, rfl, HR.out, rfl⟩
                · have HR := Lib.hid (show false = !letB s[k].toNat by simp [letB]; omega)
                  have d1 : decide ((s[k].toNat : Int) < 97) = true := by simp; omega
                  have d2 : decide ((s[k].toNat : Int) < 48) = false := by simp; omega
                  have d3 : decide ((57 : Int) < s[k].toNat) = false := by simp; omega
                  clear e1 e2 e3
                  go_wp2_with fail
                  go_meet
                  exact ⟨_, rfl, HR.out, rfl⟩
            · by_cases e2 : 122 < s[k].toNat
              · have HR := Lib.hid (show true = !letB s[k].toNat by simp [letB]; omega)
                have d1 : decide ((s[k].toNat : Int) < 97) = false := by simp; omega
                have d2 : decide ((122 : Int) < s[k].toNat) = true := by simp; omega
                have d3 : decide ((s[k].toNat : Int) < 48) = false := by simp; omega
                have d4 : decide ((57 : Int) < s[k].toNat) = true := by simp; omega
                have d5 : ((s[k].toNat : Int) != 95) = true := by simp; omega
                clear e1 e2
                go_wp2_with fail
                go_meet
                exact ⟨_, rfl, HR.out, rfl⟩
              · have HR := Lib.hid (show false = !letB s[k].toNat by simp [letB]; omega)
                have d1 : decide ((s[k].toNat : Int) < 97) = false := by simp; omega
                have d2 : decide ((122 : Int) < s[k].toNat) = false := by simp; omega
                clear e1 e2
                go_wp2_with fail
                go_meet
                exact ⟨_, rfl, HR.out, rfl⟩
          case rest =>
            obtain ⟨B, rfl, HB, rfl⟩ := hcut
            cases B with
            | true =>
              have HR := Lib.hid (show isF s = false by
                rw [HF.out, letters_bad hlt (by have := HB.out; simpa using this)]; simp)
              clear hinv
              go_wp2
              go_ret
              exact ⟨by rw [HR.out]; rfl, Below.refl _ _⟩
            | false =>
              have HI := Lib.hid (letters_next hlt hinv.out (by have := HB.out; simpa using this))
              clear hinv
              go_wp2
              go_round
              case rel => exact ⟨k + 1, by omega, by go_num, HI⟩
              case measure => simp [intOf]; omega
        · have HL := Lib.hid (letters_all (by omega) hinv.out)
          have HR := Lib.hid (show isF s = !wordF s by rw [HF.out, HB'.out, HL.out]; rfl)
          have i1 : ¬ (k : Int) < s.size := by omega
          clear hinv
          go_wp2_with fail
          refine (word_any s w).mono ?_
          rintro e w' ⟨rfl, hb⟩
          go_wp2
          go_ret
          exact ⟨by rw [HR.out]; rfl, hb⟩
end Go.Proofs.Ytdhlcbhpjejljaa
