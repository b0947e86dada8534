import Derived.Test.YtdhlcbhpjejljaaPut
import Derived.Laws.OwnMore
import Derived.Deep.DeepCutAuto
namespace Go.Proofs.Ytdhlcbhpjejljaa
open Go.RowKit

def wbytes (x : Nat) : List Nat := [x / 16777216, x / 65536 % 256, x / 256 % 256, x % 256]
/-- The bytes of the words below the k-th, down to a place. -/
def downB (xs : List Nat) (low : Nat) : Nat → List Nat
  | 0 => []
  | i + 1 => if i < low then [] else wbytes (xs.getD i 0) ++ downB xs low i
theorem downB_low {xs : List Nat} {low k : Nat} (h : k ≤ low) : downB xs low k = [] := by
  cases k with
  | zero => rfl
  | succ k => rw [downB, if_pos (by omega)]
def lowF (xs : List Nat) : Nat := halves (val xs) / 32
def hdrF (ca : Nat) (neg : Bool) (xs : List Nat) : List Nat := [if neg then ca ||| 32 else ca, lowF xs % 256, (xs.length - lowF xs) % 256]
theorem hdr_bytey {ca : Nat} (hca : ca < 256) (neg : Bool) (xs : List Nat) : Bytey (hdrF ca neg xs) := by
  have h : (if neg then ca ||| 32 else ca) < 256 := by split; exact Nat.or_lt_two_pow (n := 8) hca (by omega); exact hca
  intro y hy
  simp only [hdrF, List.mem_cons, List.not_mem_nil, or_false] at hy
  rcases hy with rfl | rfl | rfl
  · exact h
  · omega
  · omega
def bytesF (ca : Nat) (neg : Bool) (xs : List Nat) : List Nat := hdrF ca neg xs ++ downB xs (lowF xs) xs.length

theorem info_u8 : (Try.prog.info? 5).map (fun i => (i.zero, i.size, i.bytes)) = some (some (.int .u8 0), 1, 1) := by kernel_rfl
theorem lowF_le (xs : List Nat) (hs : Small xs) : lowF xs ≤ xs.length := by
  unfold lowF
  rcases Nat.eq_zero_or_pos (val xs) with h | h
  · rw [h, halves_zero]; omega
  · have h1 := val_lt hs
    rw [pow32] at h1
    have := halves_lt (by omega) h1
    omega

set_option maxRecDepth 100000 in
set_option maxHeartbeats 4000000 in
theorem bytes_any {g ca n c : Nat} {neg : Bool} {A : Option Addr} {xs : List Nat} {w : World} (hs : Own w g 145 (sumv ca neg A n c)) (hx : Words w A n c xs) (hn : n ≤ 4294967295) (hca : ca < 256) :
    Calls Try.prog 51 #[.pointer (some ⟨g, 0, none⟩)] w fun e w' => ∃ C k p, e = .returned (.slice C k p) ∧ Bytes w' C k p (bytesF ca neg xs) ∧ Below w.heap.size w w' ∧ Typ w' C 5 := by
  obtain ⟨i0, hi, hz0, hz1, hz2⟩ := info_parts info_u8
  have hlow := lowF_le xs hx.small
  rw [← hx.len] at hlow
  have f0 : w.cell? ⟨g, 0, none⟩ = some (.bool true) := hs.cell 0
  have f1 : w.cell? ⟨g, 1, none⟩ = some (.int .u8 (ca : Int)) := hs.cell 1
  have f2 : w.cell? ⟨g, 2, none⟩ = some (.bool neg) := hs.cell 2
  have f3 : w.cell? ⟨g, 3, none⟩ = some (.slice A n c) := hs.cell 3
  obtain ⟨fl, hfl⟩ : ∃ fl : Nat, fl = if neg then ca ||| 32 else ca := ⟨_, rfl⟩
  have hor : bits .or .u8 (ca : Int) 32 = ((ca ||| 32 : Nat) : Int) := u8_or_nat ca 32 hca (by omega)
  have HFL := Lib.hid hfl; clear hfl
  go_enter Try.func51, Try.ntmps51
  go_upto_if 18 with (first | (go_at_call 92; refine (is_any f0).mono ?_; rintro e w' ⟨rfl, rfl⟩))
  go_cut [3] (fun s wx => s = .int .u8 (fl : Int) ∧ w = wx)
  case first =>
    cases neg with
    | true =>
      go_wp2_with fail
      go_meet
      exact ⟨by rw [HFL.out]; rfl, rfl⟩
    | false =>
      go_wp2_with fail
      go_meet
      exact ⟨by rw [HFL.out]; rfl, rfl⟩
  case rest =>
  obtain ⟨rfl, rfl⟩ := hcut
  clear hor f0 f1 f2
  go_wp2_with fail
  refine (noughts_any hx (by omega)).mono ?_
  rintro e w' ⟨rfl, rfl⟩
  have hlo : ((halves (val xs) : Int) / 32) = (lowF xs : Nat) := by unfold lowF; omega
  obtain ⟨low, hlw⟩ : ∃ low, low = lowF xs := ⟨_, rfl⟩
  rw [← hlw] at hlo hlow
  have hlen := hx.len
  have HL := Lib.hid hlen; have HW := Lib.hid hlw; clear hlw hlen
  have hgl := hs.lt
  go_wp2
  have hown := World.ownsRow_lit (base := w.heap.size) (e := 5) (size := 1) w #[.int .u8 (fl : Int), .int .u8 ((low : Int) % 256), .int .u8 (((n : Int) - low) % 256)] 3 (Nat.le_refl _) (by unfold maxLen; omega) rfl
  have hh : (#[.int .u8 (fl : Int), .int .u8 ((low : Int) % 256), .int .u8 (((n : Int) - low) % 256)] : Array Value).toList = (hdrF ca neg xs).map bv := by
    unfold hdrF
    rw [← HW.out, ← HL.out, ← HFL.out]
    simp; omega
  rw [hh] at hown
  have hb := (Below.refl w.heap.size w).alloc (Nat.le_refl _) (.cells #[.int .u8 (fl : Int), .int .u8 ((low : Int) % 256), .int .u8 (((n : Int) - low) % 256)] 5)
  clear hh
  go_loopw [5, 6] (fun v iv wr => ∃ (k m : Nat) (o : List Nat), low ≤ k ∧ k ≤ n ∧ iv = .int .i64 ((k : Int) - 1) ∧ m + 4 * k ≤ 4 * n + 3 ∧ Hid (m = o.length ∧ Bytey o ∧ o ++ downB xs low k = bytesF ca neg xs) ∧ wr.ownsRow w.heap.size 5 1 v m (o.map bv) ∧ Below w.heap.size w wr) (fun _ iv _ => (intOf iv + 1).toNat)
  case atStart => exact ⟨n, 3, hdrF ca neg xs, hlow, Nat.le_refl _, rfl, by omega, ⟨rfl, hdr_bytey hca neg xs, by unfold bytesF; rw [HW.out, HL.out]⟩, hown, hb⟩
  case round =>
    clear hown hb
    obtain ⟨k, m, o, hkl, hkn, rfl, hm, hinv, hown, hb⟩ := hrel
    by_cases hk : low < k
    · obtain ⟨j, rfl⟩ : ∃ j, k = j + 1 := ⟨k - 1, by omega⟩
      obtain ⟨ad, x, rfl, hxj, hx32, hcx⟩ := (hx.below hb).at_ (k := j) (by omega)
      have f3' : wr.cell? ⟨g, 3, none⟩ = some (.slice (some ad) n c) := by rw [hb.cell hgl]; exact f3
      rw [show (((j + 1 : Nat) : Int) - 1) = (j : Int) by omega]
      have hstep : Hid (m + 4 = (o ++ wbytes x).length ∧ Bytey (o ++ wbytes x) ∧ o ++ wbytes x ++ downB xs low j = bytesF ca neg xs) := by
        obtain ⟨h1, h2, h3⟩ := hinv.out
        refine ⟨by simp [h1, wbytes], h2.append (by intro y hy; simp only [wbytes, List.mem_cons, List.not_mem_nil, or_false] at hy; omega), ?_⟩
        rw [← h3, downB, if_neg (by omega), getD_some hxj, List.append_assoc]
      clear hinv hxj
      have hlj : (low : Int) ≤ j := by omega
      go_wp2_with (first
        | (at_builtin
           refine wpList_app (w0 := wr) (news := [.int .u8 ((x : Int) / 16777216), .int .u8 ((x : Int) / 65536 % 256), .int .u8 ((x : Int) / 256 % 256), .int .u8 ((x : Int) % 256)]) rfl rfl Try.underlying72 info_u8 rfl (by decide) rfl hown (m := 4) (c := 4) rfl rfl (one_int .u8 _ (by simp)) (by unfold maxLen; omega) (by omega) hb.size ?_
           intro v' w1 hown' hb'))
      go_roundw
      case rel => exact ⟨j, m + 4, o ++ wbytes x, by omega, by omega, rfl, by omega, hstep, by rw [List.map_append]; simpa [wbytes, bv] using hown', hb.trans hb'⟩
      case measure => simp [intOf]
    · obtain rfl : k = low := by omega
      obtain ⟨C, cap, rfl⟩ := owns_slice hown
      obtain ⟨h1, h2, h3⟩ := hinv.out
      rw [downB_low (Nat.le_refl _), List.append_nil] at h3
      have hw := Bytes.of_owns hown h2 h1
      have hty := Typ.of_owns hown
      rw [h3] at hw
      have f3' : wr.cell? ⟨g, 3, none⟩ = some (.slice A n c) := by rw [hb.cell hgl]; exact f3
      clear hinv h1 h2 h3
      go_wp2
      go_ret
      exact ⟨_, _, _, rfl, hw, hb, hty⟩
end Go.Proofs.Ytdhlcbhpjejljaa
