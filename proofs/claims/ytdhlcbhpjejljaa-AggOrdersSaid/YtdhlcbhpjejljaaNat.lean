/-
  The walks of package nat: what its functions compute, each once.
-/
import Derived.Test.YtdhlcbhpjejljaaProg
import Derived.Test.YtdhlcbhpjejljaaMem
namespace Go.Proofs.Ytdhlcbhpjejljaa
open Go.RowKit

theorem info_u32 : (Try.prog.info? 41).map (fun i => (i.zero, i.size, i.bytes)) = some (some (.int .u32 0), 1, 4) := by kernel_rfl

set_option maxHeartbeats 400000 in
theorem size_any {A : Option Addr} {n c : Nat} {xs : List Nat} {w : World} (hx : Words w A n c xs) :
    Calls Try.prog 91 #[.slice A n c] w fun e w' => e = .returned (.int .i64 (sz xs)) ∧ w = w' := by
  have hm := hx.most
  go_enter Try.func91, Try.ntmps91
  go_wp2
  go_loop [3] (fun i => ∃ k : Nat, k ≤ n ∧ i = .int .i64 k ∧ Hid (sz (xs.take k) = sz xs)) (fun i => (intOf i).toNat)
  case atStart => exact ⟨n, Nat.le_refl _, rfl, by unfold Hid; rw [hx.len]; simp⟩
  case round =>
    obtain ⟨k, hk, rfl, hz⟩ := hrel
    by_cases h0 : 0 < k
    · obtain ⟨j, rfl⟩ : ∃ j, k = j + 1 := ⟨k - 1, by omega⟩
      obtain ⟨ad, x, rfl, hxj, hx32, hc⟩ := hx.at_ (k := j) (by omega)
      by_cases hj : x = 0
      · subst hj
        have hz' : Hid (sz (xs.take j) = sz xs) := by unfold Hid at *; rw [← hz, sz_take_zero hxj]
        clear hz hxj
        go_wp2
        go_round
        case rel => exact ⟨j, by omega, rfl, hz'⟩
        case measure => simp [intOf]
      · have hz' := sz_take_pos hxj hj
        have hj' : ((x : Int) == 0) = false := by simp; omega
        have hv : (j : Int) + 1 = sz xs := by unfold Hid at hz; rw [← hz, hz']; rfl
        clear hj hz hz' hxj
        have HV := Lib.hid hv; clear hv
        go_wp2
        go_ret
        exact ⟨ret_int HV.out, rfl⟩
    · obtain rfl : k = 0 := by omega
      have hv : sz xs = 0 := by unfold Hid at hz; rw [← hz]; rfl
      clear hz
      have HV := Lib.hid hv; clear hv
      go_wp2
      go_ret
      exact ⟨ret_int (by rw [HV.out]; rfl), rfl⟩

set_option maxRecDepth 100000 in
set_option maxHeartbeats 400000 in
theorem add_any {A B : Option Addr} {n c m d : Nat} {xs ys : List Nat} {w : World} (hx : Words w A n c xs) (hy : Words w B m d ys) (hn : n ≤ 4294967296) (hm : m ≤ 4294967296) :
    Calls Try.prog 71 #[.slice A n c, .slice B m d] w fun e w' => ∃ C k p, e = .returned (.slice C k p) ∧ Words w' C k p (wds (val xs + val ys)) ∧ Below w.heap.size w w' ∧ Typ w' C 41 := by
  obtain ⟨i0, hi, hz0, hz1, hz2⟩ := info_parts info_u32
  by_cases hmn : m ≤ n
  · go_enter Try.func71, Try.ntmps71
    go_wp2_with (first
      | (at_make
         refine wpList_make_full _ rfl _ _ _ rfl w.heap.size 41 i0 _ 1 Try.underlying38 hi hz0 hz1 _ _ _ _ (n + 1) rfl rfl (by simp) (by simp) (by rw [hz2]; omega) (by unfold maxLen; omega) (Nat.le_refl _) ?_
         intro w1 hown1 hg1))
    have hown := Own.of_row hown1
    rw [made_words] at hown
    have hb := below_of_grown hg1
    clear hown1 hg1
    go_loopw [6, 22] (fun cy i wr => ∃ (k cyn : Nat) (o : List Nat), k ≤ n ∧ i = .int .i64 k ∧ cy = .int .u64 cyn ∧ cyn ≤ 1 ∧ AddInv xs ys o n k cyn ∧ Own wr w.heap.size 41 (o.map wv) ∧ Below w.heap.size w wr) (fun _ i _ => n - (intOf i).toNat)
    case atStart => exact ⟨0, 0, _, by omega, rfl, rfl, by omega, AddInv.start _ _ _, hown, hb⟩
    case round =>
      clear hown hb
      obtain ⟨k, cy, o, hk, rfl, rfl, hcy, hinv, hown, hb⟩ := hrel
      obtain ⟨old, hold⟩ : ∃ old : Nat, wr.cell? ⟨w.heap.size, k, none⟩ = some (.int .u32 old) := ⟨o[k]'(by have := hinv.1; omega), hown.cellv (by have := hinv.1; simp; omega) (by simp)⟩
      have hfr := hown.free k
      by_cases hkn : k < n
      · obtain ⟨ad, x, rfl, hxk, hx32, hcx⟩ := (hx.below hb).at_ hkn
        by_cases hkm : k < m
        · obtain ⟨bd, y, rfl, hyk, hy32, hcy'⟩ := (hy.below hb).at_ hkm
          have hs := hinv.step hk (getD_some hxk) (getD_some hyk) hx32 hy32
          clear hinv hxk hyk
          go_wp2
          go_roundw
          case rel => exact ⟨k + 1, _, _, by omega, by go_num, by go_num, by omega, hs, hown.setw (by simp), hb.setCell (Nat.le_refl _) _⟩
          case measure => simp [intOf]; omega
        · have hs := hinv.step0 hk (getD_some hxk) (by have := hy.len; omega) hx32
          clear hinv hxk
          go_wp2
          go_roundw
          case rel => exact ⟨k + 1, _, _, by omega, by go_num, by go_num, by omega, hs, hown.setw (by simp), hb.setCell (Nat.le_refl _) _⟩
          case measure => simp [intOf]; omega
      · obtain rfl : k = n := by omega
        obtain ⟨hs, hl, hv⟩ := hinv.done (by have := hx.len; omega) (by have := hy.len; omega)
        clear hinv
        go_wp2_with fail
        have hown' := hown.setw (k := k) (v := cy) rfl
        refine (size_any (Words.own hown' hs (by omega) (Nat.le_refl _) (by unfold maxLen; omega))).mono ?_
        rintro e w' ⟨rfl, rfl⟩
        have hsz := sz_le (o.set k cy)
        rw [hl] at hsz
        have HV := Lib.hid hv; clear hv
        have HL := Lib.hid hl; clear hl
        go_wp2
        go_ret
        refine ⟨_, _, _, rfl, ?_, hb.setCell (Nat.le_refl _) _, Typ.own hown'⟩
        have hw := (Words.own (n := k + 1) (c := k + 1) hown' hs (by rw [HL.out]) (Nat.le_refl _) (by unfold maxLen; omega)).take hsz
        rw [take_sz hs, HV.out] at hw
        exact hw
  · go_enter Try.func71, Try.ntmps71
    go_wp2_with (first
      | (at_make
         refine wpList_make_full _ rfl _ _ _ rfl w.heap.size 41 i0 _ 1 Try.underlying38 hi hz0 hz1 _ _ _ _ (m + 1) rfl rfl (by simp) (by simp) (by rw [hz2]; omega) (by unfold maxLen; omega) (Nat.le_refl _) ?_
         intro w1 hown1 hg1))
    have hown := Own.of_row hown1
    rw [made_words] at hown
    have hb := below_of_grown hg1
    clear hown1 hg1
    go_loopw [6, 22] (fun cy i wr => ∃ (k cyn : Nat) (o : List Nat), k ≤ m ∧ i = .int .i64 k ∧ cy = .int .u64 cyn ∧ cyn ≤ 1 ∧ AddInv ys xs o m k cyn ∧ Own wr w.heap.size 41 (o.map wv) ∧ Below w.heap.size w wr) (fun _ i _ => m - (intOf i).toNat)
    case atStart => exact ⟨0, 0, _, by omega, rfl, rfl, by omega, AddInv.start _ _ _, hown, hb⟩
    case round =>
      clear hown hb
      obtain ⟨k, cy, o, hk, rfl, rfl, hcy, hinv, hown, hb⟩ := hrel
      obtain ⟨old, hold⟩ : ∃ old : Nat, wr.cell? ⟨w.heap.size, k, none⟩ = some (.int .u32 old) := ⟨o[k]'(by have := hinv.1; omega), hown.cellv (by have := hinv.1; simp; omega) (by simp)⟩
      have hfr := hown.free k
      by_cases hkn : k < m
      · obtain ⟨ad, x, rfl, hxk, hx32, hcx⟩ := (hy.below hb).at_ hkn
        by_cases hkm : k < n
        · obtain ⟨bd, y, rfl, hyk, hy32, hcy'⟩ := (hx.below hb).at_ hkm
          have hs := hinv.step hk (getD_some hxk) (getD_some hyk) hx32 hy32
          clear hinv hxk hyk
          go_wp2
          go_roundw
          case rel => exact ⟨k + 1, _, _, by omega, by go_num, by go_num, by omega, hs, hown.setw (by simp), hb.setCell (Nat.le_refl _) _⟩
          case measure => simp [intOf]; omega
        · have hs := hinv.step0 hk (getD_some hxk) (by have := hx.len; omega) hx32
          clear hinv hxk
          go_wp2
          go_roundw
          case rel => exact ⟨k + 1, _, _, by omega, by go_num, by go_num, by omega, hs, hown.setw (by simp), hb.setCell (Nat.le_refl _) _⟩
          case measure => simp [intOf]; omega
      · obtain rfl : k = m := by omega
        obtain ⟨hs, hl, hv⟩ := hinv.done (by have := hy.len; omega) (by have := hx.len; omega)
        clear hinv
        go_wp2_with fail
        have hown' := hown.setw (k := k) (v := cy) rfl
        refine (size_any (Words.own hown' hs (by omega) (Nat.le_refl _) (by unfold maxLen; omega))).mono ?_
        rintro e w' ⟨rfl, rfl⟩
        have hsz := sz_le (o.set k cy)
        rw [hl] at hsz
        have HV := Lib.hid hv; clear hv
        have HL := Lib.hid hl; clear hl
        go_wp2
        go_ret
        refine ⟨_, _, _, rfl, ?_, hb.setCell (Nat.le_refl _) _, Typ.own hown'⟩
        have hw := (Words.own (n := k + 1) (c := k + 1) hown' hs (by rw [HL.out]) (Nat.le_refl _) (by unfold maxLen; omega)).take hsz
        rw [take_sz hs, HV.out, show val ys + val xs = val xs + val ys from Nat.add_comm _ _] at hw
        exact hw
set_option maxRecDepth 100000 in
set_option maxHeartbeats 400000 in
theorem cmp_any {A B : Option Addr} {n c m d : Nat} {xs ys : List Nat} {w : World} (hx : Words w A n c xs) (hy : Words w B m d ys) :
    Calls Try.prog 127 #[.slice A n c, .slice B m d] w fun e w' => e = .returned (.int .i64 (cmpI (val xs) (val ys))) ∧ ∃ k, w' = w.drewN k := by
  have hzx := sz_le xs
  have hzy := sz_le ys
  have hm := hx.most
  have hm' := hy.most
  rw [← hx.len] at hzx
  rw [← hy.len] at hzy
  go_enter Try.func127, Try.ntmps127
  go_wp2_with fail
  refine (size_any hx).mono ?_
  rintro e w' ⟨rfl, rfl⟩
  go_wp2_with fail
  refine (size_any hy).mono ?_
  rintro e w' ⟨rfl, rfl⟩
  rcases Nat.lt_trichotomy (sz xs) (sz ys) with hlt | heq | hgt
  · have hv := cmpI_lt (val_lt_of_sz hx.small hy.small hlt)
    have HV := Lib.hid hv; clear hv
    have hne : ((sz xs : Int) != sz ys) = true := by simp; omega
    go_wp2
    go_ret
    exact ⟨ret_int HV.out.symm, 0, rfl⟩
  · have hne : ((sz xs : Int) != sz ys) = false := by simp; omega
    have HE := Lib.hid heq; clear heq
    go_wp2
    go_loopw [7] (fun i wr => ∃ (k : Nat) (q : Nat), k ≤ n ∧ k ≤ m ∧ i = .int .i64 ((k : Int) - 1) ∧ Hid (cmpI (val (xs.take k)) (val (ys.take k)) = cmpI (val xs) (val ys)) ∧ wr = w.drewN q) (fun i _ => (intOf i + 1).toNat)
    case atStart => exact ⟨sz xs, 0, hzx, by have := HE.out; omega, rfl, by unfold Hid; rw [val_take_sz hx.small, HE.out, val_take_sz hy.small], rfl⟩
    case round =>
      clear hne HE
      obtain ⟨k, q, hkn, hkm, rfl, hv, rfl⟩ := hrel
      by_cases hk : 0 < k
      · obtain ⟨j, rfl⟩ : ∃ j, k = j + 1 := ⟨k - 1, by omega⟩
        obtain ⟨ad, x, rfl, hxj, hx32, hcx⟩ := hx.at_ (k := j) (by omega)
        obtain ⟨bd, y, rfl, hyj, hy32, hcy⟩ := hy.at_ (k := j) (by omega)
        have e1 : ((j : Int) + 1 - 1) = j := by omega
        have hi0 : (0 : Int) ≤ j := by omega
        have hin : (j : Int) < n := by omega
        have him : (j : Int) < m := by omega
        rw [show (((j + 1 : Nat) : Int) - 1) = (j : Int) by omega]
        clear e1
        rcases Nat.lt_trichotomy x y with hlt | heq | hgt
        · have hr : cmpI (val xs) (val ys) = -1 := by rw [← hv.out]; exact cmpI_lt (cmp_less hx.small (getD_some hxj) (getD_some hyj) hlt)
          have HR := Lib.hid hr; clear hr hv hxj hyj
          go_wp2
          go_quiet (fail)
          go_wp2
          go_ret
          exact ⟨ret_int HR.out.symm, _, by first | rfl | (simp; rfl)⟩
        · subst heq
          have hv' : Hid (cmpI (val (xs.take j)) (val (ys.take j)) = cmpI (val xs) (val ys)) := by unfold Hid; rw [← hv.out, cmp_same (getD_some hxj) (getD_some hyj)]
          clear hv hxj hyj
          go_wp2
          go_quiet (fail)
          go_wp2
          go_quiet (fail)
          go_wp2
          go_roundw
          case rel => exact ⟨j, _, by omega, by omega, rfl, hv', by first | rfl | (simp; rfl)⟩
          case measure => simp [intOf]
        · have hr : cmpI (val xs) (val ys) = 1 := by rw [← hv.out]; exact cmpI_gt (cmp_less hy.small (getD_some hyj) (getD_some hxj) hgt)
          have HR := Lib.hid hr; clear hr hv hxj hyj
          go_wp2
          go_quiet (fail)
          go_wp2
          go_quiet (fail)
          go_wp2
          go_ret
          exact ⟨ret_int HR.out.symm, _, by first | rfl | (simp; rfl)⟩
      · obtain rfl : k = 0 := by omega
        have hr : cmpI (val xs) (val ys) = 0 := by rw [← hv.out]; exact cmpI_eq _
        have HR := Lib.hid hr; clear hr hv
        go_wp2
        go_ret
        exact ⟨ret_int HR.out.symm, _, rfl⟩
  · have hv := cmpI_gt (val_lt_of_sz hy.small hx.small hgt)
    have HV := Lib.hid hv; clear hv
    have hne : ((sz xs : Int) != sz ys) = true := by simp; omega
    go_wp2
    go_ret
    exact ⟨ret_int HV.out.symm, 0, rfl⟩

set_option maxRecDepth 100000 in
set_option maxHeartbeats 400000 in
theorem bits_any {A : Option Addr} {n c : Nat} {xs : List Nat} {w : World} (hx : Words w A n c xs) (hn : n ≤ 4294967296) :
    Calls Try.prog 120 #[.slice A n c] w fun e w' => e = .returned (.int .i64 (bitsN (val xs))) ∧ w = w' := by
  have hzx := sz_le xs
  rw [← hx.len] at hzx
  go_enter Try.func120, Try.ntmps120
  go_wp2_with fail
  refine (size_any hx).mono ?_
  rintro e w' ⟨rfl, rfl⟩
  by_cases h0 : sz xs = 0
  · have hv : bitsN (val xs) = 0 := by rw [sz_zero.1 h0, bitsN_zero]
    have HV := Lib.hid hv; clear hv
    have hne : ((sz xs : Int) == 0) = true := by simp; omega
    go_wp2
    go_ret
    exact ⟨ret_int (by rw [HV.out]; rfl), rfl⟩
  · obtain ⟨j, hj⟩ : ∃ j, sz xs = j + 1 := ⟨sz xs - 1, by omega⟩
    obtain ⟨ad, x, rfl, hxj, hx32, hcx⟩ := hx.at_ (k := j) (by omega)
    have hx0 : x ≠ 0 := by
      rintro rfl
      have h1 := val_take_sz hx.small
      rw [hj, val_take_succ, getD_some hxj] at h1
      have h2 := val_take_lt hx.small j
      have h3 := pow_le_val hx.small (k := j) (by omega)
      omega
    have hv : bitsN (val xs) = 32 * j + bitsN x := by rw [← val_take_sz hx.small, hj, bitsN_words hx.small (getD_some hxj) hx0]
    rw [hj]
    have hb32 : bitsN x ≤ 32 := bitsN_le.2 (by simpa using hx32)
    have HV := Lib.hid hv; clear hv hxj h0
    have hne : (((j + 1 : Nat) : Int) == 0) = false := by simp; omega
    rw [hj] at hzx
    clear hj
    go_wp2
    go_loop [4, 5] (fun b i => ∃ (bn y : Nat), y < 4294967296 ∧ b = .int .i64 bn ∧ i = .int .u32 y ∧ bn + bitsN y ≤ 137438953472 ∧ Hid (bn + bitsN y = bitsN (val xs))) (fun _ i => (intOf i).toNat)
    case atStart => exact ⟨32 * j, x, hx32, by go_num, rfl, by omega, by unfold Hid; rw [HV.out]⟩
    case round =>
      clear hne hcx hx0 hx32 hb32
      obtain ⟨b, y, hy, rfl, rfl, hbn, hv⟩ := hrel
      by_cases hy0 : y = 0
      · subst hy0
        have hr : (b : Int) = bitsN (val xs) := by have := hv.out; rw [bitsN_zero] at this; omega
        have HR := Lib.hid hr; clear hr hv hbn
        go_wp2
        go_ret
        exact ⟨ret_int HR.out, rfl⟩
      · have e := bitsN_pos hy0
        have hv' : Hid (b + 1 + bitsN (y / 2) = bitsN (val xs)) := by unfold Hid; rw [← hv.out, e]; omega
        have hbn' : b + 1 + bitsN (y / 2) ≤ 137438953472 := by omega
        have hb' : b < 137438953472 := by omega
        clear e hv hbn
        go_wp2
        go_round
        case rel => exact ⟨b + 1, y / 2, by omega, by go_num, by go_num, hbn', hv'⟩
        case measure => simp [intOf]; omega

theorem halves_shift {y : Nat} (hy0 : y ≠ 0) (h : y % 2 = 0) {b t : Nat} (hv : b + halves y = t) : b + 1 + halves (y / 2) = t := by
  rw [halves_even hy0 h] at hv; omega

set_option maxRecDepth 100000 in
set_option maxHeartbeats 400000 in
theorem noughts_any {A : Option Addr} {n c : Nat} {xs : List Nat} {w : World} (hx : Words w A n c xs) (hn : n ≤ 4294967296) :
    Calls Try.prog 97 #[.slice A n c] w fun e w' => e = .returned (.int .i64 (halves (val xs))) ∧ w = w' := by
  go_enter Try.func97, Try.ntmps97
  go_wp2
  go_loop [8] (fun i => ∃ k : Nat, k ≤ n ∧ i = .int .i64 k ∧ Hid (val (xs.take k) = 0)) (fun i => n - (intOf i).toNat)
  case atStart => exact ⟨0, by omega, rfl, by unfold Hid; simp [val]⟩
  case round =>
    obtain ⟨k, hk, rfl, hz⟩ := hrel
    by_cases hkn : k < n
    · obtain ⟨ad, x, rfl, hxk, hx32, hc⟩ := hx.at_ hkn
      by_cases hx0 : x = 0
      · subst hx0
        have hz' : Hid (val (xs.take (k + 1)) = 0) := by unfold Hid; rw [val_take_succ, hz.out, getD_some hxk]; simp
        clear hz hxk
        go_wp2
        go_round
        case rel => exact ⟨k + 1, by omega, by go_num, hz'⟩
        case measure => simp [intOf]; omega
      · have hv : 32 * k + halves x = halves (val xs) := (halves_words hx.small hz.out (getD_some hxk) hx0).symm
        have hh : halves x < 32 := halves_lt hx0 (by simpa using hx32)
        have HV := Lib.hid hv; clear hv hz hxk
        have hx0' : ((x : Int) == 0) = false := by simp; omega
        have HX := Lib.hid hx0; clear hx0
        go_wp2
        go_loop [4, 5] (fun y b => ∃ (yn bn : Nat), yn < 4294967296 ∧ y = .int .u32 yn ∧ b = .int .i64 bn ∧ Hid (yn ≠ 0) ∧ bn + halves yn ≤ 137438953472 ∧ Hid (bn + halves yn = halves (val xs))) (fun y _ => (intOf y).toNat)
        case atStart => exact ⟨x, 32 * k, hx32, rfl, by go_num, HX, by omega, HV⟩
        case round =>
          clear hx0' hc
          obtain ⟨y, b, hy, rfl, rfl, hy0, hbn, hv⟩ := hrel
          by_cases h2 : y % 2 = 0
          · have e := halves_even hy0.out h2
            have hv' : Hid (b + 1 + halves (y / 2) = halves (val xs)) := halves_shift hy0.out h2 hv.out
            have hbn' : b + 1 + halves (y / 2) ≤ 137438953472 := by omega
            have hb' : b < 137438953472 := by omega
            have hy0' : Hid (y / 2 ≠ 0) := by unfold Hid; have := hy0.out; omega
            have h2' : ((y : Int) % 2 == 0) = true := by simp; omega
            clear e hv hbn
            have hy1 : y ≠ 0 := hy0.out
            have HY := Lib.hid hy1
            clear hy1 h2
            go_wp2
            go_round
            case rel => exact ⟨y / 2, b + 1, by omega, by go_num, by go_num, hy0', hbn', hv'⟩
            case measure => have := HY.out; simp [intOf]; omega
          · have hr : (b : Int) = halves (val xs) := by have := hv.out; rw [halves_odd h2] at this; omega
            have h2' : ((y : Int) % 2 == 0) = false := by simp; omega
            have HR := Lib.hid hr; clear hr hv hbn h2
            go_wp2
            go_ret
            exact ⟨ret_int HR.out, rfl⟩
    · obtain rfl : k = n := by omega
      have hr : halves (val xs) = 0 := by
        have := hz.out; rw [List.take_of_length_le (by have := hx.len; omega)] at this; rw [this, halves_zero]
      have HR := Lib.hid hr; clear hr hz
      go_wp2
      go_ret
      exact ⟨ret_int (by rw [HR.out]; rfl), rfl⟩
set_option maxRecDepth 100000 in
set_option maxHeartbeats 400000 in
theorem sub_no {A B : Option Addr} {n c m d : Nat} {xs ys : List Nat} {w : World} (hx : Words w A n c xs) (hy : Words w B m d ys) (h : val xs < val ys) :
    Calls Try.prog 121 #[.slice A n c, .slice B m d] w fun e w' => e = .returned (.tuple #[.slice none 0 0, .bool false]) ∧ ∃ k, w' = w.drewN k := by
  have hc : cmpI (val xs) (val ys) < 0 := cmpI_neg.2 h
  go_enter Try.func121, Try.ntmps121
  go_wp2_with fail
  refine (cmp_any hx hy).mono ?_
  rintro e w' ⟨rfl, q, rfl⟩
  go_wp2
  go_ret2
  exact ⟨rfl, q, rfl⟩

theorem sub_word1 {x b : Nat} (hx : x < 4294967296) (hb : b ≤ 1) : ∃ v b' : Nat, v < 4294967296 ∧ b' ≤ 1 ∧ v + 0 + b = x + 4294967296 * b' ∧
    IntKind.u64.wrap ((x : Int) - b) % 4294967296 = v ∧ IntKind.u64.wrap ((x : Int) - b) / 9223372036854775808 = b' := by
  rw [IntKind.wrap_u64]
  by_cases h : b ≤ x
  · exact ⟨x - b, 0, by omega, by omega, by omega, by omega, by omega⟩
  · exact ⟨x + 4294967296 - b, 1, by omega, by omega, by omega, by omega, by omega⟩
theorem sub_word2 {x b y : Nat} (hx : x < 4294967296) (hb : b ≤ 1) (hy : y < 4294967296) : ∃ v b' : Nat, v < 4294967296 ∧ b' ≤ 1 ∧ v + y + b = x + 4294967296 * b' ∧
    IntKind.u64.wrap (IntKind.u64.wrap ((x : Int) - b) - y) % 4294967296 = v ∧ IntKind.u64.wrap (IntKind.u64.wrap ((x : Int) - b) - y) / 9223372036854775808 = b' := by
  rw [IntKind.wrap_u64, IntKind.wrap_u64]
  by_cases h : b + y ≤ x
  · exact ⟨x - b - y, 0, by omega, by omega, by omega, by omega, by omega⟩
  · exact ⟨x + 4294967296 - b - y, 1, by omega, by omega, by omega, by omega, by omega⟩
set_option maxRecDepth 100000 in
set_option maxHeartbeats 400000 in
theorem sub_yes {A B : Option Addr} {n c m d : Nat} {xs ys : List Nat} {w : World} (hx : Words w A n c xs) (hy : Words w B m d ys) (h : val ys ≤ val xs) (hn : n ≤ 4294967296) (hm : m ≤ 4294967296) :
    Calls Try.prog 121 #[.slice A n c, .slice B m d] w fun e w' => ∃ C k p, e = .returned (.tuple #[.slice C k p, .bool true]) ∧ Words w' C k p (wds (val xs - val ys)) ∧ Below w.heap.size w w' := by
  have hc : ¬ cmpI (val xs) (val ys) < 0 := fun hh => by have := cmpI_neg.1 hh; omega
  obtain ⟨i0, hi, hz0, hz1, hz2⟩ := info_parts info_u32
  have hzx := sz_le xs
  rw [← hx.len] at hzx
  go_enter Try.func121, Try.ntmps121
  go_wp2_with fail
  refine (cmp_any hx hy).mono ?_
  rintro e w' ⟨rfl, q, rfl⟩
  go_wp2_with fail
  refine (size_any (hx.keep (w' := w.drewN q) (fun _ _ => rfl))).mono ?_
  rintro e w' ⟨rfl, rfl⟩
  go_wp2_with (first
    | (at_make
       refine wpList_make_full _ rfl _ _ _ rfl w.heap.size 41 i0 _ 1 Try.underlying38 hi hz0 hz1 _ _ _ _ (sz xs) rfl rfl rfl rfl (by rw [hz2]; omega) (by unfold maxLen; omega) (Nat.le_refl _) ?_
       intro w1 hown1 hg1))
  have hown := Own.of_row hown1
  rw [made_words] at hown
  have hb : Below w.heap.size w w1 := below_undrawn (below_of_grown hg1)
  clear hown1 hg1 hc
  go_loopw [7, 19] (fun bw i wr => ∃ (k b : Nat) (o : List Nat), k ≤ sz xs ∧ i = .int .i64 k ∧ bw = .int .u64 b ∧ b ≤ 1 ∧ SubInv xs ys o (sz xs) k b ∧ Own wr w.heap.size 41 (o.map wv) ∧ Below w.heap.size w wr) (fun _ i _ => sz xs - (intOf i).toNat)
  case atStart => exact ⟨0, 0, _, by omega, rfl, rfl, by omega, SubInv.start _ _ _, hown, hb⟩
  case round =>
    clear hown hb
    obtain ⟨k, b, o, hk, rfl, rfl, hb1, hinv, hown, hb⟩ := hrel
    by_cases hkn : k < sz xs
    · obtain ⟨ad, x, rfl, hxk, hx32, hcx⟩ := (hx.below hb).at_ (k := k) (by omega)
      obtain ⟨old, hold⟩ : ∃ old : Nat, wr.cell? ⟨w.heap.size, k, none⟩ = some (.int .u32 old) := ⟨o[k]'(by have := hinv.1; omega), hown.cellv (by have := hinv.1; simp; omega) (by simp)⟩
      have hfr := hown.free k
      by_cases hkm : k < m
      · obtain ⟨bd, y, rfl, hyk, hy32, hcy'⟩ := (hy.below hb).at_ hkm
        obtain ⟨v, b', hv, hb', he, h1, h2⟩ := sub_word2 hx32 hb1 hy32
        have hs := hinv.step hkn (getD_some hxk) (getD_some hyk) hv hb' he
        have H1 := Lib.hid h1
        have H2 := Lib.hid h2
        clear hxk hyk hinv h1 h2 he
        go_wp2
        rw [H1.out, H2.out]
        go_roundw
        case rel => exact ⟨k + 1, _, _, by omega, by go_num, rfl, hb', hs, hown.setw rfl, hb.setCell (Nat.le_refl _) _⟩
        case measure => simp [intOf]; omega
      · obtain ⟨v, b', hv, hb', he, h1, h2⟩ := sub_word1 hx32 hb1
        have hs := hinv.step hkn (getD_some hxk) (y := 0) (by rw [List.getD_eq_getElem?_getD, List.getElem?_eq_none (by have := hy.len; omega)]; rfl) hv hb' he
        have H1 := Lib.hid h1
        have H2 := Lib.hid h2
        clear hxk hinv h1 h2 he
        go_wp2
        rw [H1.out, H2.out]
        go_roundw
        case rel => exact ⟨k + 1, _, _, by omega, by go_num, rfl, hb', hs, hown.setw rfl, hb.setCell (Nat.le_refl _) _⟩
        case measure => simp [intOf]; omega
    · obtain rfl : k = sz xs := by omega
      have hv := hinv.done hx.small h
      have hl := hinv.1
      have hs := hinv.2.1
      clear hinv
      go_wp2_with fail
      refine (size_any (Words.own (c := sz xs) hown hs hl.symm (Nat.le_refl _) (by unfold maxLen; omega))).mono ?_
      rintro e w' ⟨rfl, rfl⟩
      have hsz := sz_le o
      rw [hl] at hsz
      have HV := Lib.hid hv; clear hv
      have HL := Lib.hid hl; clear hl
      go_wp2
      go_ret2
      refine ⟨_, _, _, rfl, ?_, hb⟩
      have hw := (Words.own (c := sz xs) hown hs HL.out.symm (Nat.le_refl _) (by unfold maxLen; omega)).take hsz
      rw [take_sz hs, HV.out] at hw
      exact hw
end Go.Proofs.Ytdhlcbhpjejljaa
