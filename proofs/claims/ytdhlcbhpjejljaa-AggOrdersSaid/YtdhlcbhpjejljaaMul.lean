/-
  whole.Abs; nat.Trim, nat.Of, nat.Mul.
-/
import Derived.Test.YtdhlcbhpjejljaaNat
import Derived.Test.YtdhlcbhpjejljaaSchema
import Derived.IntWalk
namespace Go.Proofs.Ytdhlcbhpjejljaa
open Go.RowKit

theorem abs_any {a : Int} {w : World} (ha : I64 a) : Calls Try.prog 47 #[.int .i64 a] w fun e w' => e = .returned (.int .u64 (a.natAbs : Int)) ∧ w = w' := by
  unfold I64 at ha
  obtain ⟨h1, h2⟩ := ha
  by_cases h0 : a < 0
  · have HR := Lib.hid (show -(a + 1) + 1 = (a.natAbs : Int) by omega)
    have g1 : 0 ≤ -(a + 1) := by omega
    have g2 : -(a + 1) ≤ 9223372036854775807 := by omega
    have g3 : a + 1 ≤ 0 := by omega
    have d1 : decide (a < 0) = true := decide_eq_true h0
    go_enter Try.func47, Try.ntmps47
    go_wp2
    go_ret
    exact ⟨ret_int (by rw [← HR.out]), rfl⟩
  · have HR := Lib.hid (show a = (a.natAbs : Int) by omega)
    have d1 : decide (a < 0) = false := decide_eq_false h0
    have g1 : 0 ≤ a := by omega
    clear h0 h1
    go_enter Try.func47, Try.ntmps47
    go_wp2
    go_ret
    exact ⟨ret_int HR.out, rfl⟩
theorem words_one (l : List Nat) : ∀ u ∈ l.map wv, u.oneCell' = true := fun u hu => by obtain ⟨n, _, rfl⟩ := List.mem_map.1 hu; rfl
set_option maxRecDepth 100000 in
set_option maxHeartbeats 1000000 in
theorem trim_any {A : Option Addr} {n c : Nat} {xs : List Nat} {w : World} (hx : Words w A n c xs) (hn : n ≤ 4294967296) :
    Calls Try.prog 61 #[.slice A n c] w fun e w' => ∃ C k p, e = .returned (.slice C k p) ∧ Words w' C k p (wds (val xs)) ∧ Below w.heap.size w w' ∧ Typ w' C 41 := by
  have hsz := sz_le xs
  rw [← hx.len] at hsz
  have HT := Lib.hid (take_sz hx.small)
  have hcap := hx.cap
  have hcm := hx.2.2.1
  unfold maxLen at hcm
  have ht := hx.take hsz
  go_enter Try.func61, Try.ntmps61
  go_wp2_with (first
    | (go_at_call 91; refine (size_any hx).mono ?_; rintro e w' ⟨rfl, rfl⟩)
    | (at_builtin; refine wpList_appr (news := (xs.take (sz xs)).map wv) (v := .slice none 0 0) (xs := []) (n := 0) rfl rfl Try.underlying38 info_u32 rfl rfl (World.ownsRow_nil _ w.heap.size _ _) rfl (by rw [List.length_map]; exact ht.1) ht.2.2.2.2 (words_one _) (by unfold maxLen; omega) (by omega) (Nat.le_refl _) ?_; intro v1 w1 hown1 hb1)
    | go_in)
  simp only [Nat.zero_add, List.nil_append] at hown1
  obtain ⟨A2, c2, rfl⟩ := owns_slice hown1
  rw [HT.out] at hown1
  have hW := Words.of_owns hown1 (small_wds _) (by have := hown1.1; rw [List.length_map, Nat.mul_one] at this; exact this.symm)
  have hTy := Typ.of_owns hown1
  have HW := Lib.hid (And.intro hW hTy)
  clear hown1 hW hTy ht
  go_ret
  exact ⟨_, _, _, rfl, HW.out.1, hb1, HW.out.2⟩
set_option maxRecDepth 100000 in
set_option maxHeartbeats 1000000 in
theorem nof_any {x : Nat} {w : World} (hx : W64 x) :
    Calls Try.prog 46 #[.int .u64 (x : Int)] w fun e w' => ∃ C k p, e = .returned (.slice C k p) ∧ Words w' C k p (wds x) ∧ Below w.heap.size w w' ∧ Typ w' C 41 := by
  unfold W64 at hx
  have hv : val [x % 4294967296, x / 4294967296] = x := by simp only [val]; omega
  have hs : Small [x % 4294967296, x / 4294967296] := by intro y hy; simp at hy; rcases hy with rfl | rfl <;> omega
  have g1 : (x : Int) ≤ 18446744073709551615 := by omega
  have g2 : (x : Int) / 4294967296 ≤ 4294967295 := by omega
  have g3 : (0 : Int) ≤ (x : Int) / 4294967296 := by omega
  have HV := Lib.hid hv
  clear hv hx
  go_enter Try.func46, Try.ntmps46
  go_wp2_with fail
  have hw0 := Words.own (n := 2) (c := 2) (xs := [x % 4294967296, x / 4294967296]) (Own.new w 41 ([x % 4294967296, x / 4294967296].map wv)) hs rfl (Nat.le_refl _) (by unfold maxLen; omega)
  refine (trim_any hw0 (by omega)).mono ?_
  rintro e w1 ⟨C, k, p, rfl, hw1, hb1, ht1⟩
  rw [HV.out] at hw1
  have hb2 := ((Below.refl w.heap.size w).alloc (Nat.le_refl _) (.cells ([x % 4294967296, x / 4294967296].map wv).toArray 41)).trans (hb1.mono (by simp))
  have HW := Lib.hid (And.intro hw1 ht1)
  clear hw1 ht1 hw0 hb1
  go_wp2
  go_ret
  exact ⟨_, _, _, rfl, HW.out.1, hb2, HW.out.2⟩

theorem val_set {o : List Nat} {j v : Nat} (h : j < o.length) : val (o.set j v) + 4294967296 ^ j * o.getD j 0 = val o + 4294967296 ^ j * v := by
  induction o generalizing j with
  | nil => simp at h
  | cons x o ih =>
    cases j with
    | zero => simp [val]; omega
    | succ j =>
      have := ih (j := j) (by simpa using h)
      simp only [List.set_cons_succ, val_cons, List.getD_cons_succ, Nat.pow_succ]
      have e1 : 4294967296 ^ j * 4294967296 * o.getD j 0 = 4294967296 * (4294967296 ^ j * o.getD j 0) := by rw [Nat.mul_comm (4294967296 ^ j) 4294967296, Nat.mul_assoc]
      have e2 : 4294967296 ^ j * 4294967296 * v = 4294967296 * (4294967296 ^ j * v) := by rw [Nat.mul_comm (4294967296 ^ j) 4294967296, Nat.mul_assoc]
      rw [e1, e2]
      generalize 4294967296 ^ j * o.getD j 0 = p at *
      generalize 4294967296 ^ j * v = q at *
      omega
theorem getD_set_ne {o : List Nat} {j k v : Nat} (h : j ≠ k) : (o.set j v).getD k 0 = o.getD k 0 := by
  simp only [List.getD_eq_getElem?_getD]; rw [List.getElem?_set_ne h]
def MulIn (xs ys o : List Nat) (n m i k cy x : Nat) : Prop :=
  o.length = n + m ∧ Small o ∧ cy < 4294967296 ∧ val o + 4294967296 ^ (i + k) * cy = val (xs.take i) * val (ys.take m) + 4294967296 ^ i * (x * val (ys.take k)) ∧ ∀ j, i + m ≤ j → o.getD j 0 = 0
def MulOut (xs ys o : List Nat) (n m i : Nat) : Prop :=
  o.length = n + m ∧ Small o ∧ val o = val (xs.take i) * val (ys.take m) ∧ ∀ j, i + m ≤ j → o.getD j 0 = 0
theorem val_zeros (n : Nat) : val (List.replicate n 0) = 0 := by
  induction n with
  | zero => rfl
  | succ n ih => rw [List.replicate_succ, val_cons, ih]
theorem MulOut.start (xs ys : List Nat) (n m : Nat) : MulOut xs ys (List.replicate (n + m) 0) n m 0 := by
  refine ⟨by simp, fun x hx => ?_, ?_, fun j _ => ?_⟩
  · have := List.eq_of_mem_replicate hx; omega
  · rw [val_zeros]; simp [val]
  · rw [List.getD_eq_getElem?_getD]
    by_cases hj : j < n + m
    · rw [List.getElem?_replicate, if_pos hj]; rfl
    · rw [List.getElem?_replicate, if_neg hj]; rfl
theorem MulOut.inner {xs ys o : List Nat} {n m i : Nat} (h : MulOut xs ys o n m i) (x : Nat) : MulIn xs ys o n m i 0 0 x :=
  ⟨h.1, h.2.1, by omega, by rw [h.2.2.1]; simp [val], h.2.2.2⟩
theorem MulIn.step {xs ys o : List Nat} {n m i k cy x y u : Nat} (h : MulIn xs ys o n m i k cy x) (hi : i < n) (hk : k < m) (hy : ys.getD k 0 = y) (hu : o.getD (i + k) 0 = u) (hx32 : x < 4294967296) (hy32 : y < 4294967296) (hu32 : u < 4294967296) :
    MulIn xs ys (o.set (i + k) ((x * y + u + cy) % 4294967296)) n m i (k + 1) ((x * y + u + cy) / 4294967296) x := by
  obtain ⟨h1, h2, h3, h4, h5⟩ := h
  have hp : x * y ≤ 4294967295 * 4294967295 := Nat.mul_le_mul (by omega) (by omega)
  have hs : x * y + u + cy < 18446744073709551616 := by omega
  refine ⟨by rw [List.length_set]; exact h1, h2.set _ (Nat.mod_lt _ (by omega)), by rw [Nat.div_lt_iff_lt_mul (by omega)]; omega, ?_, fun j hj => ?_⟩
  · have hv := val_set (o := o) (j := i + k) (v := (x * y + u + cy) % 4294967296) (by omega)
    rw [hu] at hv
    rw [val_take_succ, hy]
    have e1 : 4294967296 ^ (i + (k + 1)) * ((x * y + u + cy) / 4294967296) + 4294967296 ^ (i + k) * ((x * y + u + cy) % 4294967296) = 4294967296 ^ (i + k) * (x * y + u + cy) := by
      rw [← Nat.add_assoc, Nat.pow_succ, Nat.mul_assoc, ← Nat.mul_add, Nat.div_add_mod]
    have e2 : 4294967296 ^ i * (x * (val (ys.take k) + 4294967296 ^ k * y)) = 4294967296 ^ i * (x * val (ys.take k)) + 4294967296 ^ (i + k) * (x * y) := by
      rw [Nat.mul_add, Nat.mul_add, Nat.pow_add]
      congr 1
      rw [Nat.mul_assoc]
      congr 1
      rw [Nat.mul_left_comm]
    have e3 : 4294967296 ^ (i + k) * (x * y + u + cy) = 4294967296 ^ (i + k) * (x * y) + 4294967296 ^ (i + k) * u + 4294967296 ^ (i + k) * cy := by rw [Nat.mul_add, Nat.mul_add]
    rw [e2]
    rw [e3] at e1
    generalize 4294967296 ^ (i + (k + 1)) * ((x * y + u + cy) / 4294967296) = a1 at *
    generalize 4294967296 ^ (i + k) * ((x * y + u + cy) % 4294967296) = a2 at *
    generalize 4294967296 ^ (i + k) * (x * y) = a3 at *
    generalize 4294967296 ^ (i + k) * u = a4 at *
    generalize 4294967296 ^ (i + k) * cy = a5 at *
    generalize 4294967296 ^ i * (x * val (ys.take k)) = a6 at *
    generalize val (xs.take i) * val (ys.take m) = a7 at *
    omega
  · rw [getD_set_ne (by omega)]; exact h5 j hj
theorem MulIn.done {xs ys o : List Nat} {n m i cy x : Nat} (h : MulIn xs ys o n m i m cy x) (hi : i < n) (hx : xs.getD i 0 = x) : MulOut xs ys (o.set (i + m) cy) n m (i + 1) := by
  obtain ⟨h1, h2, h3, h4, h5⟩ := h
  refine ⟨by rw [List.length_set]; exact h1, h2.set _ h3, ?_, fun j hj => ?_⟩
  · have hv := val_set (o := o) (j := i + m) (v := cy) (by omega)
    rw [h5 (i + m) (Nat.le_refl _), Nat.mul_zero, Nat.add_zero] at hv
    rw [hv, h4, val_take_succ, hx, Nat.add_mul, Nat.mul_assoc]
  · rw [getD_set_ne (by omega)]; exact h5 j (by omega)
theorem MulOut.done {xs ys o : List Nat} (hx : Small xs) (hy : Small ys) (h : MulOut xs ys o (sz xs) (sz ys) (sz xs)) : Small o ∧ o.length = sz xs + sz ys ∧ val o = val xs * val ys :=
  ⟨h.2.1, h.1, by rw [h.2.2.1, val_take_sz hx, val_take_sz hy]⟩
set_option maxRecDepth 100000 in
set_option maxHeartbeats 4000000 in
theorem mul_any {A B : Option Addr} {n c m d : Nat} {xs ys : List Nat} {w : World} (hx : Words w A n c xs) (hy : Words w B m d ys) (hn : n ≤ 65536) (hm : m ≤ 65536) :
    Calls Try.prog 48 #[.slice A n c, .slice B m d] w fun e w' => ∃ C k p, e = .returned (.slice C k p) ∧ Words w' C k p (wds (val xs * val ys)) ∧ Below w.heap.size w w' ∧ Typ w' C 41 := by
  obtain ⟨i0, hi, hz0, hz1, hz2⟩ := info_parts info_u32
  have sx := sz_le xs
  have sy := sz_le ys
  rw [← hx.len] at sx
  rw [← hy.len] at sy
  have HD := Lib.hid (fun o h => MulOut.done (o := o) hx.small hy.small h)
  have HO := Lib.hid (fun o i => MulOut.inner (xs := xs) (ys := ys) (o := o) (n := sz xs) (m := sz ys) (i := i))
  have HST := Lib.hid (MulOut.start xs ys (sz xs) (sz ys))
  obtain ⟨p, hp⟩ : ∃ p, p = sz xs := ⟨_, rfl⟩
  obtain ⟨q, hq⟩ : ∃ q, q = sz ys := ⟨_, rfl⟩
  have HP := Lib.hid hp
  have HQ := Lib.hid hq
  rw [← hp] at sx HD HO HST
  rw [← hq] at sy HD HO HST
  clear hp hq
  go_enter Try.func48, Try.ntmps48
  go_wp2_with fail
  refine (size_any hx).mono ?_
  rintro e w' ⟨rfl, rfl⟩
  rw [← HP.out]
  go_wp2_with fail
  refine (size_any hy).mono ?_
  rintro e w' ⟨rfl, rfl⟩
  rw [← HQ.out]
  go_wp2_with (first
    | (at_make
       refine wpList_make_full _ rfl _ _ _ rfl w.heap.size 41 i0 _ 1 Try.underlying38 hi hz0 hz1 _ _ _ _ (p + q) rfl rfl (by simp) (by simp) (by rw [hz2]; omega) (by unfold maxLen; omega) (Nat.le_refl _) ?_
       intro w1 hown1 hg1))
  have hown := Own.of_row hown1
  rw [made_words] at hown
  have hb := below_of_grown hg1
  clear hown1 hg1
  go_loopw [21] (fun i wr => ∃ (k : Nat) (o : List Nat), k ≤ p ∧ i = .int .i64 k ∧ Hid (MulOut xs ys o p q k) ∧ Own wr w.heap.size 41 (o.map wv) ∧ Below w.heap.size w wr) (fun i _ => p - (intOf i).toNat)
  case atStart => exact ⟨0, _, Nat.zero_le _, rfl, HST.out, hown, hb⟩
  case round =>
    clear hown hb HST
    obtain ⟨i, o, hi', rfl, hinv, hown, hb⟩ := hrel
    by_cases hlt : i < p
    · obtain ⟨ad, x, rfl, hxk, hx32, hcx⟩ := (hx.below hb).at_ (k := i) (by omega)
      have HX := Lib.hid (getD_some hxk)
      have HXA := Lib.hid hxk
      clear hxk hcx
      have HI0 := Lib.hid (HO.out o i hinv.out x)
      have hi1 : (i : Int) < p := by omega
      have hii : (0 : Int) ≤ i := by omega
      clear hinv
      go_upto_region 7 with fail
      go_wp2
      obtain ⟨wo, rfl⟩ : ∃ wo : World, wo = wr := ⟨_, rfl⟩
      go_loopw [9, 25] (fun cv kv wr => ∃ (k cy : Nat) (o : List Nat), k ≤ q ∧ kv = .int .i64 k ∧ cv = .int .u64 cy ∧ Hid (MulIn xs ys o p q i k cy x) ∧ Own wr w.heap.size 41 (o.map wv) ∧ Below w.heap.size w wr) (fun _ kv _ => q - (intOf kv).toNat)
      case atStart => exact ⟨0, 0, o, Nat.zero_le _, rfl, rfl, HI0, hown, hb⟩
      case round =>
        clear hown hb HI0
        obtain ⟨k, cy, o, hk, rfl, rfl, hinv, hown, hb⟩ := hrel
        have ol := hinv.out.1
        have os := hinv.out.2.1
        have ocy := hinv.out.2.2.1
        by_cases hkl : k < q
        · obtain ⟨ad', x', e', hx', _, hcx⟩ := (hx.below hb).at_ (k := i) (by omega)
          injection e' with e'; subst e'
          rw [HXA.out] at hx'; injection hx' with hx'; subst hx'
          obtain ⟨bd, y, rfl, hyk, hy32, hcy⟩ := (hy.below hb).at_ (k := k) (by omega)
          obtain ⟨u, hu⟩ : ∃ u, o.getD (i + k) 0 = u := ⟨_, rfl⟩
          have hu32 : u < 4294967296 := by rw [← hu]; exact getD_small os _
          have hcu : wr.cell? ⟨w.heap.size, i + k, none⟩ = some (.int .u32 (u : Int)) := by
            refine hown.cellv (by rw [List.length_map]; omega) ?_
            rw [List.getElem_map, ← hu, List.getD_eq_getElem?_getD, List.getElem?_eq_getElem (by omega)]; rfl
          have hfr := hown.free (i + k)
          have HS := Lib.hid (hinv.out.step hlt hkl (getD_some hyk) hu hx32 hy32 hu32)
          have pn : x * y ≤ 4294967295 * 4294967295 := Nat.mul_le_mul (by omega) (by omega)
          have p1 : (x : Int) * y ≤ 18446744065119617025 := by
            rw [← Int.natCast_mul]; omega
          have p0 : (0 : Int) ≤ (x : Int) * y := Int.mul_nonneg (by omega) (by omega)
          have HM1 := Lib.hid (show ((((x : Int) * y + u + cy) % 4294967296 : Int)) = (((x * y + u + cy) % 4294967296 : Nat) : Int) by
            rw [Int.natCast_emod, Int.natCast_add, Int.natCast_add, Int.natCast_mul]; rfl)
          have HM2 := Lib.hid (show ((((x : Int) * y + u + cy) / 4294967296 : Int)) = (((x * y + u + cy) / 4294967296 : Nat) : Int) by
            rw [Int.natCast_ediv, Int.natCast_add, Int.natCast_add, Int.natCast_mul]; rfl)
          have k1 : (k : Int) < q := by omega
          have k0 : (0 : Int) ≤ k := by omega
          have j1 : IntKind.i64.wrap ((i : Int) + k) = (i : Int) + k := IntWalk.i64_in _ (by omega)
          have j2 : (0 : Int) ≤ (i : Int) + k := by omega
          have j3 : ((i : Int) + k).toNat = i + k := by omega
          have j4 : (i : Int) + k < ((p + q : Nat) : Int) := by omega
          have z1 : (x : Int) * y + u ≤ 18446744073709551615 := by omega
          have z2 : (x : Int) * y + u + cy ≤ 18446744073709551615 := by omega
          clear hinv hyk hu pn ol os
          go_upto_region 10 with fail
          go_quiet (fail)
          clear j1 j2 j3 p0 p1
          go_wp2
          go_roundw
          case rel =>
            refine ⟨k + 1, (x * y + u + cy) / 4294967296, _, by omega, by go_num, by rw [← HM2.out], HS, ?_, ?_⟩
            · exact (hown.setw HM1.out).drewN _
            · exact below_drawn (hb.setCell (Nat.le_refl _) _) _
          case measure => simp [intOf]; omega
        · obtain rfl : k = q := by omega
          have hfr := hown.free (i + k)
          have hcu : wr.cell? ⟨w.heap.size, i + k, none⟩ = some (.int .u32 ((o.getD (i + k) 0 : Nat) : Int)) := by
            refine hown.cellv (by rw [List.length_map]; omega) ?_
            rw [List.getElem_map, List.getD_eq_getElem?_getD, List.getElem?_eq_getElem (by omega)]; rfl
          have HS := Lib.hid (hinv.out.done hlt HX.out)
          have k1 : ¬ (k : Int) < k := by omega
          clear hinv ol os
          go_wp2
          go_roundw
          case rel => exact ⟨i + 1, _, by omega, by go_num, HS, hown.setw rfl, hb.setCell (Nat.le_refl _) _⟩
          case measure => simp [intOf]; omega
    · obtain rfl : i = p := by omega
      obtain ⟨hs, hl, hv⟩ := HD.out o hinv.out
      have HV := Lib.hid hv
      have HL := Lib.hid hl
      have k1 : ¬ (i : Int) < i := by omega
      clear hinv hv hl
      have hw2 := Words.own (n := i + q) (c := i + q) hown hs (by rw [HL.out]) (Nat.le_refl _) (by unfold maxLen; omega)
      go_wp2_with fail
      refine (size_any hw2).mono ?_
      rintro e w' ⟨rfl, rfl⟩
      have hsz := sz_le o
      rw [HL.out] at hsz
      have HW := Lib.hid (And.intro (hw2.take hsz) (Typ.own hown))
      clear hw2
      go_wp2
      go_ret
      refine ⟨_, _, _, rfl, ?_, hb, HW.out.2⟩
      have := HW.out.1
      rw [take_sz hs, HV.out] at this
      exact this
end Go.Proofs.Ytdhlcbhpjejljaa
