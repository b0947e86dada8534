/-
  key.Of: the key of codes.
-/
import Derived.Test.YtdhlcbhpjejljaaFact
namespace Go.Proofs.Ytdhlcbhpjejljaa
open Go.RowKit

/-- The key of the codes from a place on; none: a code is out of its range. -/
def keyGo (mask : Nat) : List LD → List Int → Nat → Nat → Option Nat
  | d :: m, c :: l, i, k => if mask / 2 ^ i % 2 = 0 then keyGo mask m l (i + 1) k else if c < 0 ∨ d.size ≤ c then none else keyGo mask m l (i + 1) (k * d.size.toNat + c.toNat)
  | _, _, _, k => some k
def ofF (s : LS) (mask : Nat) (codes : List Int) : Nat × Nat :=
  if askF s mask ≠ 0 then (0, askF s mask) else if codes.length ≠ s.dims.length then (0, 3) else match keyGo mask s.dims codes 0 0 with
  | none => (0, 2)
  | some k => (k, 0)
theorem keyGo_skip {mask : Nat} {m : List LD} {l : List Int} {k key : Nat} {d : LD} {c : Int} (h : m[k]? = some d) (h' : l[k]? = some c) (hb : mask / 2 ^ k % 2 = 0) : keyGo mask (m.drop k) (l.drop k) k key = keyGo mask (m.drop (k + 1)) (l.drop (k + 1)) (k + 1) key := by
  obtain ⟨hk, rfl⟩ := List.getElem?_eq_some_iff.1 h
  obtain ⟨hk', rfl⟩ := List.getElem?_eq_some_iff.1 h'
  rw [List.drop_eq_getElem_cons hk, List.drop_eq_getElem_cons hk', keyGo, if_pos hb]
theorem keyGo_bad {mask : Nat} {m : List LD} {l : List Int} {k key : Nat} {d : LD} {c : Int} (h : m[k]? = some d) (h' : l[k]? = some c) (hb : ¬ mask / 2 ^ k % 2 = 0) (hc : c < 0 ∨ d.size ≤ c) : keyGo mask (m.drop k) (l.drop k) k key = none := by
  obtain ⟨hk, rfl⟩ := List.getElem?_eq_some_iff.1 h
  obtain ⟨hk', rfl⟩ := List.getElem?_eq_some_iff.1 h'
  rw [List.drop_eq_getElem_cons hk, List.drop_eq_getElem_cons hk', keyGo, if_neg hb, if_pos hc]
theorem keyGo_next {mask : Nat} {m : List LD} {l : List Int} {k key : Nat} {d : LD} {c : Int} (h : m[k]? = some d) (h' : l[k]? = some c) (hb : ¬ mask / 2 ^ k % 2 = 0) (hc : ¬ (c < 0 ∨ d.size ≤ c)) : keyGo mask (m.drop k) (l.drop k) k key = keyGo mask (m.drop (k + 1)) (l.drop (k + 1)) (k + 1) (key * d.size.toNat + c.toNat) := by
  obtain ⟨hk, rfl⟩ := List.getElem?_eq_some_iff.1 h
  obtain ⟨hk', rfl⟩ := List.getElem?_eq_some_iff.1 h'
  rw [List.drop_eq_getElem_cons hk, List.drop_eq_getElem_cons hk', keyGo, if_neg hb, if_neg hc]
theorem keyGo_end {mask : Nat} {m : List LD} {l : List Int} {k key : Nat} (h : m.length ≤ k) : keyGo mask (m.drop k) (l.drop k) k key = some key := by
  rw [List.drop_eq_nil_of_le h]; rfl
theorem ask_zero {s : LS} {mask : Nat} (h : askF s mask = 0) : checkF s = 0 := by
  unfold askF at h
  split at h
  · cases h
  · rename_i hf
    unfold fullF at hf
    split at hf
    · assumption
    · exact absurd rfl hf
theorem sizes_step {l : List LD} {k : Nat} {d : LD} {K : Int} (h : l[k]? = some d) (hs : sizesB (l.drop k) K = true) (hK : 1 ≤ K) : 1 ≤ d.size ∧ d.size ≤ 4096 ∧ 1 ≤ K * d.size ∧ K * d.size ≤ 1099511627776 ∧ sizesB (l.drop (k + 1)) (K * d.size) = true := by
  obtain ⟨hk, rfl⟩ := List.getElem?_eq_some_iff.1 h
  rw [List.drop_eq_getElem_cons hk, sizesB] at hs
  split at hs
  · cases hs
  · rename_i hno
    have n1 : 1 ≤ l[k].size := by omega
    refine ⟨n1, by omega, Int.le_trans (by omega) (Int.mul_le_mul hK n1 (by omega) (by omega)), ?_, hs⟩
    have : K ≤ 1099511627776 / l[k].size := by omega
    exact Int.le_trans (Int.mul_le_mul_of_nonneg_right this (by omega)) (Int.ediv_mul_le _ (by omega))
theorem bit_test {mask : Nat} (hm : mask < 4294967296) (P : Nat) : (bits BinOp.and .u32 ((mask : Int) / (P : Int)) 1 == 0) = decide (mask / P % 2 = 0) := by
  have hlt : mask / P < 4294967296 := Nat.lt_of_le_of_lt (Nat.div_le_self _ _) hm
  rw [← Int.natCast_ediv, show (1 : Int) = ((1 : Nat) : Int) from rfl, u32_and_nat _ 1 hlt (by omega), Nat.and_one_is_mod, Bool.eq_iff_iff]
  simp; omega
theorem ret_of {s : LS} {mask : Nat} {codes : List Int} {a b : Nat} (h : ofF s mask codes = (a, b)) : Ending.returned (.tuple #[.int .u64 (a : Int), .int .i64 (b : Int)]) = .returned (.tuple #[.int .u64 ((ofF s mask codes).1 : Int), .int .i64 ((ofF s mask codes).2 : Int)]) := by rw [h]
set_option maxRecDepth 100000 in
set_option maxHeartbeats 4000000 in
theorem of_any {s : LS} {A : Option Addr} {n c : Nat} {codes : List Int} {w : World} (hs : s.ok w) (hx : Nums w A n c codes) (mask : Nat) (hmk : mask < 4294967296) :
    Calls Try.prog 45 #[.agg s.cells.toArray, .int .u32 (mask : Int), .slice A n c] w fun e w' => e = .returned (.tuple #[.int .u64 ((ofF s mask codes).1 : Int), .int .i64 ((ofF s mask codes).2 : Int)]) ∧ Below w.heap.size w w' := by
  have HF := Lib.hid (show ofF s mask codes = if askF s mask ≠ 0 then (0, askF s mask) else if n ≠ s.dN then (0, 3) else match keyGo mask s.dims codes 0 0 with | none => (0, 2) | some k => (k, 0) by
    unfold ofF; rw [hs.1.1, hx.1])
  have HA := Lib.hid (fun h => ask_zero (s := s) (mask := mask) h)
  have HS := Lib.hid (fun h => check_sizes (s := s) h)
  have HD := Lib.hid (fun h => check_dims (s := s) h)
  have hok := hs
  obtain ⟨dA, dN, dC, dims, iA, iN, iC, ints, nA, nN, nC, nums, vA, vN, vC, views⟩ := s
  obtain ⟨hd, hi, hn, hv⟩ := hs
  dsimp only at *
  have m1 := hd.most
  have m2 := hx.most
  clear hi hn hv
  go_enter Try.func45, Try.ntmps45
  go_upto_region 1 with fail
  obtain ⟨W, hW⟩ : ∃ W, W = w.alloc (.cells (LS.mk dA dN dC dims iA iN iC ints nA nN nC nums vA vN vC views).cells.toArray 40) := ⟨_, rfl⟩
  have o1 : Own W w.heap.size 40 (LS.mk dA dN dC dims iA iN iC ints nA nN nC nums vA vN vC views).cells := by rw [hW]; exact Own.new _ _ _
  have hbW : Below w.heap.size w W := by rw [hW]; exact (Below.refl _ _).alloc (Nat.le_refl _) _
  have hsW : w.heap.size < W.heap.size := by rw [hW]; simp
  rw [← hW]
  clear hW
  have hW' := hok.below hbW
  have hd' := hd.below hbW
  have hx' := hx.below hbW
  clear hok hd hx
  have q0 : W.cell? ⟨w.heap.size, 0, none⟩ = some (.slice dA dN dC) := o1.cell 0
  have q1 : W.cell? ⟨w.heap.size, 1, none⟩ = some (.slice iA iN iC) := o1.cell 1
  have q2 : W.cell? ⟨w.heap.size, 2, none⟩ = some (.slice nA nN nC) := o1.cell 2
  have q3 : W.cell? ⟨w.heap.size, 3, none⟩ = some (.slice vA vN vC) := o1.cell 3
  go_wp2_with fail
  refine (ask_any (s := LS.mk dA dN dC dims iA iN iC ints nA nN nC nums vA vN vC views) hW' mask).mono ?_
  rintro e w1 ⟨rfl, hb1⟩
  have hbw := hbW.trans (hb1.mono (Nat.le_of_lt hsW))
  have o11 := o1.below hb1 hsW
  have r0 : w1.cell? ⟨w.heap.size, 0, none⟩ = some (.slice dA dN dC) := o11.cell 0
  clear q0 q1 q2 q3 hW'
  generalize hch : askF (LS.mk dA dN dC dims iA iN iC ints nA nN nC nums vA vN vC views) mask = ch at *
  have HCH := Lib.hid hch
  clear hch
  by_cases hc : ch = 0
  · subst hc
    have HF2 := Lib.hid (HF.out.trans (if_neg (by simp)))
    have hck := HA.out rfl
    have HSZ := Lib.hid (HS.out hck)
    have hd6 := HD.out hck
    have HDL := Lib.hid hd'.1
    have hdn : dN ≤ 6 := by have := hd'.1; omega
    clear HF HA HS HD HCH hck hd6
    by_cases hne : n = dN
    · subst hne
      have HF3 := Lib.hid (HF2.out.trans (if_neg (by simp)))
      clear HF2
      go_wp2
      clear r0
      go_loopw [9, 27] (fun kv i wr => ∃ (k key : Nat) (K : Int), k ≤ n ∧ i = .int .i64 k ∧ kv = .int .u64 (key : Int) ∧ (key : Int) < K ∧ 1 ≤ K ∧ K ≤ 1099511627776 ∧ Below W.heap.size W wr ∧ Hid (sizesB (dims.drop k) K = true) ∧ Hid (keyGo mask (dims.drop k) (codes.drop k) k key = keyGo mask dims codes 0 0)) (fun _ i _ => n - (intOf i).toNat)
      case atStart => exact ⟨0, 0, 1, Nat.zero_le _, rfl, rfl, by omega, by omega, by omega, hb1, HSZ, rfl⟩
      case round =>
        clear HSZ hb1 hbw o11
        obtain ⟨k, key, K, hk, rfl, rfl, hkK, hK1, hK2, hbx, hsz, hinv⟩ := hrel
        by_cases hlt : k < n
        · obtain ⟨ad, cv, rfl, hck, hcI, hc⟩ := (hx'.below hbx).at_ hlt
          obtain ⟨bd, d, p, rfl, hdk, dok, hp, p0, p1⟩ := (hd'.below hbx).at_ hlt
          obtain ⟨n1, n2, n3, n4, hsz'⟩ := sizes_step hdk hsz.out hK1
          have HX := Lib.hid hck
          have HY := Lib.hid hdk
          have HZ := Lib.hid hsz'
          clear hck hdk hsz hsz'
          have i0 : (0 : Int) ≤ k := by omega
          have i1 : (k : Int) < n := by omega
          have lp : p.block < wr.heap.size := lt_of_cell p0
          have la := lt_of_cell hc
          go_upto_region 10 with fail
          obtain ⟨wd, hwd⟩ : ∃ wd, wd = wr.alloc (.cells #[.string d.nm, .int .i64 d.size] 77) := ⟨_, rfl⟩
          rw [← hwd]
          have ed : wd.cell? ⟨wr.heap.size, 1, none⟩ = some (.int .i64 d.size) := by
            rw [hwd]; exact (Own.new wr 77 [.string d.nm, .int .i64 d.size]).cell 1
          have hbd : Below W.heap.size W wd := by rw [hwd]; exact hbx.alloc hbx.size _
          have hcd : wd.cell? (ad.add k) = some (.int .i64 cv) := by
            rw [hwd]; exact (((Below.refl wr.heap.size wr).alloc (Nat.le_refl _) _).cell la).trans hc
          clear hwd p0 p1 lp hp hc la
          go_cut [36] (fun t wx => ∃ B, t = .bool B ∧ Hid (B = decide (mask / 2 ^ k % 2 = 0)) ∧ wd = wx)
          case first =>
            clear HF3 hinv HX HY HZ hbd hcd ed
            have hk6 : k = 0 ∨ k = 1 ∨ k = 2 ∨ k = 3 ∨ k = 4 ∨ k = 5 := by omega
            rcases hk6 with rfl | rfl | rfl | rfl | rfl | rfl
            · go_wp2_with fail
              go_meet
              exact ⟨_, rfl, by have := bit_test hmk 1; simp at this; simpa [Hid] using this, rfl⟩
            · go_wp2_with fail
              go_meet
              exact ⟨_, rfl, bit_test hmk 2, rfl⟩
            · go_wp2_with fail
              go_meet
              exact ⟨_, rfl, bit_test hmk 4, rfl⟩
            · go_wp2_with fail
              go_meet
              exact ⟨_, rfl, bit_test hmk 8, rfl⟩
            · go_wp2_with fail
              go_meet
              exact ⟨_, rfl, bit_test hmk 16, rfl⟩
            · go_wp2_with fail
              go_meet
              exact ⟨_, rfl, bit_test hmk 32, rfl⟩
          case rest =>
            obtain ⟨B, rfl, HB, rfl⟩ := hcut
            have hKK : K ≤ K * d.size := by
              have := Int.mul_le_mul_of_nonneg_left n1 (show (0 : Int) ≤ K by omega)
              rwa [Int.mul_one] at this
            cases B with
            | true =>
              have HI := Lib.hid ((keyGo_skip HY.out HX.out (of_decide_eq_true HB.out.symm)).symm.trans hinv.out)
              clear hinv HB HX HY hcd ed
              go_wp2
              go_roundw
              case rel => exact ⟨k + 1, key, K * d.size, by omega, by go_num, rfl, by omega, n3, n4, hbd, HZ, HI⟩
              case measure => simp [intOf]; omega
            | false =>
              have hbit := Lib.hid (of_decide_eq_false HB.out.symm)
              clear HB
              go_upto_region 11 with fail
              go_cut [50] (fun t wx => ∃ B, t = .bool B ∧ Hid (B = decide (cv < 0 ∨ d.size ≤ cv)) ∧ ∃ q, wx = wd.drewN q)
              case first =>
                clear HF3 hinv HX HY HZ hbd
                by_cases e1 : cv < 0
                · have HR := Lib.hid (show true = decide (cv < 0 ∨ d.size ≤ cv) from (decide_eq_true (.inl e1)).symm)
                  have d1 : decide (cv < 0) = true := decide_eq_true e1
                  go_quiet (fail)
                  go_wp2_with fail
                  go_meet
                  exact ⟨_, rfl, HR.out, _, rfl⟩
                · have d1 : decide (cv < 0) = false := decide_eq_false e1
                  have HR := Lib.hid (show decide (d.size ≤ cv) = decide (cv < 0 ∨ d.size ≤ cv) by
                    rw [Bool.eq_iff_iff]; simp only [decide_eq_true_eq]; omega)
                  clear e1
                  go_quiet (fail)
                  go_wp2_with fail
                  go_meet
                  exact ⟨_, rfl, HR.out, _, rfl⟩
              case rest =>
                obtain ⟨B, rfl, HB, q, rfl⟩ := hcut
                have hbq := below_drawn hbd q
                cases B with
                | true =>
                  have HR := Lib.hid (show ofF _ mask codes = (0, 2) by
                    rw [HF3.out, ← hinv.out, keyGo_bad HY.out HX.out hbit.out (of_decide_eq_true HB.out.symm)])
                  clear hinv HF3
                  go_wp2
                  go_ret2
                  exact ⟨ret_of HR.out, hbW.trans (hbq.mono (Nat.le_of_lt hsW))⟩
                | false =>
                  have hno := of_decide_eq_false HB.out.symm
                  have HI := Lib.hid ((keyGo_next HY.out HX.out hbit.out hno).symm.trans hinv.out)
                  have c0 : 0 ≤ cv := by omega
                  have c1 : cv < d.size := by omega
                  have ckey : ((key * d.size.toNat + cv.toNat : Nat) : Int) = (key : Int) * d.size + cv := by
                    rw [Int.natCast_add, Int.natCast_mul, Int.toNat_of_nonneg (by omega), Int.toNat_of_nonneg c0]
                  have k1 : ((key : Int) + 1) * d.size ≤ K * d.size := Int.mul_le_mul_of_nonneg_right (by omega) (by omega)
                  rw [Int.add_mul, Int.one_mul] at k1
                  have k0 : 0 ≤ (key : Int) * d.size := Int.mul_nonneg (by omega) (by omega)
                  have CK := Lib.hid ckey
                  have klt : ((key * d.size.toNat + cv.toNat : Nat) : Int) < K * d.size := by rw [ckey]; omega
                  have k2 : (key : Int) * d.size + cv ≤ 1099511627776 := by omega
                  have k3 : (key : Int) * d.size ≤ 1099511627776 := by omega
                  have d0 : 0 ≤ d.size := by omega
                  clear hno hinv HB ckey k1 HX HY
                  go_upto_region 13 with fail
                  go_quiet (fail)
                  clear hcd ed
                  go_wp2
                  go_roundw
                  case rel => exact ⟨k + 1, _, K * d.size, by omega, by go_num, by rw [CK.out], klt, n3, n4, below_drawn hbd _, HZ, HI⟩
                  case measure => simp [intOf]; omega
        · have HR := Lib.hid (show ofF _ mask codes = (key, 0) by
            rw [HF3.out, ← hinv.out, keyGo_end (by rw [← HDL.out]; omega)])
          have i1 : ¬ (k : Int) < n := by omega
          clear hinv HF3
          go_wp2
          go_ret2
          exact ⟨ret_of HR.out, hbW.trans (hbx.mono (Nat.le_of_lt hsW))⟩
    · have HR := Lib.hid (HF2.out.trans (if_pos hne))
      have d1 : ((n : Int) != dN) = true := by simp; omega
      clear HF2 hne
      go_wp2
      go_ret2
      exact ⟨ret_of HR.out, hbw⟩
  · have HR := Lib.hid (HF.out.trans (if_pos hc))
    have d1 : ((ch : Int) != 0) = true := by simp; omega
    clear HF HA HS HD HCH hc
    go_wp2
    go_ret2
    exact ⟨ret_of HR.out, hbw⟩
end Go.Proofs.Ytdhlcbhpjejljaa
