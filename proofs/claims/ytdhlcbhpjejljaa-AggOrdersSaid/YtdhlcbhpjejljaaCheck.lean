/-
  schema.Check: why a schema isn't right.
-/
import Derived.Test.YtdhlcbhpjejljaaSchema
namespace Go.Proofs.Ytdhlcbhpjejljaa
open Go.RowKit

def manyB (s : LS) : Bool := decide (s.dims.length = 0) || decide (6 < s.dims.length) || decide (3 < s.ints.length) || decide (2 < s.nums.length) || decide (15 < s.views.length)
def sizesB : List LD → Int → Bool
  | [], _ => true
  | d :: l, k => if d.size < 1 ∨ 4096 < d.size ∨ 1099511627776 / d.size < k then false else sizesB l (k * d.size)
def viewsGo (l : List Nat) (full : Nat) (i : Nat) : Bool :=
  if h : i < l.length then if full ≤ l[i] ∨ 0 < i ∧ l[i] ≤ l.getD (i - 1) 0 then false else viewsGo l full (i + 1) else true
termination_by l.length - i
decreasing_by omega
/-- The error's number; 0: it is right. -/
def checkF (s : LS) : Nat :=
  if manyB s then 3 else if (namesF s).all isF = false then 8 else if 0 ≤ twF (namesF s) then 9 else if sizesB s.dims 1 = false then 2 else if viewsGo s.views (2 ^ s.dims.length - 1) 0 = false then 6 else 0
theorem sizes_bad {l : List LD} {k : Nat} {d : LD} {K : Int} (h : l[k]? = some d) (hb : d.size < 1 ∨ 4096 < d.size ∨ 1099511627776 / d.size < K) : sizesB (l.drop k) K = false := by
  obtain ⟨hk, rfl⟩ := List.getElem?_eq_some_iff.1 h
  rw [List.drop_eq_getElem_cons hk, sizesB, if_pos hb]
theorem sizes_next {l : List LD} {k : Nat} {d : LD} {K : Int} (h : l[k]? = some d) (hb : ¬ (d.size < 1 ∨ 4096 < d.size ∨ 1099511627776 / d.size < K)) : sizesB (l.drop k) K = sizesB (l.drop (k + 1)) (K * d.size) := by
  obtain ⟨hk, rfl⟩ := List.getElem?_eq_some_iff.1 h
  rw [List.drop_eq_getElem_cons hk, sizesB, if_neg hb]
theorem views_bad {l : List Nat} {full i v : Nat} (h : l[i]? = some v) (hb : full ≤ v ∨ 0 < i ∧ v ≤ l.getD (i - 1) 0) : viewsGo l full i = false := by
  obtain ⟨hk, rfl⟩ := List.getElem?_eq_some_iff.1 h
  rw [viewsGo, dif_pos hk, if_pos hb]
theorem views_next {l : List Nat} {full i v : Nat} (h : l[i]? = some v) (hb : ¬ (full ≤ v ∨ 0 < i ∧ v ≤ l.getD (i - 1) 0)) : viewsGo l full i = viewsGo l full (i + 1) := by
  obtain ⟨hk, rfl⟩ := List.getElem?_eq_some_iff.1 h
  rw [viewsGo, dif_pos hk, if_neg hb]
theorem views_end {l : List Nat} {full i : Nat} (h : l.length ≤ i) : viewsGo l full i = true := by rw [viewsGo, dif_neg (by omega)]
theorem names_bad {l : List ByteArray} {k : Nat} {s : ByteArray} (h : l[k]? = some s) (hf : isF s = false) : l.all isF = false := by
  apply Bool.eq_false_iff.2; intro e
  have := List.all_eq_true.1 e s (List.mem_of_getElem? h)
  rw [hf] at this; cases this
theorem names_next {l : List ByteArray} {k : Nat} {s : ByteArray} (h : (l.take k).all isF = true) (hx : l[k]? = some s) (hf : isF s = true) : (l.take (k + 1)).all isF = true := by
  rw [List.take_add_one, List.all_append, h, hx]; simp [hf]

set_option maxRecDepth 100000 in
set_option maxHeartbeats 4000000 in
theorem check_any {s : LS} {w : World} (hs : s.ok w) :
    Calls Try.prog 64 #[.agg s.cells.toArray] w fun e w' => e = .returned (.int .i64 (checkF s)) ∧ Below w.heap.size w w' := by
  have HF := Lib.hid (show checkF s = if manyB s then 3 else if (namesF s).all isF = false then 8 else if 0 ≤ twF (namesF s) then 9 else if sizesB s.dims 1 = false then 2 else if viewsGo s.views (2 ^ s.dims.length - 1) 0 = false then 6 else 0 from rfl)
  have HM := Lib.hid (show manyB s = (decide (s.dN = 0) || decide (6 < s.dN) || decide (3 < s.iN) || decide (2 < s.nN) || decide (15 < s.vN)) by
    unfold manyB; rw [hs.1.1, hs.2.1.1, hs.2.2.1.1, hs.2.2.2.1])
  have hok := hs
  obtain ⟨dA, dN, dC, dims, iA, iN, iC, ints, nA, nN, nC, nums, vA, vN, vC, views⟩ := s
  obtain ⟨hd, hi, hn, hv⟩ := hs
  dsimp only at *
  have m1 := hd.most
  have m2 := hi.most
  have m3 := hn.most
  have m4 := hv.most
  go_enter Try.func64, Try.ntmps64
  go_upto_region 1 with fail
  obtain ⟨W, hW⟩ : ∃ W, W = w.alloc (.cells (LS.mk dA dN dC dims iA iN iC ints nA nN nC nums vA vN vC views).cells.toArray 40) := ⟨_, rfl⟩
  have o1 : Own W w.heap.size 40 (LS.mk dA dN dC dims iA iN iC ints nA nN nC nums vA vN vC views).cells := by rw [hW]; exact Own.new _ _ _
  have hbW : Below w.heap.size w W := by rw [hW]; exact (Below.refl _ _).alloc (Nat.le_refl _) _
  have hsW : w.heap.size < W.heap.size := by rw [hW]; simp
  rw [← hW]
  clear hW
  have q0 : W.cell? ⟨w.heap.size, 0, none⟩ = some (.slice dA dN dC) := o1.cell 0
  have q1 : W.cell? ⟨w.heap.size, 1, none⟩ = some (.slice iA iN iC) := o1.cell 1
  have q2 : W.cell? ⟨w.heap.size, 2, none⟩ = some (.slice nA nN nC) := o1.cell 2
  have q3 : W.cell? ⟨w.heap.size, 3, none⟩ = some (.slice vA vN vC) := o1.cell 3
  go_cut [39] (fun t wx => ∃ B, t = .bool B ∧ Hid (B = manyB (LS.mk dA dN dC dims iA iN iC ints nA nN nC nums vA vN vC views)) ∧ W = wx)
  case first =>
    clear HF hok
    by_cases e1 : dN = 0
    · have HR := Lib.hid (show true = manyB _ by rw [HM.out, decide_eq_true e1]; rfl)
      have d1 : ((dN : Int) == 0) = true := by simp; omega
      clear HM e1
      go_wp2_with fail
      go_meet
      exact ⟨_, rfl, HR.out, rfl⟩
    · have d1 : ((dN : Int) == 0) = false := by simp; omega
      by_cases e2 : 6 < dN
      · have HR := Lib.hid (show true = manyB _ by rw [HM.out, decide_eq_true e2]; simp)
        have d2 : decide ((6 : Int) < dN) = true := by simp; omega
        clear HM e1 e2
        go_wp2_with fail
        go_meet
        exact ⟨_, rfl, HR.out, rfl⟩
      · have d2 : decide ((6 : Int) < dN) = false := by simp; omega
        by_cases e3 : 3 < iN
        · have HR := Lib.hid (show true = manyB _ by rw [HM.out, decide_eq_true e3]; simp)
          have d3 : decide ((3 : Int) < iN) = true := by simp; omega
          clear HM e1 e2 e3
          go_wp2_with fail
          go_meet
          exact ⟨_, rfl, HR.out, rfl⟩
        · have d3 : decide ((3 : Int) < iN) = false := by simp; omega
          by_cases e4 : 2 < nN
          · have HR := Lib.hid (show true = manyB _ by rw [HM.out, decide_eq_true e4]; simp)
            have d4 : decide ((2 : Int) < nN) = true := by simp; omega
            clear HM e1 e2 e3 e4
            go_wp2_with fail
            go_meet
            exact ⟨_, rfl, HR.out, rfl⟩
          · have d4 : decide ((2 : Int) < nN) = false := by simp; omega
            have HR := Lib.hid (show decide ((15 : Int) < vN) = manyB _ by
              rw [HM.out, decide_eq_false e1, decide_eq_false e2, decide_eq_false e3, decide_eq_false e4]
              simp; omega)
            clear HM e1 e2 e3 e4
            go_wp2_with fail
            go_meet
            exact ⟨_, rfl, HR.out, rfl⟩
  case rest =>
    obtain ⟨B, rfl, HB, rfl⟩ := hcut
    cases B with
    | true =>
      have HR := Lib.hid (show checkF _ = 3 by rw [HF.out, ← HB.out]; rfl)
      clear HF HM HB
      go_wp2
      go_ret
      exact ⟨ret_int (by rw [HR.out]; rfl), hbW⟩
    | false =>
      have hM := HB.out.symm
      rw [HM.out] at hM
      simp only [Bool.or_eq_false_iff, decide_eq_false_iff_not] at hM
      obtain ⟨⟨⟨⟨b0, b1⟩, b2⟩, b3⟩, b4⟩ := hM
      have b0' : 0 < dN := by omega
      have b1' : dN ≤ 6 := by omega
      have b2' : iN ≤ 3 := by omega
      have b3' : nN ≤ 2 := by omega
      have b4' : vN ≤ 15 := by omega
      have HF2 := Lib.hid (HF.out.trans (if_neg (by rw [← HB.out]; simp)))
      clear HF HM HB b0 b1 b2 b3 b4 m1 m2 m3 m4
      have hW' := hok.below hbW
      have HZ := Lib.hid (show (LS.mk dA dN dC dims iA iN iC ints nA nN nC nums vA vN vC views).ok W from hW')
      have HNL := Lib.hid (show (namesF (LS.mk dA dN dC dims iA iN iC ints nA nN nC nums vA vN vC views)).length = dN + iN + nN by
        simp only [namesF, List.length_append, List.length_map]; rw [← hd.1, ← hi.1, ← hn.1])
      have HDL := Lib.hid hd.1
      have HVL := Lib.hid hv.1
      clear hd hi hn hv hok hW'
      go_wp2_with fail
      refine (all_any (s := LS.mk dA dN dC dims iA iN iC ints nA nN nC nums vA vN vC views) HZ.out (by dsimp only; omega) (by dsimp only; omega) (by dsimp only; omega)).mono ?_
      rintro e w1 ⟨NA, Nn, Nc, rfl, hstr, hb1⟩
      have hbw1 := hbW.trans (hb1.mono (Nat.le_of_lt hsW))
      obtain ⟨names, hnames⟩ : ∃ l, l = namesF (LS.mk dA dN dC dims iA iN iC ints nA nN nC nums vA vN vC views) := ⟨_, rfl⟩
      rw [← hnames] at hstr
      have HN := Lib.hid hnames
      clear hnames
      have hNn : Nn ≤ 11 := by have h1 := HNL.out; rw [← HN.out, ← hstr.1] at h1; omega
      have o11 := o1.below hb1 hsW
      clear q0 q1 q2 q3
      go_wp2_with fail
      go_loopw [44] (fun i wr => ∃ k : Nat, k ≤ Nn ∧ i = .int .i64 k ∧ Below W.heap.size W wr ∧ Below w1.heap.size w1 wr ∧ Hid ((names.take k).all isF = true)) (fun i _ => Nn - (intOf i).toNat)
      case atStart => exact ⟨0, Nat.zero_le _, rfl, hb1, Below.refl _ _, rfl⟩
      case round =>
        obtain ⟨k, hk, rfl, hbx, hbr, hinv⟩ := hrel
        by_cases hlt : k < Nn
        · obtain ⟨ad, x, rfl, hxk, hxs, hc⟩ := (hstr.below hbr).at_ hlt
          have HX := Lib.hid hxk
          clear hxk
          have i0 : (0 : Int) ≤ k := by omega
          have i1 : (k : Int) < Nn := by omega
          go_wp2_with fail
          refine (nameis_any x wr hxs).mono ?_
          rintro e w2 ⟨rfl, hb2⟩
          cases hx : isF x with
          | false =>
            have HR := Lib.hid (show checkF _ = 8 by rw [HF2.out, if_pos (by rw [← HN.out]; exact names_bad HX.out hx)])
            clear hx hinv
            go_wp2
            go_ret
            exact ⟨ret_int (by rw [HR.out]; rfl), hbW.trans ((hbx.trans (hb2.mono hbx.size)).mono (Nat.le_of_lt hsW))⟩
          | true =>
            have HI := Lib.hid (names_next hinv.out HX.out hx)
            clear hx hinv
            go_wp2
            go_roundw
            case rel => exact ⟨k + 1, by omega, by go_num, hbx.trans (hb2.mono hbx.size), hbr.trans (hb2.mono hbr.size), HI⟩
            case measure => simp [intOf]; omega
        · obtain rfl : k = Nn := by omega
          have HA := Lib.hid (show names.all isF = true by have := hinv.out; rwa [hstr.1, List.take_length] at this)
          have HF3 := Lib.hid (HF2.out.trans (if_neg (by rw [← HN.out, HA.out]; simp)))
          have i1 : ¬ (k : Int) < k := by omega
          clear HF2 HA hinv hlt hk
          go_wp2_with fail
          refine (twice_any (hstr.below hbr) (by omega)).mono ?_
          rintro e w2 ⟨rfl, hb2⟩
          have hbx2 := hbx.trans (hb2.mono hbx.size)
          clear hstr hbr hb2 hbx
          by_cases ht : 0 ≤ twF names
          · have HR := Lib.hid (show checkF _ = 9 by rw [HF3.out, if_pos (by rw [← HN.out]; exact ht)])
            clear HF3
            go_wp2
            go_ret
            exact ⟨ret_int (by rw [HR.out]; rfl), hbW.trans (hbx2.mono (Nat.le_of_lt hsW))⟩
          · have HF4 := Lib.hid (HF3.out.trans (if_neg (by rw [← HN.out]; exact ht)))
            clear HF3
            have o2 := o1.below hbx2 hsW
            have o1w := o1
            have q0 : w2.cell? ⟨w.heap.size, 0, none⟩ = some (.slice dA dN dC) := o2.cell 0
            have ht' : twF names < 0 := by omega
            clear ht o1 o11 hbw1 hb1
            go_wp2
            clear q0 ht'
            obtain ⟨wo, rfl⟩ : ∃ wo : World, wo = wr := ⟨_, rfl⟩
            clear o2
            go_loopw [6, 58] (fun kv i wr => ∃ (m : Nat) (K : Int), m ≤ dN ∧ i = .int .i64 m ∧ kv = .int .i64 K ∧ 1 ≤ K ∧ K ≤ 1099511627776 ∧ Below W.heap.size W wr ∧ Hid (sizesB (dims.drop m) K = sizesB dims 1)) (fun _ i _ => dN - (intOf i).toNat)
            case atStart => exact ⟨0, 1, Nat.zero_le _, rfl, rfl, by omega, by omega, hbx2, rfl⟩
            case round =>
              clear hbx2
              obtain ⟨m, K, hm, rfl, rfl, hK1, hK2, hbx, hinv⟩ := hrel
              by_cases hlt : m < dN
              · obtain ⟨ad, d, p, rfl, hdk, dok, hp, p0, p1⟩ := (HZ.out.1.below hbx).at_ hlt
                have HX := Lib.hid hdk
                clear hdk
                have i0 : (0 : Int) ≤ m := by omega
                have i1 : (m : Int) < dN := by omega
                have lp : p.block < wr.heap.size := lt_of_cell p0
                have hI := dok.2
                unfold I64 at hI
                obtain ⟨hI1, hI2⟩ := hI
                go_upto_region 16 with fail
                obtain ⟨wd, hwd⟩ : ∃ wd, wd = wr.alloc (.cells #[.string d.nm, .int .i64 d.size] 77) := ⟨_, rfl⟩
                rw [← hwd]
                have ed : wd.cell? ⟨wr.heap.size, 1, none⟩ = some (.int .i64 d.size) := by
                  rw [hwd]; exact (Own.new wr 77 [.string d.nm, .int .i64 d.size]).cell 1
                have hbd : Below W.heap.size W wd := by rw [hwd]; exact hbx.alloc hbx.size _
                clear hwd p0 p1 lp hp
                go_cut [76] (fun t wx => ∃ B, t = .bool B ∧ Hid (B = decide (d.size < 1 ∨ 4096 < d.size ∨ 1099511627776 / d.size < K)) ∧ wd = wx)
                case first =>
                  clear hinv HF4 HX
                  by_cases e1 : d.size < 1
                  · have HR := Lib.hid (show true = decide (d.size < 1 ∨ 4096 < d.size ∨ 1099511627776 / d.size < K) from (decide_eq_true (.inl e1)).symm)
                    have d1 : decide (d.size < 1) = true := decide_eq_true e1
                    go_wp2_with fail
                    go_meet
                    exact ⟨_, rfl, HR.out, rfl⟩
                  · have d1 : decide (d.size < 1) = false := decide_eq_false e1
                    by_cases e2 : 4096 < d.size
                    · have HR := Lib.hid (show true = decide (d.size < 1 ∨ 4096 < d.size ∨ 1099511627776 / d.size < K) from (decide_eq_true (.inr (.inl e2))).symm)
                      have d2 : decide (4096 < d.size) = true := decide_eq_true e2
                      go_wp2_with fail
                      go_meet
                      exact ⟨_, rfl, HR.out, rfl⟩
                    · have d2 : decide (4096 < d.size) = false := decide_eq_false e2
                      have e3 : 1 ≤ d.size := by omega
                      have e4 : d.size ≤ 4096 := by omega
                      have HR := Lib.hid (show decide (1099511627776 / d.size < K) = decide (d.size < 1 ∨ 4096 < d.size ∨ 1099511627776 / d.size < K) by
                        rw [Bool.eq_iff_iff]; simp only [decide_eq_true_eq]
                        exact ⟨fun h => .inr (.inr h), fun h => (h.resolve_left e1).resolve_left e2⟩)
                      clear e1 e2
                      go_wp2_with fail
                      go_meet
                      exact ⟨_, rfl, HR.out, rfl⟩
                case rest =>
                  obtain ⟨B, rfl, HB, rfl⟩ := hcut
                  cases B with
                  | true =>
                    have HR := Lib.hid (show checkF _ = 2 by rw [HF4.out, if_pos (by rw [← hinv.out]; exact sizes_bad HX.out (of_decide_eq_true HB.out.symm))])
                    clear hinv HF4
                    go_wp2
                    go_ret
                    exact ⟨ret_int (by rw [HR.out]; rfl), hbW.trans (hbd.mono (Nat.le_of_lt hsW))⟩
                  | false =>
                    have hno := of_decide_eq_false HB.out.symm
                    have HI := Lib.hid ((sizes_next HX.out hno).symm.trans hinv.out)
                    have n1 : 1 ≤ d.size := by omega
                    have n2 : d.size ≤ 4096 := by omega
                    have n3 : K * d.size ≤ 1099511627776 := by
                      have : K ≤ 1099511627776 / d.size := by omega
                      exact Int.le_trans (Int.mul_le_mul_of_nonneg_right this (by omega)) (Int.ediv_mul_le _ (by omega))
                    have n4 : 1 ≤ K * d.size := Int.le_trans (by omega) (Int.mul_le_mul (show (1 : Int) ≤ K by omega) n1 (by omega) (by omega))
                    clear hno hinv HB
                    go_wp2
                    go_roundw
                    case rel => exact ⟨m + 1, K * d.size, by omega, by go_num, rfl, n4, n3, hbd, HI⟩
                    case measure => simp [intOf]; omega
              · obtain rfl : m = dN := by omega
                have HS2 := Lib.hid (show sizesB dims 1 = true by
                  rw [← hinv.out, List.drop_eq_nil_of_le (by rw [HDL.out]; exact Nat.le_refl _)]; rfl)
                have HF5 := Lib.hid (HF4.out.trans ((if_neg (by rw [HS2.out]; simp)).trans (show _ = if viewsGo views (2 ^ m - 1) 0 = false then 6 else 0 by rw [← HDL.out])))
                have o2 := o1w.below hbx hsW
                have q0 : wr.cell? ⟨w.heap.size, 0, none⟩ = some (.slice dA m dC) := o2.cell 0
                have q3 : wr.cell? ⟨w.heap.size, 3, none⟩ = some (.slice vA vN vC) := o2.cell 3
                have i1 : ¬ (m : Int) < m := by omega
                clear HF4 HS2 hinv hlt hm
                go_upto_region 20 with fail
                go_cut [9] (fun t wx => t = .int .u32 ((2 ^ m - 1 : Nat) : Int) ∧ wr = wx)
                case first =>
                  clear HF5 hbx o2 HZ HDL
                  have hm6 : m = 1 ∨ m = 2 ∨ m = 3 ∨ m = 4 ∨ m = 5 ∨ m = 6 := by omega
                  rcases hm6 with rfl | rfl | rfl | rfl | rfl | rfl
                  all_goals
                    go_wp2_with fail
                    go_meet
                    exact ⟨rfl, rfl⟩
                case rest =>
                  obtain ⟨rfl, rfl⟩ := hcut
                  clear q0
                  obtain ⟨full, hfull⟩ : ∃ f, f = 2 ^ m - 1 := ⟨_, rfl⟩
                  have hf64 : full ≤ 63 := by
                    have hm6 : m = 1 ∨ m = 2 ∨ m = 3 ∨ m = 4 ∨ m = 5 ∨ m = 6 := by omega
                    rcases hm6 with rfl | rfl | rfl | rfl | rfl | rfl <;> simp at hfull <;> omega
                  rw [← hfull] at HF5 ⊢
                  clear hfull
                  have hvw := HZ.out.2.2.2.below hbx
                  dsimp only at hvw
                  clear HZ i1
                  go_upto_region 21 with fail
                  go_wp2_with fail
                  go_loop [90] (fun i => ∃ k : Nat, k ≤ vN ∧ i = .int .i64 k ∧ Hid (viewsGo views full k = viewsGo views full 0)) (fun i => vN - (intOf i).toNat)
                  case atStart => exact ⟨0, Nat.zero_le _, rfl, rfl⟩
                  case round =>
                    obtain ⟨k, hk, rfl, hinv⟩ := hrel
                    by_cases hlt : k < vN
                    · obtain ⟨ad, v, rfl, hvk, hv32, hc⟩ := hvw.at_ hlt
                      have HX := Lib.hid hvk
                      clear hvk
                      have i0 : (0 : Int) ≤ k := by omega
                      have i1 : (k : Int) < vN := by omega
                      have HPV := Lib.hid (show 0 < k → ∃ u, views.getD (k - 1) 0 = u ∧ wr.cell? (ad.add (k - 1)) = some (.int .u32 (u : Int)) from fun h => by
                        obtain ⟨ad', u, e, eu, _, hcu⟩ := hvw.at_ (k := k - 1) (by omega)
                        injection e with e; subst e
                        exact ⟨u, getD_some eu, hcu⟩)
                      go_upto_region 24 with fail
                      go_cut [111] (fun t wx => ∃ B, t = .bool B ∧ Hid (B = decide (full ≤ v ∨ 0 < k ∧ v ≤ views.getD (k - 1) 0)) ∧ wr = wx)
                      case first =>
                        clear HF5 hinv HX
                        by_cases e1 : full ≤ v
                        · have HR := Lib.hid (show true = decide (full ≤ v ∨ 0 < k ∧ v ≤ views.getD (k - 1) 0) from (decide_eq_true (.inl e1)).symm)
                          have d1 : decide (full ≤ v) = true := decide_eq_true e1
                          clear HPV
                          go_wp2_with fail
                          go_meet
                          exact ⟨_, rfl, HR.out, rfl⟩
                        · have d1 : decide (full ≤ v) = false := decide_eq_false e1
                          by_cases e2 : 0 < k
                          · obtain ⟨u, eu, hcu⟩ := HPV.out e2
                            have HR := Lib.hid (show decide (v ≤ u) = decide (full ≤ v ∨ 0 < k ∧ v ≤ views.getD (k - 1) 0) by
                              rw [eu, Bool.eq_iff_iff]; simp only [decide_eq_true_eq]; omega)
                            have d2 : decide (0 < k) = true := decide_eq_true e2
                            have d3 : (0 : Int) ≤ (k : Int) - 1 := by omega
                            have d3' : (1 : Int) ≤ (k : Int) := by omega
                            have d4 : (k : Int) - 1 < vN := by omega
                            have d5 : ((k : Int) - 1).toNat = k - 1 := by omega
                            clear HPV e1 eu
                            go_wp2_with fail
                            go_meet
                            exact ⟨_, rfl, HR.out, rfl⟩
                          · have HR := Lib.hid (show false = decide (full ≤ v ∨ 0 < k ∧ v ≤ views.getD (k - 1) 0) from (decide_eq_false (by omega)).symm)
                            have d2 : decide (0 < k) = false := decide_eq_false e2
                            clear HPV e1 e2
                            go_wp2_with fail
                            go_meet
                            exact ⟨_, rfl, HR.out, rfl⟩
                      case rest =>
                        obtain ⟨B, rfl, HB, rfl⟩ := hcut
                        clear HPV
                        cases B with
                        | true =>
                          have HR := Lib.hid (show checkF _ = 6 by rw [HF5.out, if_pos (by rw [← hinv.out]; exact views_bad HX.out (of_decide_eq_true HB.out.symm))])
                          clear hinv HF5
                          go_wp2
                          go_ret
                          exact ⟨ret_int (by rw [HR.out]; rfl), hbW.trans (hbx.mono (Nat.le_of_lt hsW))⟩
                        | false =>
                          have HI := Lib.hid ((views_next HX.out (of_decide_eq_false HB.out.symm)).symm.trans hinv.out)
                          clear hinv HB
                          go_wp2
                          go_round
                          case rel => exact ⟨k + 1, by omega, by go_num, HI⟩
                          case measure => simp [intOf]; omega
                    · have HR := Lib.hid (show checkF _ = 0 by rw [HF5.out, if_neg (by rw [← hinv.out, views_end (by rw [← HVL.out]; omega)]; simp)])
                      have i1 : ¬ (k : Int) < vN := by omega
                      clear hinv HF5
                      go_wp2
                      go_ret
                      exact ⟨ret_int (by rw [HR.out]; rfl), hbW.trans (hbx.mono (Nat.le_of_lt hsW))⟩
end Go.Proofs.Ytdhlcbhpjejljaa
