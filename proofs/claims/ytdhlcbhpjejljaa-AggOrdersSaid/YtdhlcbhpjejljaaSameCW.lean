import Derived.Test.YtdhlcbhpjejljaaSameCL
import Derived.Deep.RegionHeld3
import Derived.Laws.BytesArg
namespace Go.Proofs.Ytdhlcbhpjejljaa
open Go.RowKit
theorem two_new (w : World) (e : TypeId) (v1 v2 : List Value) : Own ((w.alloc (.cells v1.toArray e)).alloc (.cells v2.toArray e)).drew w.heap.size e v1 ∧ Own ((w.alloc (.cells v1.toArray e)).alloc (.cells v2.toArray e)).drew (w.heap.size + 1) e v2 ∧ Below w.heap.size w ((w.alloc (.cells v1.toArray e)).alloc (.cells v2.toArray e)).drew := by
  have h2 := Own.new (w.alloc (.cells v1.toArray e)) e v2
  exact ⟨((Own.new w e v1).alloc _).drew, Own.drew (by simpa using h2), (below_2 w _ _).drew⟩
/-- Bytes as a text. -/
def strN (xs : List Nat) : ByteArray := ⟨(xs.map UInt8.ofNat).toArray⟩
theorem foldl_strN : ∀ (xs : List Nat) (s : ByteArray), (xs.map (fun x : Nat => (x : Int))).foldl (fun r n => r.push (UInt8.ofNat n.toNat)) s = ⟨s.data ++ (xs.map UInt8.ofNat).toArray⟩
  | [], s => by simp
  | n :: ns, s => by
    rw [List.map_cons, List.foldl_cons, foldl_strN ns]
    simp [ByteArray.push]
theorem conv_bytes {P : Program} {w : World} {A : Option Addr} {n c : Nat} {xs : List Nat} (hx : Bytes w A n c xs) (src dst e : TypeId) (hs : P.underlying src = some (.slice e)) (he : P.underlying e = some (.int .u8)) (hd : P.underlying dst = some .string) :
    (convert src dst (.slice A n c)).run P w = .ok (.string (strN xs)) w := by
  cases A with
  | none =>
    have : xs = [] := by
      cases xs with
      | nil => rfl
      | cons x l => obtain ⟨ad, h, _⟩ := hx.2.2.2.2 0 (by simp); cases h
    subst this
    rw [run_convert_bytes_nil w src e hs he n c dst hd]; rfl
  | some ad =>
    have hl : (loadCells ad n).run P w = .ok ((xs.map (fun x : Nat => (x : Int))).map (Value.int .u8)).toArray w := by
      have := run_loadCells_list (P := P) w ad (xs.map bv) (fun j v hj => by
        have hjl : j < (xs.map bv).length := (List.getElem?_eq_some_iff.1 hj).1
        obtain ⟨ad', h, hc⟩ := hx.2.2.2.2 j hjl
        injection h with h; subst h
        rw [hc, hj])
      rw [hx.len]
      simpa [bv, Function.comp_def] using this
    rw [run_convert_bytes_string w src dst e _ n c hs he hd, run_bytesToString w _ n c _ hl, foldl_strN]
    simp [strN, ByteArray.empty, ByteArray.emptyWithCapacity]; rfl
theorem strN_inj {xs ys : List Nat} (hx : Bytey xs) (hy : Bytey ys) (h : strN xs = strN ys) : xs = ys := by
  have h1 : xs.map UInt8.ofNat = ys.map UInt8.ofNat := by
    have := congrArg (fun s : ByteArray => s.data.toList) h
    simpa [strN] using this
  have h2 : ∀ {l : List Nat}, Bytey l → (l.map UInt8.ofNat).map UInt8.toNat = l := fun {l} hl => by
    rw [List.map_map]
    conv => rhs; rw [← List.map_id l]
    apply List.map_congr_left
    intro x hx
    simp [Nat.mod_eq_of_lt (hl x hx)]
  rw [← h2 hx, ← h2 hy, h1]
theorem strN_eq {xs ys : List Nat} (h : xs = ys) : ((strN xs).toList == (strN ys).toList) = true := by subst h; simp
theorem strN_ne {xs ys : List Nat} (hx : Bytey xs) (hy : Bytey ys) (h : xs ≠ ys) : ((strN xs).toList == (strN ys).toList) = false := by
  apply Bool.eq_false_iff.2
  intro e
  have e' := eq_of_beq e
  rw [ByteArray.toList_eq, ByteArray.toList_eq] at e'
  refine h (strN_inj hx hy ?_)
  cases hxs : strN xs; cases hys : strN ys
  rw [hxs, hys] at e'
  congr 1
  exact Array.ext' (by simpa using e')
theorem neI_f {a b : Int} (h : a = b) : (a != b) = false := by simpa using h
theorem neI_t {a b : Int} (h : a ≠ b) : (a != b) = true := by simpa using h
def sameWi (a b c d e f g h : Int) (l m : List Nat) : Bool := a == b && c == d && e == f && g == h && decide (l = m)
theorem sameW_wi (x y : LW) : sameW x.pure y.pure = sameWi x.sum y.sum x.abs y.abs x.mn y.mn x.mx y.mx x.sq y.sq := rfl
set_option maxRecDepth 100000 in
set_option maxHeartbeats 800000 in
theorem sameC_any {a b : LC} {w : World} (ha : a.ok w) (hb : b.ok w) (hk : a.key = b.key) (hc : a.count = b.count) (hi : a.iN = b.iN) (hn : a.nN = b.nN) :
    Calls Try.prog 13 #[.agg a.cells.toArray, .agg b.cells.toArray] w fun e w' => e = .returned (.bool (sameCF a.pure b.pure)) ∧ Below w.heap.size w w' := by
  obtain ⟨a1, a2, ax, ay, an, am⟩ := ha
  obtain ⟨b1, b2, bx, by_, bn, bm⟩ := hb
  obtain ⟨ak, ac, aiA, aiN, aiC, ai, anA, anN, anC, anu⟩ := a
  obtain ⟨bk, bc, biA, biN, biC, bi, bnA, bnN, bnC, bnu⟩ := b
  dsimp only at *
  subst hk hc hi hn
  have HF := Lib.hid (show sameCF (LC.mk ak ac aiA aiN aiC ai anA anN anC anu).pure (LC.mk ak ac biA aiN biC bi bnA anN bnC bnu).pure = (allTwo sameW (ai.map LW.pure) (bi.map LW.pure) && allTwo sameR (anu.map LR.pure) (bnu.map LR.pure)) by simp [sameCF, LC.pure])
  go_enter Try.func13, Try.ntmps13
  go_wp2
  obtain ⟨W, hW⟩ : ∃ W, W = ((w.alloc (.cells (LC.mk ak ac aiA aiN aiC ai anA anN anC anu).cells.toArray 26)).alloc (.cells (LC.mk ak ac biA aiN biC bi bnA anN bnC bnu).cells.toArray 26)) := ⟨_, rfl⟩
  rw [← hW]
  obtain ⟨o1, o2, hbW, hsz⟩ : Own W w.heap.size 26 (LC.mk ak ac aiA aiN aiC ai anA anN anC anu).cells ∧ Own W (w.heap.size + 1) 26 (LC.mk ak ac biA aiN biC bi bnA anN bnC bnu).cells ∧ Below w.heap.size w W ∧ W.heap.size = w.heap.size + 1 + 1 := by
    rw [hW]
    have h2 := Own.new (w.alloc (.cells (LC.mk ak ac aiA aiN aiC ai anA anN anC anu).cells.toArray 26)) 26 (LC.mk ak ac biA aiN biC bi bnA anN bnC bnu).cells
    exact ⟨(Own.new w _ _).alloc _, by simpa using h2, below_2 _ _ _, by simp⟩
  clear hW
  go_loopw [5] (fun iv wr => ∃ k : Nat, iv = .int .i64 k ∧ k ≤ aiN ∧ Own wr w.heap.size 26 (LC.mk ak ac aiA aiN aiC ai anA anN anC anu).cells ∧ Own wr (w.heap.size + 1) 26 (LC.mk ak ac biA aiN biC bi bnA anN bnC bnu).cells ∧ Below w.heap.size w wr ∧ w.heap.size + 1 + 1 ≤ wr.heap.size ∧
      Hid (allTwo sameW ((ai.map LW.pure).drop k) ((bi.map LW.pure).drop k) = allTwo sameW (ai.map LW.pure) (bi.map LW.pure))) (fun iv _ => aiN - (intOf iv).toNat)
  case atStart => exact ⟨0, rfl, Nat.zero_le _, o1, o2, hbW, by omega, rfl⟩
  case round =>
    clear o1 o2 hbW hsz
    obtain ⟨k, rfl, hk, o1, o2, hbw, hsz, hinv⟩ := hrel
    by_cases hkn : k < aiN
    · obtain ⟨ad, x, p, rfl, hxk, xok, hp, p0, p1, p2, p3, p4⟩ := (ax.below hbw).at_ hkn
      obtain ⟨bd, y, q, rfl, hyk, yok, hq, q0, q1, q2, q3, q4⟩ := (bx.below hbw).at_ hkn
      have c1 : wr.cell? ⟨w.heap.size, 2, none⟩ = some (.slice (some ad) aiN aiC) := o1.cell 2
      have c2 : wr.cell? ⟨w.heap.size + 1, 2, none⟩ = some (.slice (some bd) aiN biC) := o2.cell 2
      have HX := Lib.hid (show (ai.map LW.pure)[k]? = some x.pure by simp [hxk])
      have HY := Lib.hid (show (bi.map LW.pure)[k]? = some y.pure by simp [hyk])
      clear hxk hyk
      have hk0 : (0 : Int) ≤ k := by omega
      have hk1 : (k : Int) < aiN := by omega
      have lp : p.block < wr.heap.size := lt_of_cell p0
      have lq : q.block < wr.heap.size := lt_of_cell q0
      have lw1 : w.heap.size < wr.heap.size := by omega
      have lw2 : w.heap.size + 1 < wr.heap.size := by omega
      go_wp2
      go_cut [6, 7] (fun s6 s7 wx => ∃ g g2, s6 = .pointer (some ⟨g, 0, none⟩) ∧ s7 = .pointer (some ⟨g2, 0, none⟩) ∧ wr.heap.size ≤ g ∧ wr.heap.size ≤ g2 ∧ Own wx g 71 x.cells ∧ Own wx g2 71 y.cells ∧ Below wr.heap.size wr wx)
      case first =>
        go_region
        all_goals
          go_wp2_with fail
          go_meet
          first
            | exact ⟨_, _, rfl, rfl, Nat.le_refl _, by omega, (two_new wr _ _ _).1, (two_new wr _ _ _).2.1, (two_new wr _ _ _).2.2⟩
            | exact ⟨_, _, rfl, rfl, by omega, Nat.le_refl _, (two_new wr _ _ _).2.1, (two_new wr _ _ _).1, (two_new wr _ _ _).2.2⟩
      case rest =>
        obtain ⟨g, g2, rfl, rfl, hg, hg2, og, og2, hbg⟩ := hcut
        have x0 : wc.cell? ⟨g, 0, none⟩ = some (.int .i64 x.sum) := og.cell 0
        have x1 : wc.cell? ⟨g, 1, none⟩ = some (.int .i64 x.abs) := og.cell 1
        have x2 : wc.cell? ⟨g, 2, none⟩ = some (.slice x.A x.n x.c) := og.cell 2
        have x3 : wc.cell? ⟨g, 3, none⟩ = some (.int .i64 x.mn) := og.cell 3
        have x4 : wc.cell? ⟨g, 4, none⟩ = some (.int .i64 x.mx) := og.cell 4
        have y0 : wc.cell? ⟨g2, 0, none⟩ = some (.int .i64 y.sum) := og2.cell 0
        have y1 : wc.cell? ⟨g2, 1, none⟩ = some (.int .i64 y.abs) := og2.cell 1
        have y2 : wc.cell? ⟨g2, 2, none⟩ = some (.slice y.A y.n y.c) := og2.cell 2
        have y3 : wc.cell? ⟨g2, 3, none⟩ = some (.int .i64 y.mn) := og2.cell 3
        have y4 : wc.cell? ⟨g2, 4, none⟩ = some (.int .i64 y.mx) := og2.cell 4
        have xsq := xok.2.2.2.2.1.below hbg
        have ysq := yok.2.2.2.2.1.below hbg
        clear p0 p1 p2 p3 p4 q0 q1 q2 q3 q4 c1 c2 lp lq og og2 xok yok lw1 lw2 hg hg2 hp hq
        have hbc := hbw.trans (hbg.mono hbw.size)
        have HW := Lib.hid (sameW_wi x y)
        go_upto_region 7 with fail
        go_cut [91] (fun s91 wx => ∃ B, s91 = .bool B ∧ Hid (B = !sameWi x.sum y.sum x.abs y.abs x.mn y.mn x.mx y.mx x.sq y.sq) ∧ ∃ q, wx = wc.drewN q)
        case first =>
          clear HW HF HX HY hinv hbc hbw hsz o1 o2
          by_cases e1 : x.sum = y.sum
          · by_cases e2 : x.abs = y.abs
            · by_cases e3 : x.mn = y.mn
              · by_cases e4 : x.mx = y.mx
                · have d1 := neI_f e1
                  have d2 := neI_f e2
                  have d3 := neI_f e3
                  have d4 := neI_f e4
                  have HR := Lib.hid (show (!sameWi x.sum y.sum x.abs y.abs x.mn y.mn x.mx y.mx x.sq y.sq) = !decide (x.sq = y.sq) by simp [sameWi, e1, e2, e3, e4])
                  clear e1 e2 e3 e4
                  go_wp2_with fail
                  refine (same02_any xsq ysq).mono ?_
                  rintro e w' ⟨rfl, q, rfl⟩
                  go_wp2_with fail
                  go_meet
                  exact ⟨_, rfl, by rw [Hid, HR.out], q, rfl⟩
                · have d1 := neI_f e1
                  have d2 := neI_f e2
                  have d3 := neI_f e3
                  have d4 := neI_t e4
                  have HR := Lib.hid (show (!sameWi x.sum y.sum x.abs y.abs x.mn y.mn x.mx y.mx x.sq y.sq) = true by simp [sameWi, e4])
                  clear e1 e2 e3 e4
                  go_wp2_with fail
                  go_meet
                  exact ⟨_, rfl, by rw [Hid, HR.out], 0, rfl⟩
              · have d1 := neI_f e1
                have d2 := neI_f e2
                have d3 := neI_t e3
                have HR := Lib.hid (show (!sameWi x.sum y.sum x.abs y.abs x.mn y.mn x.mx y.mx x.sq y.sq) = true by simp [sameWi, e3])
                clear e1 e2 e3
                go_wp2_with fail
                go_meet
                exact ⟨_, rfl, by rw [Hid, HR.out], 0, rfl⟩
            · have d1 := neI_f e1
              have d2 := neI_t e2
              have HR := Lib.hid (show (!sameWi x.sum y.sum x.abs y.abs x.mn y.mn x.mx y.mx x.sq y.sq) = true by simp [sameWi, e2])
              clear e1 e2
              go_wp2_with fail
              go_meet
              exact ⟨_, rfl, by rw [Hid, HR.out], 0, rfl⟩
          · have d1 := neI_t e1
            have HR := Lib.hid (show (!sameWi x.sum y.sum x.abs y.abs x.mn y.mn x.mx y.mx x.sq y.sq) = true by simp [sameWi, e1])
            clear e1
            go_wp2_with fail
            go_meet
            exact ⟨_, rfl, by rw [Hid, HR.out], 0, rfl⟩
        case rest =>
          obtain ⟨B, rfl, HB, q, rfl⟩ := hcut
          have hbd := below_drawn hbc q
          cases B with
          | true =>
            have HR := Lib.hid (show sameCF (LC.mk ak ac (some ad) aiN aiC ai anA anN anC anu).pure (LC.mk ak ac (some bd) aiN biC bi bnA anN bnC bnu).pure = false by
              rw [HF.out, allTwo_at HX.out HY.out (by rw [HW.out]; have := HB.out; simpa using this)]; rfl)
            clear x0 x1 x2 x3 x4 y0 y1 y2 y3 y4
            go_wp2
            go_ret
            exact ⟨by rw [HR.out]; rfl, hbd⟩
          | false =>
            have HI := Lib.hid (allTwo_drop HX.out HY.out (show sameW x.pure y.pure = true by rw [HW.out]; have := HB.out; simpa using this))
            have o1' := ((o1.below hbg (by omega)).drewN q)
            have o2' := ((o2.below hbg (by omega)).drewN q)
            have hsz' : w.heap.size + 1 + 1 ≤ (wc.drewN q).heap.size := Nat.le_trans hsz hbg.size
            clear x0 x1 x2 x3 x4 y0 y1 y2 y3 y4 o1 o2 hsz
            go_wp2
            go_roundw
            case rel => exact ⟨k + 1, by go_num, by omega, o1', o2', hbd, hsz', HI.out.symm.trans hinv.out⟩
            case measure => simp [intOf]; omega
    · obtain rfl : k = aiN := by omega
      have HI := Lib.hid (show allTwo sameW (ai.map LW.pure) (bi.map LW.pure) = true by
        rw [← hinv.out]; exact allTwo_done (by rw [List.length_map, ax.1]; exact Nat.le_refl _) (by rw [List.length_map, bx.1]; exact Nat.le_refl _))
      have HF' := Lib.hid (HF.out.trans (by rw [HI.out, Bool.true_and]))
      have c1 : wr.cell? ⟨w.heap.size, 2, none⟩ = some (.slice aiA k aiC) := o1.cell 2
      have c2 : wr.cell? ⟨w.heap.size + 1, 2, none⟩ = some (.slice biA k biC) := o2.cell 2
      clear HF HI hinv hkn hk
      go_wp2
      clear c1 c2
      obtain ⟨wo, rfl⟩ : ∃ wo : World, wo = wr := ⟨_, rfl⟩
      go_loopw [8] (fun iv wr => ∃ m : Nat, iv = .int .i64 m ∧ m ≤ anN ∧ Own wr w.heap.size 26 (LC.mk ak ac aiA k aiC ai anA anN anC anu).cells ∧ Own wr (w.heap.size + 1) 26 (LC.mk ak ac biA k biC bi bnA anN bnC bnu).cells ∧ Below w.heap.size w wr ∧ w.heap.size + 1 + 1 ≤ wr.heap.size ∧
          Hid (allTwo sameR ((anu.map LR.pure).drop m) ((bnu.map LR.pure).drop m) = allTwo sameR (anu.map LR.pure) (bnu.map LR.pure))) (fun iv _ => anN - (intOf iv).toNat)
      case atStart => exact ⟨0, rfl, Nat.zero_le _, o1, o2, hbw, by omega, rfl⟩
      case round =>
        clear o1 o2 hbw hsz
        obtain ⟨m, rfl, hm, o1, o2, hbw, hsz, hinv⟩ := hrel
        by_cases hmn : m < anN
        · obtain ⟨ad, x, p, rfl, hxk, xok, hp, p0, p1, p2⟩ := (ay.below hbw).at_ hmn
          obtain ⟨bd, y, q, rfl, hyk, yok, hq, q0, q1, q2⟩ := (by_.below hbw).at_ hmn
          have c1 : wr.cell? ⟨w.heap.size, 3, none⟩ = some (.slice (some ad) anN anC) := o1.cell 3
          have c2 : wr.cell? ⟨w.heap.size + 1, 3, none⟩ = some (.slice (some bd) anN bnC) := o2.cell 3
          have HX := Lib.hid (show (anu.map LR.pure)[m]? = some x.pure by simp [hxk])
          have HY := Lib.hid (show (bnu.map LR.pure)[m]? = some y.pure by simp [hyk])
          clear hxk hyk
          have hk0 : (0 : Int) ≤ m := by omega
          have hk1 : (m : Int) < anN := by omega
          have lp : p.block < wr.heap.size := lt_of_cell p0
          have lq : q.block < wr.heap.size := lt_of_cell q0
          have lw1 : w.heap.size < wr.heap.size := by omega
          have lw2 : w.heap.size + 1 < wr.heap.size := by omega
          go_wp2
          go_cut [9, 10] (fun s6 s7 wx => ∃ g g2, s6 = .pointer (some ⟨g, 0, none⟩) ∧ s7 = .pointer (some ⟨g2, 0, none⟩) ∧ wr.heap.size ≤ g ∧ wr.heap.size ≤ g2 ∧ Own wx g 75 x.cells ∧ Own wx g2 75 y.cells ∧ Below wr.heap.size wr wx)
          case first =>
            go_region
            all_goals
              go_wp2_with fail
              go_meet
              first
                | exact ⟨_, _, rfl, rfl, Nat.le_refl _, by omega, (two_new wr _ _ _).1, (two_new wr _ _ _).2.1, (two_new wr _ _ _).2.2⟩
                | exact ⟨_, _, rfl, rfl, by omega, Nat.le_refl _, (two_new wr _ _ _).2.1, (two_new wr _ _ _).1, (two_new wr _ _ _).2.2⟩
          case rest =>
            obtain ⟨g, g2, rfl, rfl, hg, hg2, og, og2, hbg⟩ := hcut
            have x0 : wc.cell? ⟨g, 0, none⟩ = some (.slice x.A x.n x.c) := og.cell 0
            have x1 : wc.cell? ⟨g, 1, none⟩ = some (.float .f64 x.mn) := og.cell 1
            have x2 : wc.cell? ⟨g, 2, none⟩ = some (.float .f64 x.mx) := og.cell 2
            have y0 : wc.cell? ⟨g2, 0, none⟩ = some (.slice y.A y.n y.c) := og2.cell 0
            have y1 : wc.cell? ⟨g2, 1, none⟩ = some (.float .f64 y.mn) := og2.cell 1
            have y2 : wc.cell? ⟨g2, 2, none⟩ = some (.float .f64 y.mx) := og2.cell 2
            have xb := xok.1.below hbg
            have yb := yok.1.below hbg
            clear p0 p1 p2 q0 q1 q2 c1 c2 lp lq og og2 xok yok lw1 lw2 hg hg2 hp hq
            have hbc := hbw.trans (hbg.mono hbw.size)
            have v1 := conv_bytes (P := Try.prog) xb 72 9 5 (by kernel_rfl) (by kernel_rfl) (by kernel_rfl)
            have v2 := conv_bytes (P := Try.prog) yb 72 9 5 (by kernel_rfl) (by kernel_rfl) (by kernel_rfl)
            go_upto_region 13 with fail
            go_cut [131] (fun s wx => ∃ B, s = .bool B ∧ Hid (B = !sameR x.pure y.pure) ∧ ∃ q, wx = wc.drewN q)
            case first =>
              clear HF' HX HY hinv hbc hbw hsz o1 o2
              by_cases e1 : x.sum = y.sum
              · have d1 := strN_eq e1
                cases e2 : same3F x.mn y.mn with
                | true =>
                  have HR := Lib.hid (show (!sameR x.pure y.pure) = !same3F x.mx y.mx by simp [sameR, LR.pure, e1, e2])
                  have E2 := Lib.hid e2
                  clear e1 e2
                  go_wp2_with fail
                  refine same3_any.mono ?_
                  rintro e w' ⟨rfl, q, rfl⟩
                  rw [E2.out]
                  go_wp2_with fail
                  refine same3_any.mono ?_
                  rintro e w' ⟨rfl, q2, rfl⟩
                  go_wp2_with fail
                  go_meet
                  exact ⟨_, rfl, by rw [Hid, HR.out], _, by first | rfl | (simp; rfl)⟩
                | false =>
                  have HR := Lib.hid (show (!sameR x.pure y.pure) = true by simp [sameR, LR.pure, e2])
                  have E2 := Lib.hid e2
                  clear e1 e2
                  go_wp2_with fail
                  refine same3_any.mono ?_
                  rintro e w' ⟨rfl, q, rfl⟩
                  rw [E2.out]
                  go_wp2_with fail
                  go_meet
                  exact ⟨_, rfl, by rw [Hid, HR.out], _, by first | rfl | (simp; rfl)⟩
              · have d1 := strN_ne xb.small yb.small e1
                have HR := Lib.hid (show (!sameR x.pure y.pure) = true by simp [sameR, LR.pure, e1])
                clear e1
                go_wp2_with fail
                go_meet
                exact ⟨_, rfl, by rw [Hid, HR.out], 0, rfl⟩
            case rest =>
              clear v1 v2
              obtain ⟨B, rfl, HB, q, rfl⟩ := hcut
              have hbd := below_drawn hbc q
              cases B with
              | true =>
                have HR := Lib.hid (show sameCF (LC.mk ak ac aiA k aiC ai (some ad) anN anC anu).pure (LC.mk ak ac biA k biC bi (some bd) anN bnC bnu).pure = false by
                  rw [HF'.out, allTwo_at HX.out HY.out (by have := HB.out; simpa using this)])
                clear x0 x1 x2 y0 y1 y2
                go_wp2
                go_ret
                exact ⟨by rw [HR.out]; rfl, hbd⟩
              | false =>
                have HI := Lib.hid (allTwo_drop HX.out HY.out (show sameR x.pure y.pure = true by have := HB.out; simpa using this))
                have o1' := ((o1.below hbg (by omega)).drewN q)
                have o2' := ((o2.below hbg (by omega)).drewN q)
                have hsz' : w.heap.size + 1 + 1 ≤ (wc.drewN q).heap.size := Nat.le_trans hsz hbg.size
                clear x0 x1 x2 y0 y1 y2 o1 o2 hsz
                go_wp2
                go_roundw
                case rel => exact ⟨m + 1, by go_num, by omega, o1', o2', hbd, hsz', HI.out.symm.trans hinv.out⟩
                case measure => simp [intOf]; omega
        · obtain rfl : m = anN := by omega
          have HR := Lib.hid (show sameCF (LC.mk ak ac aiA k aiC ai anA m anC anu).pure (LC.mk ak ac biA k biC bi bnA m bnC bnu).pure = true by
            rw [HF'.out, ← hinv.out]; exact allTwo_done (by rw [List.length_map, ay.1]; exact Nat.le_refl _) (by rw [List.length_map, by_.1]; exact Nat.le_refl _))
          have c1 : wr.cell? ⟨w.heap.size, 3, none⟩ = some (.slice anA m anC) := o1.cell 3
          have c2 : wr.cell? ⟨w.heap.size + 1, 3, none⟩ = some (.slice bnA m bnC) := o2.cell 3
          clear hinv HF' hm hmn
          go_wp2
          go_ret
          exact ⟨by rw [HR.out]; rfl, hbw⟩
/-- ref14.Same, on any two cells. -/
theorem same14_any {a b : LC} {w : World} (ha : a.ok w) (hb : b.ok w) :
    Calls Try.prog 13 #[.agg a.cells.toArray, .agg b.cells.toArray] w fun e w' => e = .returned (.bool (sameCF a.pure b.pure)) ∧ Below w.heap.size w w' := by
  by_cases hk : a.key = b.key
  · by_cases hc : a.count = b.count
    · by_cases hi : a.iN = b.iN
      · by_cases hn : a.nN = b.nN
        · exact sameC_any ha hb hk hc hi hn
        · exact sameC_no ha hb (.inr (.inr (.inr hn)))
      · exact sameC_no ha hb (.inr (.inr (.inl hi)))
    · exact sameC_no ha hb (.inr (.inl hc))
  · exact sameC_no ha hb (.inl hk)
end Go.Proofs.Ytdhlcbhpjejljaa
