/-
  agg.One: the cell of a fact; the whole measures' loop.
-/
import Derived.Test.YtdhlcbhpjejljaaCellJoin
import Derived.Test.YtdhlcbhpjejljaaKey
import Derived.Test.YtdhlcbhpjejljaaMul
import Derived.Deep.RegionLaw
namespace Go.Proofs.Ytdhlcbhpjejljaa
open Go.RowKit

def wholeOf (x : Int) : PW := ⟨x, (x.natAbs : Int), wds (x.natAbs * x.natAbs), x, x⟩
/-- The cell of a fact, or an error's number. R: what a real number comes to. -/
def oneF (R : Nat → PR) (s : LS) (mask : Nat) (f : LF) : Nat ⊕ PC :=
  if factF s f ≠ 0 then .inl (factF s f) else if (ofF s mask f.codes).2 ≠ 0 then .inl (ofF s mask f.codes).2
  else if f.ints.any (fun x => x == -9223372036854775808) then .inl 10 else .inr ⟨(ofF s mask f.codes).1, 1, f.ints.map wholeOf, f.nums.map R⟩
/-- 'append(out, x)' in a statement that draws its order: the new elements have just been laid into a block. -/
theorem step_appg {P : Program} {ops : Array Oper} {o : Oper} {a : Act} {K : Act → World → Prop} {Q : Exit → Act → World → Prop} {E : Prop} {w0 : World} {news : List Value} {s x : Operand} {t e : TypeId} {z : Value} {size bytes base n m c : Nat} {v : Value} {xs : List Value}
    (hgd : o.guard = none) (ho : o.op = .call { callee := .builtin .append, args := #[s, x], argTypes := #[t, t] }) (ht : P.underlying t = some (.slice e))
    (hinfo : (P.info? e).map (fun i => (i.zero, i.size, i.bytes)) = some (some z, size, bytes)) (hzs : z.cells.size = size) (hsz : 0 < size)
    (hs : a.eval s = v) (hown : w0.ownsRow base e size v n xs) (hx : a.eval x = .slice (some ⟨w0.heap.size, 0, none⟩) m c) (hl : news.length = m * size) (h1 : ∀ u ∈ news, u.oneCell' = true)
    (h63 : n + m ≤ maxLen) (hbytes : (n + m) * bytes ≤ 140737488355328) (hbase : base ≤ w0.heap.size)
    (h : ∀ v' w', w'.ownsRow base e size v' (n + m) (xs ++ news) → Below base w0 w' → (w0.alloc (.cells news.toArray e)).grownBy w' v.ownBlock → K (a.put o.dst v') w') :
    if Region.wanted o (yielded ops a.tmps) = true then Oper.wp P o a (w0.alloc (.cells news.toArray e)) K Q else E := by
  have hw : Region.wanted o (yielded ops a.tmps) = true := by simp [Region.wanted, hgd]
  rw [if_pos hw]
  obtain ⟨i0, hi, hz0, hz1, hz2⟩ := info_parts hinfo
  refine wp_append_own _ s x t ho base e i0 z size bytes ht hi hz0 hz1 hz2 hzs hsz v n xs hs (hown.alloc _) ⟨w0.heap.size, 0, none⟩ m c news hx hl (Own.new w0 e news).news h1 h63 hbytes (by simp; omega) ?_
  intro v' w' h2 h3 _
  refine h v' w' h2 ?_ h3
  exact ((Below.refl base w0).alloc hbase _).grown h3 (by simp; omega) (fun k hk => (World.ownsRow.lt hown k hk).1)

def OnePost (R : Nat → PR) (s : LS) (mask : Nat) (f : LF) (w : World) (e : Ending) (w' : World) : Prop :=
  Below w.heap.size w w' ∧ match oneF R s mask f with
  | .inl er => e = .returned (.tuple #[.agg #[.int .u64 0, .int .i64 0, .slice none 0 0, .slice none 0 0], .int .i64 er])
  | .inr p => ∃ c : LC, e = .returned (.tuple #[.agg c.cells.toArray, .int .i64 0]) ∧ c.ok w' ∧ c.pure = p ∧ (∀ x ∈ c.ints, x.n ≤ 4) ∧ ∀ x ∈ c.nums, x.n ≤ 300
theorem OnePost.err {R : Nat → PR} {s : LS} {mask : Nat} {f : LF} {er : Nat} {w w' : World} (hb : Below w.heap.size w w') (h : oneF R s mask f = .inl er) : OnePost R s mask f w (.returned (.tuple #[.agg #[.int .u64 0, .int .i64 0, .slice none 0 0, .slice none 0 0], .int .i64 er])) w' := by
  refine ⟨hb, ?_⟩; rw [h]
theorem OnePost.fine {R : Nat → PR} {s : LS} {mask : Nat} {f : LF} {c : LC} {w w' : World} {p : PC} (hb : Below w.heap.size w w') (h : oneF R s mask f = .inr p) (hc : c.ok w') (hp : c.pure = p) (hn : ∀ x ∈ c.ints, x.n ≤ 4) (hm : ∀ x ∈ c.nums, x.n ≤ 300) : OnePost R s mask f w (.returned (.tuple #[.agg c.cells.toArray, .int .i64 0])) w' := by
  refine ⟨hb, ?_⟩; rw [h]; exact ⟨c, rfl, hc, hp, hn, hm⟩
theorem three_boxes (w : World) (e e' e'' : TypeId) (v v' v'' : List Value) : ∀ W, W = ((w.alloc (.cells v.toArray e)).alloc (.cells v'.toArray e')).alloc (.cells v''.toArray e'') →
    Own W w.heap.size e v ∧ Own W (w.heap.size + 1) e' v' ∧ Own W (w.heap.size + 1 + 1) e'' v'' ∧ Below w.heap.size w W ∧ w.heap.size + 1 + 1 < W.heap.size := by
  rintro W rfl
  obtain ⟨h1, h2, h3, h4⟩ := two_owns w e e' v v'
  have h5 := Own.new ((w.alloc (.cells v.toArray e)).alloc (.cells v'.toArray e')) e'' v''
  exact ⟨h1.alloc _, h2.alloc _, by simpa using h5, h3.alloc h3.size _, by simp⟩
theorem any_hit {l : List Int} {k : Nat} {x : Int} (h : l[k]? = some x) (hx : x = -9223372036854775808) : l.any (fun x => x == -9223372036854775808) = true :=
  List.any_eq_true.2 ⟨x, List.mem_of_getElem? h, by simp [hx]⟩
theorem any_next {l : List Int} {k : Nat} {x : Int} (hi : (l.take k).any (fun x => x == -9223372036854775808) = false) (h : l[k]? = some x) (hx : ¬ x = -9223372036854775808) : (l.take (k + 1)).any (fun x => x == -9223372036854775808) = false := by
  rw [List.take_add_one, List.any_append, hi, h]; simp [hx]
theorem sq_len {x : Int} (hx : I64 x) : (wds (x.natAbs * x.natAbs)).length ≤ 4 := by
  apply wds_length_le
  unfold I64 at hx
  have h : x.natAbs ≤ 9223372036854775808 := by omega
  exact Nat.lt_of_le_of_lt (Nat.mul_le_mul h h) (by decide)
theorem abs_len {x : Int} (hx : I64 x) : (wds x.natAbs).length ≤ 2 := by
  apply wds_length_le
  unfold I64 at hx
  have h : x.natAbs ≤ 9223372036854775808 := by omega
  exact Nat.lt_of_le_of_lt h (by decide)

theorem fact_ok {s : LS} {f : LF} (h : factF s f = 0) : checkF s = 0 ∧ f.codes.length = s.dims.length ∧ f.ints.length = s.ints.length ∧ f.nums.length = s.nums.length ∧ codesB f.codes s.dims = true := by
  unfold factF at h
  split at h
  · rename_i hc
    unfold fitsF at h
    split at h
    · cases h
    · rename_i hl
      split at h
      · exact ⟨hc, by omega, by omega, by omega, by assumption⟩
      · cases h
  · cases h
theorem keyGo_lt {mask : Nat} : ∀ {m : List LD} {l : List Int} {i key K r : Nat}, keyGo mask m l i key = some r → sizesB m K = true → key < K → 1 ≤ K → K ≤ 1099511627776 → r < 1099511627776
  | [], l, i, key, K, r, h, _, hk, _, hK => by
    simp only [keyGo] at h; injection h with h; omega
  | d :: m, [], i, key, K, r, h, _, hk, _, hK => by
    simp only [keyGo] at h; injection h with h; omega
  | d :: m, c :: l, i, key, K, r, h, hs, hk, hK1, hK => by
    rw [sizesB] at hs
    split at hs
    · cases hs
    · rename_i hno
      have n1 : 1 ≤ d.size := by omega
      have n3 : (K : Int) * d.size ≤ 1099511627776 := by
        have : (K : Int) ≤ 1099511627776 / d.size := by omega
        exact Int.le_trans (Int.mul_le_mul_of_nonneg_right this (by omega)) (Int.ediv_mul_le _ (by omega))
      have eK : ((K * d.size.toNat : Nat) : Int) = (K : Int) * d.size := by rw [Int.natCast_mul, Int.toNat_of_nonneg (by omega)]
      have hKs : sizesB m ((K * d.size.toNat : Nat) : Int) = true := by rw [eK]; exact hs
      have g1 : 1 ≤ d.size.toNat := by omega
      have g2 : K ≤ K * d.size.toNat := Nat.le_mul_of_pos_right K g1
      rw [keyGo] at h
      split at h
      · exact keyGo_lt h hKs (by omega) (by omega) (by omega)
      · split at h
        · cases h
        · have hc : c.toNat < d.size.toNat := by omega
          have : key * d.size.toNat + c.toNat < K * d.size.toNat := by
            have : (key + 1) * d.size.toNat ≤ K * d.size.toNat := Nat.mul_le_mul_right _ hk
            rw [Nat.add_mul] at this; omega
          exact keyGo_lt h hKs this (by omega) (by omega)
theorem of_lt (s : LS) (mask : Nat) (codes : List Int) : W64 (ofF s mask codes).1 := by
  unfold ofF W64
  split
  · show 0 < _; omega
  · rename_i ha
    split
    · show 0 < _; omega
    · split
      · show 0 < _; omega
      · rename_i k hk
        have hc := check_sizes (ask_zero (s := s) (mask := mask) (by omega))
        have := keyGo_lt (K := 1) hk hc (by omega) (by omega) (by omega)
        show k < _; omega
set_option maxRecDepth 100000 in
set_option maxHeartbeats 8000000 in
theorem one_ints {R : Nat → PR} {s : LS} {f : LF} {w : World} (hs : s.ok w) (hf : f.ok w) (mask : Nat) (hmk : mask < 4294967296) (h0 : f.nN = 0) :
    Calls Try.prog 16 #[.agg s.cells.toArray, .int .u32 (mask : Int), .agg f.cells.toArray] w (OnePost R s mask f w) := by
  have HF := Lib.hid (show oneF R s mask f = if factF s f ≠ 0 then .inl (factF s f) else if (ofF s mask f.codes).2 ≠ 0 then .inl (ofF s mask f.codes).2
    else if f.ints.any (fun x => x == -9223372036854775808) then .inl 10 else .inr ⟨(ofF s mask f.codes).1, 1, f.ints.map wholeOf, f.nums.map R⟩ from rfl)
  have HJ := Lib.hid (show factF s f = 0 → f.iN ≤ 3 from fun h => by
    have h1 := fact_ok h
    have h2 := check_dims h1.1
    rw [hf.2.1.1]; omega)
  have hok := hs
  have gok := hf
  obtain ⟨dA, dN, dC, dims, iA, iN, iC, ints, nA, nN, nC, nums, vA, vN, vC, views⟩ := s
  obtain ⟨cA, cN, cC, codes, jA, jN, jC, fints, kA, kN, kC, fnums⟩ := f
  dsimp only at h0
  subst h0
  clear hs hf
  go_enter Try.func16, Try.ntmps16
  go_upto_region 1 with fail
  obtain ⟨W, hW⟩ : ∃ W, W = ((w.alloc (.cells (LS.mk dA dN dC dims iA iN iC ints nA nN nC nums vA vN vC views).cells.toArray 40)).alloc (.cells (LF.mk cA cN cC codes jA jN jC fints kA 0 kC fnums).cells.toArray 46)).alloc (.cells [.int .u64 0, .int .i64 0, .slice none 0 0, .slice none 0 0].toArray 26) := ⟨_, rfl⟩
  obtain ⟨o1, o2, o3, hbW, hsW⟩ := three_boxes w _ _ _ _ _ _ W hW
  rw [← hW]
  clear hW
  have hok' := hok.below hbW
  have gok' := gok.below hbW
  clear hok gok
  have q0 : W.cell? ⟨w.heap.size, 0, none⟩ = some (.slice dA dN dC) := o1.cell 0
  have q1 : W.cell? ⟨w.heap.size, 1, none⟩ = some (.slice iA iN iC) := o1.cell 1
  have q2 : W.cell? ⟨w.heap.size, 2, none⟩ = some (.slice nA nN nC) := o1.cell 2
  have q3 : W.cell? ⟨w.heap.size, 3, none⟩ = some (.slice vA vN vC) := o1.cell 3
  have r0 : W.cell? ⟨w.heap.size + 1, 0, none⟩ = some (.slice cA cN cC) := o2.cell 0
  have r1 : W.cell? ⟨w.heap.size + 1, 1, none⟩ = some (.slice jA jN jC) := o2.cell 1
  have r2 : W.cell? ⟨w.heap.size + 1, 2, none⟩ = some (.slice kA 0 kC) := o2.cell 2
  go_wp2_with fail
  refine (fact_any hok' gok').mono ?_
  rintro e w1 ⟨rfl, hb1⟩
  have hbw := hbW.trans (hb1.mono (by omega))
  clear q0 q1 q2 q3 r0 r1 r2
  have p1 := o1.below hb1 (by omega)
  have p2 := o2.below hb1 (by omega)
  have p3 := o3.below hb1 (by omega)
  have hsz1 : w.heap.size + 1 + 1 < w1.heap.size := Nat.lt_of_lt_of_le hsW hb1.size
  have hok1 := hok'.below hb1
  have gok1 := gok'.below hb1
  clear o1 o2 o3 hok' gok' hb1 hbW hsW
  generalize hch : factF (LS.mk dA dN dC dims iA iN iC ints nA nN nC nums vA vN vC views) (LF.mk cA cN cC codes jA jN jC fints kA 0 kC fnums) = ch at *
  clear hch
  by_cases hc : ch = 0
  · subst hc
    have HF2 := Lib.hid (HF.out.trans (if_neg (by simp)))
    have hj3 := HJ.out rfl
    clear HF HJ
    have q0 : w1.cell? ⟨w.heap.size, 0, none⟩ = some (.slice dA dN dC) := p1.cell 0
    have q1 : w1.cell? ⟨w.heap.size, 1, none⟩ = some (.slice iA iN iC) := p1.cell 1
    have q2 : w1.cell? ⟨w.heap.size, 2, none⟩ = some (.slice nA nN nC) := p1.cell 2
    have q3 : w1.cell? ⟨w.heap.size, 3, none⟩ = some (.slice vA vN vC) := p1.cell 3
    have r0 : w1.cell? ⟨w.heap.size + 1, 0, none⟩ = some (.slice cA cN cC) := p2.cell 0
    go_wp2_with fail
    refine (of_any (s := LS.mk dA dN dC dims iA iN iC ints nA nN nC nums vA vN vC views) hok1 gok1.1 mask hmk).mono ?_
    rintro e w2 ⟨rfl, hb2⟩
    have hbw2 := hbw.trans (hb2.mono hbw.size)
    have s2 := p2.below hb2 (by omega)
    have s3 := p3.below hb2 (by omega)
    have hsz2 : w.heap.size + 1 + 1 < w2.heap.size := Nat.lt_of_lt_of_le hsz1 hb2.size
    have gok2 := gok1.below hb2
    clear q0 q1 q2 q3 r0 p1 p2 p3 hok1 gok1 hb2 hbw hsz1

    have HKY0 := Lib.hid (of_lt (LS.mk dA dN dC dims iA iN iC ints nA nN nC nums vA vN vC views) mask codes)
    generalize hof : ofF (LS.mk dA dN dC dims iA iN iC ints nA nN nC nums vA vN vC views) mask codes = ow at *
    clear hof
    obtain ⟨key, er⟩ := ow
    dsimp only at HF2 HKY0
    by_cases he : er = 0
    · subst he
      have HF3 := Lib.hid (HF2.out.trans (if_neg (by simp)))
      clear HF2
      have r1 : w2.cell? ⟨w.heap.size + 1, 1, none⟩ = some (.slice jA jN jC) := s2.cell 1
      have HKY := Lib.hid (show W64 key from HKY0.out)
      clear HKY0
      have l1 : w.heap.size + 1 < w2.heap.size := by omega
      dsimp only
      simp only [Int.natCast_zero]
      go_upto_region 9 with fail
      obtain ⟨X, hX⟩ : ∃ X, X = w2.alloc (.cells [.int .u64 (key : Int), .int .i64 1, .slice none 0 0, .slice none 0 0].toArray 26) := ⟨_, rfl⟩
      have ox := Own.new w2 26 [.int .u64 (key : Int), .int .i64 1, .slice none 0 0, .slice none 0 0]
      have hbX : Below w2.heap.size w2 X := by rw [hX]; exact (Below.refl _ _).alloc (Nat.le_refl _) _
      have hsX : w2.heap.size + 1 = X.heap.size := by rw [hX]; simp
      rw [← hX] at ox ⊢
      clear hX
      have HSX := Lib.hid hsX
      have hsX1 : w2.heap.size + 1 ≤ X.heap.size := Nat.le_of_eq hsX
      clear hsX r1
      go_loopw [42] (fun iv wr => ∃ (k : Nat) (v : Value) (outs : List LW), iv = .int .i64 k ∧ k ≤ jN ∧ Own wr w2.heap.size 26 [.int .u64 (key : Int), .int .i64 1, v, .slice none 0 0] ∧
          Below w2.heap.size w2 wr ∧ w2.heap.size + 1 ≤ wr.heap.size ∧ wr.ownsRow (w2.heap.size + 1) 71 5 v k (outs.flatMap LW.cells) ∧ Hid (∀ x ∈ outs, x.okT 3 wr) ∧
          Hid (outs.map LW.pure = (fints.take k).map wholeOf) ∧ Hid ((fints.take k).any (fun x => x == -9223372036854775808) = false)) (fun iv _ => jN - (intOf iv).toNat)
      case atStart => exact ⟨0, .slice none 0 0, [], rfl, Nat.zero_le _, ox, hbX, hsX1, World.ownsRow_nil _ _ _ _, (fun x hx => by cases hx), rfl, rfl⟩
      case round =>
        clear ox hbX HSX hsX1
        obtain ⟨k, v, outs, rfl, hk, oc, hbr, hszr, hown, hokT, hpure, hany⟩ := hrel
        obtain ⟨vA, vc, rfl⟩ := owns_slice hown
        by_cases hkn : k < jN
        · obtain ⟨ad, x, rfl, hxk, hxI, hcx⟩ := (gok2.2.1.below hbr).at_ hkn
          have HX := Lib.hid hxk
          clear hxk
          have hk0 : (0 : Int) ≤ k := by omega
          have hk1 : (k : Int) < jN := by omega
          by_cases hmin : x = -9223372036854775808
          · have HR := Lib.hid (HF3.out.trans (if_pos (any_hit HX.out hmin)))
            have d1 : (x == -9223372036854775808) = true := by simp [hmin]
            have e3 := s3.below hbr (by omega)
            have z0 : wr.cell? ⟨w.heap.size + 1 + 1, 0, none⟩ = some (.int .u64 0) := e3.cell 0
            have z1 : wr.cell? ⟨w.heap.size + 1 + 1, 1, none⟩ = some (.int .i64 0) := e3.cell 1
            have z2 : wr.cell? ⟨w.heap.size + 1 + 1, 2, none⟩ = some (.slice none 0 0) := e3.cell 2
            have z3 : wr.cell? ⟨w.heap.size + 1 + 1, 3, none⟩ = some (.slice none 0 0) := e3.cell 3
            have y0 := e3.free 0
            have y1 := e3.free 1
            have y2 := e3.free 2
            have y3 := e3.free 3
            have hbwr := hbw2.trans (hbr.mono hbw2.size)
            clear hmin hown oc hokT hpure hany
            go_wp2
            refine bodyPost_ret (v := .tuple #[.agg #[.int .u64 0, .int .i64 0, .slice none 0 0, .slice none 0 0], .int .i64 10]) (by simp [results, Try.results16, go_sem, z0, z1, z2, z3]) rfl ?_
            exact OnePost.err ((((hbwr.setCell (by simp; omega) _).setCell (by simp; omega) _).setCell (by simp; omega) _).setCell (by simp; omega) _) HR.out
          · have HA := Lib.hid (any_next hany.out HX.out hmin)
            have d1 : (x == -9223372036854775808) = false := by simp [hmin]
            have hxI' := hxI
            unfold I64 at hxI'
            have x1 : (x.natAbs : Int) ≤ 9223372036854775807 := by omega
            have x64 : W64 x.natAbs := by unfold W64; omega
            clear hmin hxI' hany
            go_wp2_with fail
            refine (abs_any hxI).mono ?_
            rintro e w' ⟨rfl, rfl⟩
            go_wp2_with fail
            refine (nof_any x64).mono ?_
            rintro e w3 ⟨C, m, p, rfl, hw3, hb3, ht3⟩
            have hm2 : m ≤ 2 := by rw [hw3.len]; exact abs_len hxI
            have t1 := oc.below hb3 (by omega)
            have hown3 := owns_below hown hb3
            have d2 : w3.cell? ⟨w2.heap.size, 2, none⟩ = some (.slice vA k vc) := t1.cell 2
            have hsz3 : w2.heap.size + 1 ≤ w3.heap.size := Nat.le_trans hszr hb3.size
            have hsz3' : w2.heap.size < w3.heap.size := by omega
            clear hcx
            have j1 : IntKind.i64.wrap (x.natAbs : Int) = (x.natAbs : Int) := IntWalk.i64_in _ (by omega)
            go_upto_region 14 with fail
            go_region_law
              (first
                | ((refine step_appg (w0 := w4) (m := 1) (c := 1) (s := .tmp 53) (x := .tmp 64) (v := .slice vA k vc) (news := (LW.mk x (x.natAbs : Int) D mm pp (wds (x.natAbs * x.natAbs)) x x).cells) rfl rfl Try.underlying23 info_whole rfl (by decide) (by simp [Act.eval]) (owns_below hown3 hb4') (by simp [Act.eval]) rfl lw_one (by unfold maxLen; omega) (by omega) hsz4 ?_; intro v' w5 hown' hb5 hg5; refine app_k hown' (hb5.cell (p := ⟨w2.heap.size, 2, none⟩) (by simp)) (hb5.frozen (p := ⟨w2.heap.size, 2, none⟩) (by simp)) d4 (t4.free 2) ?_; rintro vA' vc' rfl u5 uf5))
                | (go_simp; (with_reducible refine (abs_any hxI).mono ?_); rintro e w' ⟨rfl, rfl⟩; dsimp only)
                | (go_simp; (with_reducible refine (mul_any (hw3.below (by go_grown)) (hw3.below (by go_grown)) (by omega) (by omega)).mono ?_); rintro e w4 ⟨D, mm, pp, rfl, hw4, hb4, ht4⟩; rw [val_wds] at hw4; have hb4' : Below w3.heap.size w3 w4 := ⟨hb4.os, hb4.tape, hb4.output, hb4.size, hb4.block⟩; have hsz4 : w2.heap.size + 1 ≤ w4.heap.size := Nat.le_trans hsz3 hb4.size; have t4 := t1.below hb4' (by omega); have d4 : w4.cell? ⟨w2.heap.size, 2, none⟩ = some (.slice vA k vc) := t4.cell 2; have l4 : w2.heap.size < w4.heap.size := (by omega); dsimp only))
            all_goals
              have hnew : (LW.mk x (x.natAbs : Int) D mm pp (wds (x.natAbs * x.natAbs)) x x).okT 3 w4 := by
                refine ⟨⟨hxI, by unfold I64; dsimp only; omega, hxI, hxI, hw4, ?_⟩, ht4, ?_⟩
                · dsimp only; have := hw4.len; have := sq_len hxI; omega
                · dsimp only; have := hw4.len; have := sq_len hxI; omega
              have hown4 := owns_below hown3 hb4'
              have hb5s := hb5.size
              have hsz5 : w2.heap.size + 1 ≤ (w5.setCell ⟨w2.heap.size, 2, none⟩ (.slice vA' (k + 1) vc')).heap.size := by simp [World.setCell]; omega
              have HP := Lib.hid (show (outs ++ [LW.mk x (x.natAbs : Int) D mm pp (wds (x.natAbs * x.natAbs)) x x]).map LW.pure = (fints.take (k + 1)).map wholeOf by
                rw [List.map_append, hpure.out, List.take_add_one, HX.out]; simp [LW.pure, wholeOf])
              clear d2 d4 u5 uf5 hpure
              go_wp2
              go_roundw
              case rel =>
                refine ⟨k + 1, _, outs ++ [LW.mk x (x.natAbs : Int) D mm pp (wds (x.natAbs * x.natAbs)) x x], by go_num, by omega, ((t4.below hb5 (by omega)).set_ 2 _), ?_, hsz5, ?_, ?_, HP, HA⟩
                · exact (((hbr.trans (hb3.mono hbr.size)).trans (hb4'.mono (by omega))).trans (hb5.mono (by omega))).setCell (Nat.le_refl _) _
                · have h1 := ownsRow_setCell_below hown' (a := ⟨w2.heap.size, 2, none⟩) (by simp) (.slice vA' (k + 1) vc')
                  rw [List.flatMap_append]
                  exact h1
                · intro z hz
                  have hz' : z.okT 3 w4 := (List.mem_append.1 hz).elim (fun h => ((hokT.out z h).below hb3).below hb4') (fun h => by rw [List.mem_singleton.1 h]; exact hnew)
                  exact ((hz'.below ((Below.refl _ _).alloc (Nat.le_refl _) _)).kept (hown4.alloc _) (by decide) hg5).only (t4.below hb5 (by omega)) (nokind_cell _ _ _ _ _ _ _ _) (only_set (World.grownBy.refl _ _) _ _)
              case measure => simp [intOf]; omega
        · obtain rfl : k = jN := by omega
          have hgl : k = fints.length := gok2.2.1.1
          have hta : fints.take k = fints := by rw [hgl, List.take_length]
          have HGL := Lib.hid hgl
          clear hgl
          have HPU := Lib.hid (show outs.map LW.pure = fints.map wholeOf by have := hpure.out; rwa [hta] at this)
          have HAN := Lib.hid (show fints.any (fun x => x == -9223372036854775808) = false by have := hany.out; rwa [hta] at this)
          have HR := Lib.hid (HF3.out.trans (if_neg (by rw [HAN.out]; simp)))
          have HLN := Lib.hid (show k = outs.length by have := congrArg List.length HPU.out; rw [List.length_map, List.length_map] at this; rw [HGL.out, this])
          have HNU := Lib.hid (show fnums = [] by have := gok2.2.2.1; exact List.length_eq_zero_iff.1 this.symm)
          have e2 := s2.below hbr (by omega)
          have e3 := s3.below hbr (by omega)
          have r2 : wr.cell? ⟨w.heap.size + 1, 2, none⟩ = some (.slice kA 0 kC) := e2.cell 2
          have z0 : wr.cell? ⟨w.heap.size + 1 + 1, 0, none⟩ = some (.int .u64 0) := e3.cell 0
          have z1 : wr.cell? ⟨w.heap.size + 1 + 1, 1, none⟩ = some (.int .i64 0) := e3.cell 1
          have z2 : wr.cell? ⟨w.heap.size + 1 + 1, 2, none⟩ = some (.slice none 0 0) := e3.cell 2
          have z3 : wr.cell? ⟨w.heap.size + 1 + 1, 3, none⟩ = some (.slice none 0 0) := e3.cell 3
          have y0 := e3.free 0
          have y1 := e3.free 1
          have y2 := e3.free 2
          have y3 := e3.free 3
          have c0 : wr.cell? ⟨w2.heap.size, 0, none⟩ = some (.int .u64 (key : Int)) := oc.cell 0
          have c1 : wr.cell? ⟨w2.heap.size, 1, none⟩ = some (.int .i64 1) := oc.cell 1
          have c2 : wr.cell? ⟨w2.heap.size, 2, none⟩ = some (.slice vA k vc) := oc.cell 2
          have c3 : wr.cell? ⟨w2.heap.size, 3, none⟩ = some (.slice none 0 0) := oc.cell 3
          have hbwr := hbw2.trans (hbr.mono hbw2.size)
          have i1 : ¬ (k : Int) < k := by omega
          clear hpure hany hta hkn hk
          go_wp2
          refine wp_loop_rounds 1 ?_
          rw [rounds_succ]
          go_wp2
          refine bodyPost_ret (v := .tuple #[.agg #[.int .u64 (key : Int), .int .i64 1, .slice vA k vc, .slice none 0 0], .int .i64 0]) (by simp [results, Try.results16, go_sem, z0, z1, z2, z3]) rfl ?_
          have hkey : W64 key := HKY.out
          have hgr : wr.grownBy ((((wr.setCell ⟨w.heap.size + 1 + 1, 0, none⟩ (.int .u64 (key : Int))).setCell ⟨w.heap.size + 1 + 1, 1, none⟩ (.int .i64 1)).setCell ⟨w.heap.size + 1 + 1, 2, none⟩ (.slice vA k vc)).setCell ⟨w.heap.size + 1 + 1, 3, none⟩ (.slice none 0 0)) (some (w.heap.size + 1 + 1)) :=
            only_set (only_set (only_set (only_set (World.grownBy.refl _ _) _ _) _ _) _ _) _ _
          have hrow := ownsRow_setCell_below (ownsRow_setCell_below (ownsRow_setCell_below (ownsRow_setCell_below hown (a := ⟨w.heap.size + 1 + 1, 0, none⟩) (by simp; omega) (.int .u64 (key : Int))) (a := ⟨w.heap.size + 1 + 1, 1, none⟩) (by simp; omega) (.int .i64 1)) (a := ⟨w.heap.size + 1 + 1, 2, none⟩) (by simp; omega) (.slice vA k vc)) (a := ⟨w.heap.size + 1 + 1, 3, none⟩) (by simp; omega) (.slice none 0 0)
          have hokx : ∀ z ∈ outs, z.okT 3 ((((wr.setCell ⟨w.heap.size + 1 + 1, 0, none⟩ (.int .u64 (key : Int))).setCell ⟨w.heap.size + 1 + 1, 1, none⟩ (.int .i64 1)).setCell ⟨w.heap.size + 1 + 1, 2, none⟩ (.slice vA k vc)).setCell ⟨w.heap.size + 1 + 1, 3, none⟩ (.slice none 0 0)) := fun z hz =>
            (hokT.out z hz).only e3 (nokind_cell _ _ _ _ _ _ _ _) hgr
          refine OnePost.fine (c := LC.mk key 1 vA k vc outs none 0 0 []) ((((hbwr.setCell (by simp; omega) _).setCell (by simp; omega) _).setCell (by simp; omega) _).setCell (by simp; omega) _) HR.out ?_ ?_ (fun z hz => (hokx z hz).2.2) (fun z hz => by cases hz)
          · refine ⟨hkey, (show I64 1 from ⟨by decide, by decide⟩), ⟨HLN.out, (cap_of_owns hrow).1, (cap_of_owns hrow).2, Row.of_owns hrow, fun z hz => (hokx z hz).1⟩, ⟨rfl, Nat.le_refl _, Nat.zero_le _, Row.nil _ _, fun z hz => by cases hz⟩, by dsimp only; omega, by dsimp only; omega⟩
          · unfold LC.pure; dsimp only; rw [HPU.out, HNU.out]; rfl
    · have HR := Lib.hid (HF2.out.trans (if_pos he))
      have d1 : ((er : Int) != 0) = true := by simp; omega
      have z0 : w2.cell? ⟨w.heap.size + 1 + 1, 0, none⟩ = some (.int .u64 0) := s3.cell 0
      have z1 : w2.cell? ⟨w.heap.size + 1 + 1, 1, none⟩ = some (.int .i64 0) := s3.cell 1
      have z2 : w2.cell? ⟨w.heap.size + 1 + 1, 2, none⟩ = some (.slice none 0 0) := s3.cell 2
      have z3 : w2.cell? ⟨w.heap.size + 1 + 1, 3, none⟩ = some (.slice none 0 0) := s3.cell 3
      have y0 := s3.free 0
      have y1 := s3.free 1
      have y2 := s3.free 2
      have y3 := s3.free 3
      clear he HF2
      dsimp only
      go_wp2
      refine bodyPost_ret (v := .tuple #[.agg #[.int .u64 0, .int .i64 0, .slice none 0 0, .slice none 0 0], .int .i64 (er : Int)]) (by simp [results, Try.results16, go_sem, z0, z1, z2, z3]) rfl ?_
      exact OnePost.err ((((hbw2.setCell (by simp; omega) _).setCell (by simp; omega) _).setCell (by simp; omega) _).setCell (by simp; omega) _) HR.out
  · have HR := Lib.hid (HF.out.trans (if_pos hc))
    have d1 : ((ch : Int) != 0) = true := by simp; omega
    have z0 : w1.cell? ⟨w.heap.size + 1 + 1, 0, none⟩ = some (.int .u64 0) := p3.cell 0
    have z1 : w1.cell? ⟨w.heap.size + 1 + 1, 1, none⟩ = some (.int .i64 0) := p3.cell 1
    have z2 : w1.cell? ⟨w.heap.size + 1 + 1, 2, none⟩ = some (.slice none 0 0) := p3.cell 2
    have z3 : w1.cell? ⟨w.heap.size + 1 + 1, 3, none⟩ = some (.slice none 0 0) := p3.cell 3
    have y0 := p3.free 0
    have y1 := p3.free 1
    have y2 := p3.free 2
    have y3 := p3.free 3
    clear hc HF
    go_wp2
    refine bodyPost_ret (v := .tuple #[.agg #[.int .u64 0, .int .i64 0, .slice none 0 0, .slice none 0 0], .int .i64 (ch : Int)]) (by simp [results, Try.results16, go_sem, z0, z1, z2, z3]) rfl ?_
    exact OnePost.err ((((hbw.setCell (by simp; omega) _).setCell (by simp; omega) _).setCell (by simp; omega) _).setCell (by simp; omega) _) HR.out
end Go.Proofs.Ytdhlcbhpjejljaa
