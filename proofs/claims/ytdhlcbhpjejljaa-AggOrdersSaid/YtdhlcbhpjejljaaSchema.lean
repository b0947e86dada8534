/-
  A schema in memory; schema.all.
-/
import Derived.Test.YtdhlcbhpjejljaaTwice
import Derived.Test.YtdhlcbhpjejljaaCell
import Derived.Deep.AppendLies
import Derived.OwnWalk
namespace Go.Proofs.Ytdhlcbhpjejljaa
open Go.RowKit

theorem run_append_nil {P : Program} {w : World} (base : Nat) (t ty e : TypeId) (i : TypeInfo) (ht : P.underlying t = some (.slice e)) (hi : P.info? e = some i)
    (v : Value) (n : Nat) (xs : List Value) (hown : w.ownsRow base e 1 v n xs) (c : Nat) : (Builtin.append_ #[t, t] ty #[v, .slice none 0 c]).run P w = .ok v w := by
  rcases hown.2 with ⟨rfl, rfl⟩ | ⟨g, cap, cur, rfl, _, _, hnc, _⟩
  · simp [Builtin.append_, run_underlying ht, sizeOf, typeInfo, hi, Builtin.lenOf, Builtin.firstCells]
  · simp [Builtin.append_, run_underlying ht, sizeOf, typeInfo, hi, Builtin.lenOf, Builtin.firstCells, hnc, storeCells]
/-- 'append(out, xs...)' onto a row of the call's own; the source is any slice that reads as a list. -/
theorem wpList_appr {P : Program} {ops : Array Oper} {rest : List Oper} {o : Oper} {a : Act} {Q : Exit → Act → World → Prop} {w : World} {news : List Value} {s x : Operand} {t e : TypeId} {z : Value} {bytes base n m c : Nat} {v : Value} {xs : List Value} {A : Option Addr}
    (hgd : o.guard = none) (ho : o.op = .call { callee := .builtin .append, args := #[s, x], argTypes := #[t, t] }) (ht : P.underlying t = some (.slice e))
    (hinfo : (P.info? e).map (fun i => (i.zero, i.size, i.bytes)) = some (some z, 1, bytes)) (hzs : z.cells.size = 1)
    (hs : a.eval s = v) (hown : w.ownsRow base e 1 v n xs) (hx : a.eval x = .slice A m c) (hl : m = news.length) (hr : Row w A news) (h1 : ∀ u ∈ news, u.oneCell' = true)
    (h63 : n + m ≤ maxLen) (hbytes : (n + m) * bytes ≤ 140737488355328) (hbase : base ≤ w.heap.size)
    (h : ∀ v' w', w'.ownsRow base e 1 v' (n + m) (xs ++ news) → Below base w w' → wpList P ops Q rest (a.put o.dst v') w') : wpList P ops Q (o :: rest) a w := by
  obtain ⟨i0, hi, hz0, hz1, hz2⟩ := info_parts hinfo
  refine wpList_plain hgd fun K hK => ?_
  have key : ∃ v' w', (Builtin.append_ #[t, t] o.type #[v, .slice A m c]).run P w = .ok v' w' ∧ w'.ownsRow base e 1 v' (n + m) (xs ++ news) ∧ w.grownBy w' v.ownBlock := by
    rcases A with _ | ad
    · have hn : news = [] := by
        cases news with
        | nil => rfl
        | cons u l => obtain ⟨ad, h, _⟩ := hr 0 (by simp); cases h
      subst hn
      subst hl
      exact ⟨v, w, run_append_nil base t o.type e i0 ht hi v n xs hown c, by simpa using hown, World.grownBy.refl w _⟩
    · have hcells : ∀ j u, news[j]? = some u → w.cell? (ad.add j) = some u := by
        intro j u hu
        obtain ⟨ad', h, hc⟩ := hr j (List.getElem?_eq_some_iff.1 hu).1
        injection h with h
        subst h
        rw [hc, hu]
      obtain ⟨v', w', hrun, h2, h3, _⟩ := run_append_own_at (P := P) w base t o.type e i0 z 1 bytes ht hi hz0 hz1 hz2 hzs (by omega) v n xs hown ad m c news (by omega) hcells h1 h63 hbytes hbase
      exact ⟨v', w', hrun, h2, h3⟩
  obtain ⟨v', w', hrun, h2, h3⟩ := key
  unfold Oper.wp execOp
  simp only [ho, resolve, invoke, builtin, Sem.run_bind, Sem.run_pure, Result.andThen_ok, List.map_toArray, List.map_cons, List.map_nil, hs, hx, hrun]
  exact hK _ _ (h v' w' h2 ((Below.refl base w).grown h3 hbase (fun k hk => (World.ownsRow.lt hown k hk).1)))

theorem row_new2 (w : World) (o : Obj) (e : TypeId) (vs : List Value) : Row ((w.alloc o).alloc (.cells vs.toArray e)) (some ⟨w.heap.size + 1, 0, none⟩) vs := by
  have := (Own.new (w.alloc o) e vs).row; simpa using this
theorem below2 {w : World} {B : Nat} (hB : B ≤ w.heap.size) (o o' : Obj) : Below B w ((w.alloc o).alloc o') := (((Below.refl _ _).alloc hB o).alloc (by simp; omega) o')
/-- A dimension. -/
structure LD where
  nm : ByteArray
  size : Int
abbrev LD.cells (d : LD) : List Value := [.string d.nm, .int .i64 d.size]
def LD.ok (d : LD) : Prop := d.nm.size ≤ maxLen ∧ I64 d.size
def Dms (w : World) (A : Option Addr) (n c : Nat) (l : List LD) : Prop := n = l.length ∧ n ≤ c ∧ c ≤ maxLen ∧ Row w A (l.flatMap LD.cells) ∧ ∀ x ∈ l, x.ok
section
variable {w w' : World} {A : Option Addr} {n c : Nat} {l : List LD}
theorem Dms.below (h : Dms w A n c l) (hb : Below w.heap.size w w') : Dms w' A n c l := ⟨h.1, h.2.1, h.2.2.1, h.2.2.2.1.below hb, h.2.2.2.2⟩
theorem Dms.most (h : Dms w A n c l) : n ≤ 9223372036854775807 := by have := h.2.1; have := h.2.2.1; unfold maxLen at this; omega
theorem Dms.at_ {k : Nat} (h : Dms w A n c l) (hk : k < n) : ∃ ad x p, A = some ad ∧ l[k]? = some x ∧ x.ok ∧ ad.add (k * 2) = p ∧ w.cell? p = some (.string x.nm) ∧ w.cell? ⟨p.block, p.off + 1, none⟩ = some (.int .i64 x.size) := by
  have hl : k < l.length := by rw [← h.1]; exact hk
  obtain ⟨ad, e, hc⟩ := h.2.2.2.1.elem (s := 2) (fun _ => rfl) (List.getElem?_eq_getElem hl) (by omega)
  exact ⟨ad, l[k], _, e, List.getElem?_eq_getElem hl, h.2.2.2.2 _ (List.getElem_mem hl), rfl, hc 0 (by omega), hc 1 (by omega)⟩
end
/-- A schema. -/
structure LS where
  dA : Option Addr
  dN : Nat
  dC : Nat
  dims : List LD
  iA : Option Addr
  iN : Nat
  iC : Nat
  ints : List ByteArray
  nA : Option Addr
  nN : Nat
  nC : Nat
  nums : List ByteArray
  vA : Option Addr
  vN : Nat
  vC : Nat
  views : List Nat
abbrev LS.cells (s : LS) : List Value := [.slice s.dA s.dN s.dC, .slice s.iA s.iN s.iC, .slice s.nA s.nN s.nC, .slice s.vA s.vN s.vC]
def LS.ok (w : World) (s : LS) : Prop := Dms w s.dA s.dN s.dC s.dims ∧ Strs w s.iA s.iN s.iC s.ints ∧ Strs w s.nA s.nN s.nC s.nums ∧ Words w s.vA s.vN s.vC s.views
theorem LS.ok.below {w w' : World} {s : LS} (h : s.ok w) (hb : Below w.heap.size w w') : s.ok w' := ⟨h.1.below hb, h.2.1.below hb, h.2.2.1.below hb, h.2.2.2.below hb⟩
def namesF (s : LS) : List ByteArray := s.dims.map LD.nm ++ s.ints ++ s.nums
theorem info_str : (Try.prog.info? 9).map (fun i => (i.zero, i.size, i.bytes)) = some (some (.string ⟨#[]⟩), 1, 16) := by kernel_rfl
theorem strs_one (l : List ByteArray) : ∀ u ∈ l.map Value.string, u.oneCell' = true := fun u hu => by obtain ⟨n, _, rfl⟩ := List.mem_map.1 hu; rfl
theorem Strs.of_owns {w : World} {B m cap : Nat} {e : TypeId} {A : Option Addr} {o : List ByteArray} (h : w.ownsRow B e 1 (.slice A m cap) m (o.map Value.string)) (ho : ∀ s ∈ o, s.size ≤ maxLen) (hm : m = o.length) : Strs w A m cap o :=
  ⟨hm, (cap_of_owns h).1, (cap_of_owns h).2, Row.of_owns h, ho⟩

set_option maxRecDepth 100000 in
set_option maxHeartbeats 1000000 in
theorem all_any {s : LS} {w : World} (hs : s.ok w) (h1 : s.dN ≤ 1000) (h2 : s.iN ≤ 1000) (h3 : s.nN ≤ 1000) :
    Calls Try.prog 104 #[.agg s.cells.toArray] w fun e w' => ∃ A n c, e = .returned (.slice A n c) ∧ Strs w' A n c (namesF s) ∧ Below w.heap.size w w' := by
  have HN := Lib.hid (show namesF s = s.dims.map LD.nm ++ s.ints ++ s.nums from rfl)
  have HB := Lib.hid (show ∀ x ∈ namesF s, x.size ≤ maxLen by
    intro x hx
    simp only [namesF, List.mem_append, List.mem_map] at hx
    rcases hx with (⟨d, hd, rfl⟩ | hx) | hx
    · exact (hs.1.2.2.2.2 d hd).1
    · exact hs.2.1.2.2.2.2 x hx
    · exact hs.2.2.1.2.2.2.2 x hx)
  obtain ⟨dA, dN, dC, dims, iA, iN, iC, ints, nA, nN, nC, nums, vA, vN, vC, views⟩ := s
  obtain ⟨hd, hi, hn, hv⟩ := hs
  dsimp only at *
  go_enter Try.func104, Try.ntmps104
  go_wp2
  obtain ⟨W, hW⟩ : ∃ W, W = w.alloc (.cells (LS.mk dA dN dC dims iA iN iC ints nA nN nC nums vA vN vC views).cells.toArray 40) := ⟨_, rfl⟩
  have o1 : Own W w.heap.size 40 (LS.mk dA dN dC dims iA iN iC ints nA nN nC nums vA vN vC views).cells := by rw [hW]; exact Own.new _ _ _
  have hbW : Below w.heap.size w W := by rw [hW]; exact (Below.refl _ _).alloc (Nat.le_refl _) _
  have hsW : w.heap.size + 1 = W.heap.size := by rw [hW]; simp
  rw [← hW]
  clear hW
  have HS := Lib.hid hsW
  clear hsW
  have hd' := hd.below hbW
  have hi' := hi.below hbW
  have hn' := hn.below hbW
  clear hd hi hn hv
  go_loopw [3, 9] (fun v i wr => ∃ k : Nat, k ≤ dN ∧ i = .int .i64 k ∧ wr.ownsRow W.heap.size 9 1 v k ((dims.take k).map (fun d => Value.string d.nm)) ∧ Below W.heap.size W wr) (fun _ i _ => dN - (intOf i).toNat)
  case atStart => exact ⟨0, Nat.zero_le _, rfl, World.ownsRow_nil _ _ _ _, Below.refl _ _⟩
  case round =>
    obtain ⟨k, hk, rfl, hown, hb⟩ := hrel
    by_cases hlt : k < dN
    · obtain ⟨ad, d, p, rfl, hdk, dok, hp, p0, p1⟩ := (hd'.below hb).at_ hlt
      have HT := Lib.hid (show (dims.take k).map (fun d => Value.string d.nm) ++ [.string d.nm] = (dims.take (k + 1)).map (fun d => Value.string d.nm) by
        rw [List.take_add_one, hdk]; simp)
      clear hdk
      have i0 : (0 : Int) ≤ k := by omega
      have i1 : (k : Int) < dN := by omega
      have lp : p.block < wr.heap.size := lt_of_cell p0
      go_wp2_with (first
        | (at_builtin; refine wpList_appr (news := [.string d.nm]) (m := 1) (c := 1) rfl rfl Try.underlying37 info_str rfl rfl ((hown.alloc _).alloc _) rfl rfl (row_new2 wr _ 9 [.string d.nm]) (by intro u hu; simp at hu; subst hu; rfl) (by unfold maxLen; omega) (by omega) (by have := hb.size; simp; omega) ?_; intro v' w1 hown1 hb1)
        | go_in)
      have hb2 := (hb.trans (below2 hb.size _ _)).trans hb1
      rw [HT.out] at hown1
      go_roundw
      case rel => exact ⟨k + 1, by omega, by go_num, hown1, hb2⟩
      case measure => simp [intOf]; omega
    · obtain rfl : k = dN := by omega
      have HT := Lib.hid (show (dims.take k).map (fun d => Value.string d.nm) = (dims.map LD.nm).map Value.string by rw [hd'.1, List.take_length, List.map_map]; rfl)
      rw [HT.out] at hown
      have i1 : ¬ (k : Int) < k := by omega
      have q1 : wr.cell? ⟨w.heap.size, 1, none⟩ = some (.slice iA iN iC) := (o1.below hb (by rw [← HS.out]; omega)).cell 1
      have q2 : wr.cell? ⟨w.heap.size, 2, none⟩ = some (.slice nA nN nC) := (o1.below hb (by rw [← HS.out]; omega)).cell 2
      clear i1
      have hsz : w.heap.size < W.heap.size := by rw [← HS.out]; omega
      go_wp2_with (first
        | (at_builtin; refine wpList_appr (s := .tmp 19) (x := .tmp 21) (news := ints.map Value.string) rfl rfl Try.underlying37 info_str rfl rfl hown rfl (by rw [List.length_map]; exact hi'.1) (hi'.below hb).2.2.2.1 (strs_one _) (by unfold maxLen; omega) (by omega) hb.size ?_; intro v1 w1 hown1 hb1; have q3 : w1.cell? ⟨w.heap.size, 2, none⟩ = some (.slice nA nN nC) := (o1.below (hb.trans hb1) hsz).cell 2)
        | (at_builtin; refine wpList_appr (s := .tmp 23) (x := .tmp 25) (news := nums.map Value.string) rfl rfl Try.underlying37 info_str rfl rfl hown1 rfl (by rw [List.length_map]; exact hn'.1) (hn'.below (hb.trans hb1)).2.2.2.1 (strs_one _) (by unfold maxLen; omega) (by omega) (hb.trans hb1).size ?_; intro v2 w2 hown2 hb2)
        | go_in)
      obtain ⟨A2, c2, rfl⟩ := owns_slice hown2
      have HL := Lib.hid (show (dims.map LD.nm).map Value.string ++ ints.map Value.string ++ nums.map Value.string = (namesF (LS.mk dA k dC dims iA iN iC ints nA nN nC nums vA vN vC views)).map Value.string by
        rw [HN.out, List.map_append, List.map_append])
      rw [HL.out] at hown2
      have HQ := Lib.hid (Strs.of_owns hown2 HB.out (by have := hown2.1; rw [List.length_map, Nat.mul_one] at this; exact this.symm))
      go_ret
      exact ⟨_, _, _, rfl, HQ.out, hbW.trans (((hb.trans hb1).trans hb2).mono (Nat.le_of_lt hsz))⟩
end Go.Proofs.Ytdhlcbhpjejljaa
