/-
  names.Twice: the first place of what stands ahead of it, too.
-/
import Derived.Test.YtdhlcbhpjejljaaNames
import Derived.Maps.AppendAt
import Derived.Maps.OwnSet
namespace Go.Proofs.Ytdhlcbhpjejljaa
open Go.RowKit Go.Maps Go.ChangeShapes Go.WideShapes

theorem run_make_hint {P : Program} (t k e : TypeId) (kd : IntKind) (n : Int) (ht : P.underlying t = some (.map k e)) (w : World) :
    (Instr.makeMap t (some (.int kd n))).run P w = .ok (.map (some w.heap.size)) (w.alloc (.map #[] 0)) := by
  simp [Instr.makeMap, run_underlying ht]; rfl
theorem lawS : Keyed Try.prog 9 := string_keyed Try.underlying9
theorem zeroI (w : World) : (zeroValue 3).run Try.prog w = .ok (.int .i64 0) w := by kernel_rfl
def memB (s : ByteArray) (l : List ByteArray) : Bool := l.any fun u => u.data.toList == s.data.toList
theorem memB_append (s : ByteArray) (l m : List ByteArray) : memB s (l ++ m) = (memB s l || memB s m) := List.any_append
def twGo (l : List ByteArray) (k : Nat) : Int :=
  if h : k < l.length then if memB l[k] (l.take k) then k else twGo l (k + 1) else -1
termination_by l.length - k
decreasing_by omega
def twF (l : List ByteArray) : Int := twGo l 0
theorem twGo_hit {l : List ByteArray} {k : Nat} {s : ByteArray} (h : l[k]? = some s) (hm : memB s (l.take k) = true) : twGo l k = k := by
  obtain ⟨hk, rfl⟩ := List.getElem?_eq_some_iff.1 h
  rw [twGo, dif_pos hk, if_pos hm]
theorem twGo_miss {l : List ByteArray} {k : Nat} {s : ByteArray} (h : l[k]? = some s) (hm : memB s (l.take k) = false) : twGo l k = twGo l (k + 1) := by
  obtain ⟨hk, rfl⟩ := List.getElem?_eq_some_iff.1 h
  rw [twGo, dif_pos hk, if_neg (by rw [hm]; simp)]
theorem twGo_end {l : List ByteArray} {k : Nat} (h : l.length ≤ k) : twGo l k = -1 := by rw [twGo, dif_neg (by omega)]
/-- The map's keys are the first k texts. -/
def Met (D : DataW Unit) (l : List ByteArray) (k : Nat) : Prop := IsMap D ∧ ∀ s : ByteArray, Maps.has D (.string s.data.toList) = memB s (l.take k)
theorem Met.start (l : List ByteArray) : Met (.map []) l 0 := ⟨isMap_empty, fun _ => rfl⟩
theorem Met.next {D : DataW Unit} {l : List ByteArray} {k : Nat} {s : ByteArray} (h : Met D l k) (hs : l[k]? = some s) (d : DataW Unit) : Met (D.put (.string s.data.toList) d) l (k + 1) := by
  refine ⟨h.1.put _ _, fun u => ?_⟩
  rw [List.take_add_one, hs, memB_append, ← h.2 u]
  by_cases e : u = s
  · subst e
    rw [has_put_same h.1 (by simp [WideAt.IsKeyLit])]; simp [memB]
  · rw [has_put_other (fun e' => e (by injection e' with e'; exact bytes_inj e'))]
    have : memB u (some s).toList = false := by
      simp only [memB, Option.toList_some, List.any_cons, List.any_nil, Bool.or_false, beq_eq_false_iff_ne]
      exact fun e' => e (bytes_inj e'.symm)
    rw [this, Bool.or_false]
set_option maxRecDepth 100000 in
set_option maxHeartbeats 1000000 in
theorem twice_any {A : Option Addr} {n c : Nat} {l : List ByteArray} {w : World} (hx : Strs w A n c l) (hn : n ≤ 1000000) :
    Calls Try.prog 106 #[.slice A n c] w fun e w' => e = .returned (.int .i64 (twF l)) ∧ Below w.heap.size w w' := by
  have hmm := fun W => run_make_hint (P := Try.prog) 170 9 3 .i64 (n : Int) (by kernel_rfl) W
  have HL := Lib.hid hx.1
  have hz : w.heap.size ≤ (w.alloc (.map #[] 0)).heap.size := by simp
  go_enter Try.func106, Try.ntmps106
  go_wp2
  go_loopw [13] (fun i wr => ∃ k : Nat, k ≤ n ∧ i = .int .i64 k ∧ Hid (twGo l k = twF l) ∧ Below w.heap.size w wr ∧ w.heap.size + 1 ≤ wr.heap.size ∧ ∃ D, wr.ownsMap Try.prog 9 (plainElem (H := Unit) Try.prog 3) w.heap.size k D ∧ Hid (Met D l k)) (fun i _ => n - (intOf i).toNat)
  case atStart => exact ⟨0, Nat.zero_le _, rfl, rfl, (Below.refl _ _).alloc (Nat.le_refl _) _, by simp, _, World.ownsMap_made _ _ _ _, Met.start l⟩
  case round =>
    obtain ⟨k, hk, rfl, hinv, hb, hsz, D, hown, hmet⟩ := hrel
    by_cases hlt : k < n
    · obtain ⟨ad, s, rfl, hls, hsl, hc⟩ := (hx.below hb).at_ hlt
      have HS := Lib.hid hls
      clear hls
      have hkey : keyOf Try.prog 9 (.string s) = some (.string s.data.toList) := WideMaps.keyOf_string_mk (P := Try.prog) Try.underlying9 hsl
      have i0 : (0 : Int) ≤ k := by omega
      have i1 : (k : Int) < n := by omega
      cases hm : memB s (l.take k) with
      | true =>
        have hhit : Maps.has D (.string s.data.toList) = true := by rw [hmet.out.2 s]; exact hm
        have HR := Lib.hid (hinv.out.symm.trans (twGo_hit HS.out hm))
        clear hinv hm
        go_wp2_with (first
          | (at_lookup; refine wpList_lookup_own_ok_int _ rfl _ _ 170 rfl 9 3 .i64 lawS Try.underlying170 Try.underlying3 (zeroI _) w.heap.size k D rfl hown _ _ rfl hkey ?_; intro cL hat hwc; rw [hhit]; clear hat hwc)
          | go_in)
        go_ret
        exact ⟨ret_int HR.out.symm, hb⟩
      | false =>
        have hhit : Maps.has D (.string s.data.toList) = false := by rw [hmet.out.2 s]; exact hm
        have HI := Lib.hid ((twGo_miss HS.out hm).symm.trans hinv.out)
        have hplain : plainElem (H := Unit) Try.prog 3 (.int .i64 (k : Int)) = some (.lit (.int .i64 (k : Int)), []) := plainElem_int Try.underlying3 (by have := hx.most; simp [Lit.wf, IntKind.min, IntKind.max, IntKind.signed, IntKind.bits]; omega)
        have HM := Lib.hid (hmet.out.next HS.out (.lit (.int .i64 (k : Int))))
        clear hinv hm hmet
        go_wp2_with (first
          | (at_lookup; refine wpList_lookup_own_ok_int _ rfl _ _ 170 rfl 9 3 .i64 lawS Try.underlying170 Try.underlying3 (zeroI _) w.heap.size k D rfl hown _ _ rfl hkey ?_; intro cL hat hwc; rw [hhit]; clear hat hwc)
          | (at_mapUpdate; refine wpList_mapUpdate_own _ rfl _ _ _ 170 rfl 9 3 lawS Try.underlying170 (plainElem (H := Unit) Try.prog 3) w.heap.size k D rfl hown (by unfold maxLen; omega) _ _ _ rfl rfl hkey _ [] hplain ?_; intro w1 hown1 hgrow1)
          | go_in)
        have s1 := hgrow1.size
        go_roundw
        case rel => exact ⟨k + 1, by omega, by go_num, HI, hb.grown hgrow1 hb.size (fun j hj => by cases hj; exact Nat.le_refl _), by omega, _, hown1, HM⟩
        case measure => simp [intOf]; omega
    · have HR := Lib.hid (hinv.out.symm.trans (twGo_end (by rw [← HL.out]; omega)))
      have i1 : ¬ (k : Int) < n := by omega
      clear hinv
      go_wp2
      go_ret
      exact ⟨ret_int HR.out.symm, hb⟩
end Go.Proofs.Ytdhlcbhpjejljaa
