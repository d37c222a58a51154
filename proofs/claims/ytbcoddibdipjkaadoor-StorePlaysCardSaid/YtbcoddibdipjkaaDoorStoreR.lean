/- The program's store: Read (a range over slices.Backward). -/
import Derived.RangeFuncNested
import Derived.RangeFuncBound
import Derived.RangeFuncCalls
import Derived.RangeFuncLeaves
import Derived.Shelf.Abstract
import Derived.Shelf.RegionOpen
import Derived.WalkKit
import Derived.OwnWalkIn
import Derived.TacticsInMore
import Derived.LoopNIn
import Derived.LoopIn
import Derived.Test.YtbcoddibdipjkaaDoorStoreW3
import Derived.Test.YtbcoddibdipjkaaDoorRange
namespace Go.Proofs.YtbcoddibdipjkaaDoor
open Go Go.RowKit Go.Sep
attribute [local go_sem] Oper.semAt_some

/-- slices.Backward: the slice's value is boxed; the function value captures the box. -/
theorem backward_any (a0 : Option Addr) (n0 cap : Nat) (w : World) (n : Nat) :
    CallsIn Fence.wide n Tryd.prog 49 #[.slice a0 n0 cap] w fun e w' => e = .returned (.func (.func 70) #[] #[.pointer (some ⟨w.heap.size, 0, none⟩)]) ∧ w' = w.alloc (.cells #[.slice a0 n0 cap] 24) := by
  refine callsIn_of_wp Tryd.func49 rfl trivial ?_ rfl
  simp only [Tryd.ntmps49, List.size_toArray, List.length_cons, List.length_nil, Nat.reduceAdd, Nat.reduceSub, Array.replicate_succ, Array.replicate_zero, List.push_toArray, List.append_toArray, List.nil_append, List.cons_append]
  gi_wp2
  go_ret
  exact ⟨rfl, rfl⟩

set_option maxRecDepth 100000 in
set_option maxHeartbeats 2000000 in
/-- Its closure: from behind; a round says whether it goes on. -/
theorem backward_in (n : Nat) (hn : 1 ≤ n) (l Bs : Nat) (a0 : Option Addr) (cap : Nat) (vs : Vers) (hvl : vs.length ≤ 4000000) (J : Nat → World → Prop) (Jx : World → Prop)
    (hY : ∀ i p W, vs[i]? = some p → J (i + 1) W → YieldAt Fence.wide (n - 1) Tryd.prog l #[.int .i64 (i : Int), .agg #[.int .i64 p.1, .int .i64 p.2]] W fun e W' => (e = .returned (.bool true) ∧ J i W') ∨ (e = .returned (.bool false) ∧ Jx W'))
    (hJ : ∀ i W, J i W → W.cell? ⟨Bs, 0, none⟩ = some (.slice a0 vs.length cap) ∧ ∀ i p, vs[i]? = some p → ∃ b o, a0 = some ⟨b, o, none⟩ ∧ W.cell? ⟨b, o + i * 2, none⟩ = some (.int .i64 p.1) ∧ W.cell? ⟨b, o + i * 2 + 1, none⟩ = some (.int .i64 p.2))
    (W : World) (h0 : J vs.length W) :
    CallsIn Fence.wide n Tryd.prog 70 #[.func (.yield l) #[] #[], .pointer (some ⟨Bs, 0, none⟩)] W fun e W' => (∃ v, e = .returned v) ∧ (J 0 W' ∨ Jx W') := by
  have hB := (hJ _ W h0).1
  refine callsIn_of_wp Tryd.func70 rfl trivial ?_ rfl
  simp only [Tryd.ntmps70, List.size_toArray, List.length_cons, List.length_nil, Nat.reduceAdd, Nat.reduceSub, Array.replicate_succ, Array.replicate_zero, List.push_toArray, List.append_toArray, List.nil_append, List.cons_append]
  gi_wp2
  gi_loopw [3] (fun i wr => ∃ k : Nat, k ≤ vs.length ∧ i = .int .i64 ((k : Int) - 1) ∧ J k wr) (fun i _ => (intOf i + 1).toNat)
  case atStart => exact ⟨vs.length, Nat.le_refl _, rfl, h0⟩
  case round =>
    obtain ⟨k, hk, rfl, hJs⟩ := hrel
    clear hB
    cases k with
    | zero =>
      gi_wp2
      go_end0
      exact ⟨⟨_, rfl⟩, .inl hJs⟩
    | succ k =>
      have e1 : ((k + 1 : Nat) : Int) - 1 = k := by omega
      rw [e1]
      obtain ⟨p, hp⟩ : ∃ p, vs[k]? = some p := ⟨vs[k], by simp⟩
      obtain ⟨hB, hE⟩ := hJ _ wr hJs
      obtain ⟨b, o, rfl, c1, c2⟩ := hE k p hp
      obtain ⟨fn, tmps, assign, body, hy, hR⟩ := hY k p wr hp hJs
      clear hE hp
      gi_wp2
      refine hR.mono ?_
      rintro e W3 (⟨rfl, hJ3⟩ | ⟨rfl, hJx3⟩)
      · gi_wp2
        go_roundw
        case rel => exact ⟨k, by omega, rfl, hJ3⟩
        case measure => simp [intOf]
      · gi_wp2
        refine bodyPost_ret (results_none rfl _ _ _) rfl ?_
        exact ⟨⟨_, rfl⟩, .inr hJx3⟩

/-- The latest version that is not later. -/
def readV (vs : Vers) (at_ : Int) : Option (Int × Int) := vs.reverse.find? fun p => decide (p.1 ≤ at_)

theorem readV_of {vs : Vers} {i : Nat} {p : Int × Int} {at_ : Int} (hp : vs[i]? = some p) (hle : p.1 ≤ at_) (h : ∀ j q, i + 1 ≤ j → vs[j]? = some q → ¬ q.1 ≤ at_) : readV vs at_ = some p := by
  obtain ⟨hi, rfl⟩ := List.getElem?_eq_some_iff.1 hp
  have e : vs = vs.take i ++ (vs[i] :: vs.drop (i + 1)) := by rw [← List.drop_eq_getElem_cons hi, List.take_append_drop]
  have hn : (vs.drop (i + 1)).reverse.find? (fun p => decide (p.1 ≤ at_)) = none := by
    rw [List.find?_eq_none]
    intro q hq
    obtain ⟨j, hj⟩ := List.getElem?_of_mem (List.mem_reverse.1 hq)
    rw [List.getElem?_drop] at hj
    simpa using h _ q (by omega) hj
  unfold readV
  generalize hx : vs[i] = x at e hle hn ⊢
  rw [e, List.reverse_append, List.reverse_cons, List.find?_append, List.find?_append, hn]
  simp [hle]
theorem readV_none {vs : Vers} {at_ : Int} (h : ∀ j q, 0 ≤ j → vs[j]? = some q → ¬ q.1 ≤ at_) : readV vs at_ = none := by
  unfold readV
  rw [List.find?_eq_none]
  intro q hq
  obtain ⟨j, hj⟩ := List.getElem?_of_mem (List.mem_reverse.1 hq)
  simpa using h j q (by omega) hj
set_option maxRecDepth 100000 in
theorem read_no (b o : Nat) (k at_ : Int) (w0 w : World) (L : List HProp) (hs : S w0 w L) (hk : ¬ keyOk k) :
    Calls Tryd.prog 14 #[.pointer (some ⟨b, o, none⟩), .int .i64 k, .int .i64 at_] w fun e w' => e = .returned (.tuple #[.agg #[.int .i64 0, .int .i64 0], .iface 44 (.int .i64 2)]) ∧ S w0 w' L := by
  have hk1 : decide (keyOk k) = false := by simpa using hk
  have hb : ∀ w', Below w.heap.size w w' → S w0 w' L := fun w' h => hs.onto h
  have HB := hid hb; clear hb hs
  go_enter Tryd.func14, Tryd.ntmps14
  go_wp2_with (first | (go_at_call 48; refine (right_any _ _).mono ?_; rintro e w' ⟨rfl, rfl⟩))
  exact bodyPost_ret (v := .tuple #[.agg #[.int .i64 0, .int .i64 0], .iface 44 (.int .i64 2)]) (by simp [results, Tryd.results14, go_sem]) rfl ⟨rfl, HB.out _ ((((Below.refl _ _).alloc (Nat.le_refl _) _).alloc (by simp) _).alloc (by simp; omega) _)⟩

/-- What Read answers of a key that there is. -/
def readAns (r : Option (Int × Int)) : Value := match r with
  | some p => .tuple #[.agg #[.int .i64 p.1, .int .i64 p.2], .nilIface]
  | none => .tuple #[.agg #[.int .i64 0, .int .i64 0], .iface 44 (.int .i64 8)]

set_option maxRecDepth 100000 in
set_option maxHeartbeats 4000000 in
theorem read_any (b o : Nat) (V : List Vers) (last at_ : Int) (k : Nat) (vs : Vers) (w0 w : World) (L : List HProp) (hk : k < 10)
    (hs : S w0 w (storeP 38 b o V last :: L)) (hV : V[k]? = some vs) (hb : vs.length ≤ 2000000) :
    Calls Tryd.prog 14 #[.pointer (some ⟨b, o, none⟩), .int .i64 k, .int .i64 at_] w fun e w' => e = .returned (readAns (readV vs at_)) ∧ S w0 w' (storeP 38 b o V last :: L) := by
  have hk1 : decide (keyOk (k : Int)) = true := decide_eq_true ⟨by omega, by omega⟩
  obtain ⟨v, vs', X, hVk, hsk, hcell, hback, -, -⟩ := hs.store_key k hk
  obtain rfl : vs = vs' := Option.some.inj (hV.symm.trans hVk)
  obtain ⟨a0, cp, rfl, hcp, hcp2, _⟩ := hsk.sl_val
  have hsA := ((hsk.alloc #[.int .i64 at_] 3).alloc #[.int .i64 0, .int .i64 0] 38).alloc #[.nilIface] 34
  obtain ⟨c3, _, _⟩ := hcell _ hsA.tail.tail.tail.tail
  have hs1 := hsA.alloc #[.slice a0 vs.length cp] 24
  simp only [World.size_alloc] at hs1
  clear hsA
  clear hcp2 hs hV hVk hcell
  have H1 := hid hs1; have HK := hid hsk
  clear hs1 hsk
  refine (callsIn_wide (n := 3)).1 ?_
  refine callsIn_of_wp_marks Tryd.func14 rfl trivial ?_
  simp only [Tryd.ntmps14, List.size_toArray, List.length_cons, List.length_nil, Nat.reduceAdd, Nat.reduceSub, Array.replicate_succ, Array.replicate_zero, List.push_toArray, List.append_toArray, List.nil_append, List.cons_append]
  gi_wp2_with (refine ⟨trivial, ?_⟩; gi_at_call 48; refine (callsIn_wide.2 (right_any _ _)).mono ?_; rintro e w' ⟨rfl, rfl⟩)
  refine ⟨trivial, ?_⟩
  refine (backward_any _ _ _ _ _).mono ?_
  rintro e w' ⟨rfl, rfl⟩
  gi_wp2
  refine wpIn_rangeFunc_S rfl (fun h => by cases h) rfl trivial (enters_of Tryd.func70 (by kernel_rfl) rfl) H1.out ?_
  intro fn l D W2 hS2
  generalize hrec : Loop.mk LoopState.ready none fn _ _ _ _ D = rec at hS2
  have HR := hid hrec
  clear hrec
  refine (backward_in 2 (by omega) l (w.heap.size + 1 + 1 + 1) a0 cp vs (by omega)
    (fun i W => S w0 W (ob l (.loop rec) :: ob D (.deferred (some [])) :: blk (w.heap.size + 1 + 1 + 1) 24 [.slice a0 vs.length cp] :: blk (w.heap.size + 1 + 1) 34 [.nilIface] :: blk (w.heap.size + 1) 38 [.int .i64 0, .int .i64 0] :: blk w.heap.size 3 [.int .i64 at_] :: sl 38 2 (.slice a0 vs.length cp) vs.length (pcells vs) :: X :: L) ∧ ∀ j p, i ≤ j → vs[j]? = some p → ¬ p.1 ≤ at_)
    (fun W => ∃ p, readV vs at_ = some p ∧ S w0 W (ob l (.loop { rec with state := .done, pending := some .ret }) :: ob D (.deferred (some [])) :: blk (w.heap.size + 1 + 1 + 1) 24 [.slice a0 vs.length cp] :: blk (w.heap.size + 1 + 1) 34 [.nilIface] :: blk (w.heap.size + 1) 38 [.int .i64 p.1, .int .i64 p.2] :: blk w.heap.size 3 [.int .i64 at_] :: sl 38 2 (.slice a0 vs.length cp) vs.length (pcells vs) :: X :: L)) ?yield ?facts W2 ⟨by simpa using hS2, fun j p hj hp => by have := (List.getElem?_eq_some_iff.1 hp).1; omega⟩).mono ?after
  case facts =>
    rintro i W ⟨hS, _⟩
    refine ⟨(hS.of_mem (A := blk (w.heap.size + 1 + 1 + 1) 24 [.slice a0 vs.length cp]) (by simp)).blk_cell 0 rfl, fun i p hp => ?_⟩
    obtain ⟨g, og, hg, _, c1, c2⟩ := (hS.of_mem (A := sl 38 2 (.slice a0 vs.length cp) vs.length (pcells vs)) (by simp)).sl_pair hp
    exact ⟨g, og, hg, c1, c2⟩
  case yield =>
    rintro i p W hp ⟨hS, hlate⟩
    have hR := HR.out
    subst hR
    refine yieldAt_S hS rfl trivial rfl ?_
    have HS := hid hS
    clear hS
    dsimp only
    gi_wp2
    refine ⟨_, (HS.out.alloc #[.int .i64 p.1, .int .i64 p.2] 38).swap, fun w₂ hS₂ => ?_⟩
    have d0 := (hS₂.of_mem (A := blk W.heap.size 38 [.int .i64 p.1, .int .i64 p.2]) (by simp)).blk_cell 0 rfl
    have d0' := (hS₂.of_mem (A := blk W.heap.size 38 [.int .i64 p.1, .int .i64 p.2]) (by simp)).blk_cell 1 rfl
    have hB2 := hS₂.of_mem (A := blk (w.heap.size + 1) 38 [.int .i64 0, .int .i64 0]) (by simp)
    have hB1 := hS₂.of_mem (A := blk (w.heap.size + 1 + 1) 34 [.nilIface]) (by simp)
    have d1 := (hS₂.of_mem (A := blk w.heap.size 3 [.int .i64 at_]) (by simp)).blk_cell 0 rfl
    have d2 := hB2.blk_cell 0 rfl
    have d3 := hB2.blk_cell 1 rfl
    have d4 := hB1.blk_cell 0 rfl
    have f2 := hB2.blk_free 0
    have f3 := hB2.blk_free 1
    have f4 := hB1.blk_free 0
    clear hB1 hB2
    have HS2 := hid hS₂
    clear hS₂
    by_cases hle : p.1 ≤ at_
    · have hfind : readV vs at_ = some p := readV_of hp hle (fun j q h1 h2 => by have := hlate j q h1 h2; omega)
      have HF := hid hfind
      have hfin : S w0 (((w₂.setCell ⟨w.heap.size + 1, 0, none⟩ (.int .i64 p.1)).setCell ⟨w.heap.size + 1, 1, none⟩ (.int .i64 p.2)).setCell ⟨w.heap.size + 1 + 1, 0, none⟩ .nilIface) _ :=
        S.set_nth [_, _, _, _] (S.set_nth [_, _, _, _, _] (S.set_nth [_, _, _, _, _] HS2.out 0 (by simp) (.int .i64 p.1)) 1 (by simp) (.int .i64 p.2)) 0 (by simp) .nilIface
      have HN := hid hfin
      clear hfind hfin HS2 HS
      gi_wp2
      refine roundPost_ret HN.out (fun w' h => .inr ⟨rfl, p.1, p.2, HF.out, h.swap.tail⟩)
    · gi_wp2
      refine roundPost_normal HS2.out (fun w' h => .inl ⟨rfl, h.swap.tail, fun j q1 q2 hj hq => ?_⟩)
      rcases Nat.eq_or_lt_of_le hj with rfl | hj
      · obtain rfl : p = (q1, q2) := Option.some.inj (hp.symm.trans hq)
        simpa using hle
      · simpa using hlate j (q1, q2) hj hq
  case after =>
    rintro e W ⟨hv, hq⟩
    rcases hq with ⟨hS, hlate⟩ | ⟨p, hp, hS⟩
    · have hfind := readV_none hlate
      have hR := HR.out
      subst hR
      refine hv.imp fun v hv => ⟨hv, _, _, hS, by simp, fun w4 hS4 => ?_⟩
      dsimp only
      have hB2 := hS4.of_mem (A := blk (w.heap.size + 1) 38 [.int .i64 0, .int .i64 0]) (by simp)
      have hB1 := hS4.of_mem (A := blk (w.heap.size + 1 + 1) 34 [.nilIface]) (by simp)
      have d2 := hB2.blk_cell 0 rfl
      have d3 := hB2.blk_cell 1 rfl
      have d4 := hB1.blk_cell 0 rfl
      have f2 := hB2.blk_free 0
      have f3 := hB2.blk_free 1
      have f4 := hB1.blk_free 0
      have hfin : S w0 (((w4.setCell ⟨w.heap.size + 1, 0, none⟩ (.int .i64 0)).setCell ⟨w.heap.size + 1, 1, none⟩ (.int .i64 0)).setCell ⟨w.heap.size + 1 + 1, 0, none⟩ (.iface 44 (.int .i64 8))) _ :=
        S.set_nth [_, _] (S.set_nth [_, _, _] (S.set_nth [_, _, _] hS4 0 (by simp) (.int .i64 0)) 1 (by simp) (.int .i64 0)) 0 (by simp) (.iface 44 (.int .i64 8))
      have HN := hid hfin; have HF := hid hfind
      clear hS4 hfin hS hfind hB1 hB2
      gi_wp2
      refine ⟨by simp, .inl ⟨D, _, rfl, run_takeDeferred (HN.out).obj, ?_⟩⟩
      have hSp := (HN.out).deferred_put (d' := none)
      have e1 := (hSp.of_mem (A := blk (w.heap.size + 1) 38 [.int .i64 0, .int .i64 0]) (by simp)).blk_cell 0 rfl
      have e2 := (hSp.of_mem (A := blk (w.heap.size + 1) 38 [.int .i64 0, .int .i64 0]) (by simp)).blk_cell 1 rfl
      have e3 := (hSp.of_mem (A := blk (w.heap.size + 1 + 1) 34 [.iface 44 (.int .i64 8)]) (by simp)).blk_cell 0 rfl
      refine ⟨readAns none, ?_, by rw [HF.out], hback _ L hSp.tail.tail.tail.tail.tail⟩
      simp [results, Tryd.f14, go_sem, e1, e2, e3, readAns]
    · have hR := HR.out
      subst hR
      refine hv.imp fun v hv => ⟨hv, _, _, hS, by simp, fun w4 hS4 => ?_⟩
      dsimp only
      have HN := hid hS4; have HF := hid hp
      clear hS4 hS hp
      gi_wp2
      refine ⟨by simp, .inl ⟨D, _, rfl, run_takeDeferred (HN.out).obj, ?_⟩⟩
      have hSp := (HN.out).deferred_put (d' := none)
      have e1 := (hSp.of_mem (A := blk (w.heap.size + 1) 38 [.int .i64 p.1, .int .i64 p.2]) (by simp)).blk_cell 0 rfl
      have e2 := (hSp.of_mem (A := blk (w.heap.size + 1) 38 [.int .i64 p.1, .int .i64 p.2]) (by simp)).blk_cell 1 rfl
      have e3 := (hSp.of_mem (A := blk (w.heap.size + 1 + 1) 34 [.nilIface]) (by simp)).blk_cell 0 rfl
      refine ⟨readAns (some p), ?_, by rw [HF.out], hback _ L hSp.tail.tail.tail.tail.tail⟩
      simp [results, Tryd.f14, go_sem, e1, e2, e3, readAns]
end Go.Proofs.YtbcoddibdipjkaaDoor
