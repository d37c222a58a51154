/- Transactions at the same time: what the program's engine computes, in plain words. No walk in sight. -/
import Derived.Test.YtdlkjppppdminaaGreatDoorZ0
import Derived.RangeFuncNested
import Derived.RangeFuncBound
import Derived.RangeFuncCalls
import Derived.RangeFuncLeaves
import Derived.Shelf.Abstract
import Derived.Shelf.RegionOpen
import Derived.WalkKit
import Derived.OwnWalkIn
import Derived.TacticsInMore
import Derived.LoopNIn
import Derived.LoopIn
import Derived.Test.YtdlkjppppdminaaGreatDoorZ1
import Derived.Lib.Slices
/- The program's store: Read (a range over slices.Backward). -/
namespace Go.Proofs.YtdlkjppppdminaaGreatDoor
open Go Go.RowKit Go.Sep
attribute [local go_sem] Oper.semAt_some
theorem backward_any (a0 : Option Addr) (n0 cap : Nat) (w : World) (n : Nat) :
  CallsIn Fence.wide n Tryz.prog 88 #[.slice a0 n0 cap] w fun e w' => e = .returned (.func (.func 126) #[] #[.pointer (some ⟨w.heap.size, 0, none⟩)]) ∧ w' = w.alloc (.cells #[.slice a0 n0 cap] 66) := by
 refine callsIn_of_wp Tryz.func88 rfl trivial ?_ rfl
 simp only [Tryz.ntmps88, List.size_toArray, List.length_cons, List.length_nil, Nat.reduceAdd, Nat.reduceSub, Array.replicate_succ, Array.replicate_zero, List.push_toArray, List.append_toArray, List.nil_append, List.cons_append]
 gi_wp2
 go_ret
 exact ⟨rfl, rfl⟩
set_option maxRecDepth 100000 in
set_option maxHeartbeats 2000000 in
theorem backward_in (n : Nat) (hn : 1 ≤ n) (l Bs : Nat) (a0 : Option Addr) (cap : Nat) (vs : Vers) (hvl : vs.length ≤ 4000000) (J : Nat → World → Prop) (Jx : World → Prop)
  (hY : ∀ i p W, vs[i]? = some p → J (i + 1) W → YieldAt Fence.wide (n - 1) Tryz.prog l #[.int .i64 (i : Int), .agg #[.int .i64 p.1, .int .i64 p.2]] W fun e W' => (e = .returned (.bool true) ∧ J i W') ∨ (e = .returned (.bool false) ∧ Jx W'))
  (hJ : ∀ i W, J i W → W.cell? ⟨Bs, 0, none⟩ = some (.slice a0 vs.length cap) ∧ ∀ i p, vs[i]? = some p → ∃ b o, a0 = some ⟨b, o, none⟩ ∧ W.cell? ⟨b, o + i * 2, none⟩ = some (.int .i64 p.1) ∧ W.cell? ⟨b, o + i * 2 + 1, none⟩ = some (.int .i64 p.2))
  (W : World) (h0 : J vs.length W) :
  CallsIn Fence.wide n Tryz.prog 126 #[.func (.yield l) #[] #[], .pointer (some ⟨Bs, 0, none⟩)] W fun e W' => (∃ v, e = .returned v) ∧ (J 0 W' ∨ Jx W') := by
 have hB := (hJ _ W h0).1
 refine callsIn_of_wp Tryz.func126 rfl trivial ?_ rfl
 simp only [Tryz.ntmps126, List.size_toArray, List.length_cons, List.length_nil, Nat.reduceAdd, Nat.reduceSub, Array.replicate_succ, Array.replicate_zero, List.push_toArray, List.append_toArray, List.nil_append, List.cons_append]
 gi_wp2
 gi_loopw [3] (fun i wr => ∃ k : Nat, k ≤ vs.length ∧ i = .int .i64 ((k : Int) - 1) ∧ J k wr) (fun i _ => (intOf i + 1).toNat)
 case atStart => exact ⟨vs.length, Nat.le_refl _, rfl, h0⟩
 case round =>
  obtain ⟨k, hk, rfl, hJs⟩ := hrel
  clear hB
  cases k with
  | zero =>
   gi_wp2
   go_end0
   exact ⟨⟨_, rfl⟩, .inl hJs⟩
  | succ k =>
   have e1 : ((k + 1 : Nat) : Int) - 1 = k := by omega
   rw [e1]
   obtain ⟨p, hp⟩ : ∃ p, vs[k]? = some p := ⟨vs[k], by simp⟩
   obtain ⟨hB, hE⟩ := hJ _ wr hJs
   obtain ⟨b, o, rfl, c1, c2⟩ := hE k p hp
   obtain ⟨fn, tmps, assign, body, hy, hR⟩ := hY k p wr hp hJs
   clear hE hp
   gi_wp2
   refine hR.mono ?_
   rintro e W3 (⟨rfl, hJ3⟩ | ⟨rfl, hJx3⟩)
   ·gi_wp2
    go_roundw
    case rel => exact ⟨k, by omega, rfl, hJ3⟩
    case measure => simp [intOf]
   ·gi_wp2
    refine bodyPost_ret (results_none rfl _ _ _) rfl ?_
    exact ⟨⟨_, rfl⟩, .inr hJx3⟩
def readV (vs : Vers) (at_ : Int) : Option (Int × Int) := vs.reverse.find? fun p => decide (p.1 ≤ at_)
theorem readV_of {vs : Vers} {i : Nat} {p : Int × Int} {at_ : Int} (hp : vs[i]? = some p) (hle : p.1 ≤ at_) (h : ∀ j q, i + 1 ≤ j → vs[j]? = some q → ¬ q.1 ≤ at_) : readV vs at_ = some p := by
 obtain ⟨hi, rfl⟩ := List.getElem?_eq_some_iff.1 hp
 have e : vs = vs.take i ++ (vs[i] :: vs.drop (i + 1)) := by rw [← List.drop_eq_getElem_cons hi, List.take_append_drop]
 have hn : (vs.drop (i + 1)).reverse.find? (fun p => decide (p.1 ≤ at_)) = none := by
  rw [List.find?_eq_none]
  intro q hq
  obtain ⟨j, hj⟩ := List.getElem?_of_mem (List.mem_reverse.1 hq)
  rw [List.getElem?_drop] at hj
  simpa using h _ q (by omega) hj
 unfold readV
 generalize hx : vs[i] = x at e hle hn ⊢
 rw [e, List.reverse_append, List.reverse_cons, List.find?_append, List.find?_append, hn]
 simp [hle]
theorem readV_none {vs : Vers} {at_ : Int} (h : ∀ j q, 0 ≤ j → vs[j]? = some q → ¬ q.1 ≤ at_) : readV vs at_ = none := by
 unfold readV
 rw [List.find?_eq_none]
 intro q hq
 obtain ⟨j, hj⟩ := List.getElem?_of_mem (List.mem_reverse.1 hq)
 simpa using h j q (by omega) hj
set_option maxRecDepth 100000 in
theorem read_no (b o : Nat) (k at_ : Int) (w0 w : World) (L : List HProp) (hs : S w0 w L) (hk : ¬ keyOk k) :
  Calls Tryz.prog 55 #[.pointer (some ⟨b, o, none⟩), .int .i64 k, .int .i64 at_] w fun e w' => e = .returned (.tuple #[.agg #[.int .i64 0, .int .i64 0], .iface 54 (.int .i64 2)]) ∧ S w0 w' L := by
 have hk1 : decide (keyOk k) = false := by simpa using hk
 have hb : ∀ w', Below w.heap.size w w' → S w0 w' L := fun w' h => hs.onto h
 have HB := hid hb; clear hb hs
 go_enter Tryz.func55, Tryz.ntmps55
 go_wp2_with (first | (go_at_call 53; refine (right_any _ _).mono ?_; rintro e w' ⟨rfl, rfl⟩))
 exact bodyPost_ret (v := .tuple #[.agg #[.int .i64 0, .int .i64 0], .iface 54 (.int .i64 2)]) (by simp [results, Tryz.results55, go_sem]) rfl ⟨rfl, HB.out _ ((((Below.refl _ _).alloc (Nat.le_refl _) _).alloc (by simp) _).alloc (by simp; omega) _)⟩
def readAns (r : Option (Int × Int)) : Value := match r with
 | some p => .tuple #[.agg #[.int .i64 p.1, .int .i64 p.2], .nilIface]
 | none => .tuple #[.agg #[.int .i64 0, .int .i64 0], .iface 54 (.int .i64 8)]
set_option maxRecDepth 100000 in
set_option maxHeartbeats 4000000 in
theorem read_any (b o : Nat) (V : List Vers) (last at_ : Int) (k : Nat) (vs : Vers) (w0 w : World) (L : List HProp) (hk : k < 10)
  (hs : S w0 w (storeP 99 b o V last :: L)) (hV : V[k]? = some vs) (hb : vs.length ≤ 2000000) :
  Calls Tryz.prog 55 #[.pointer (some ⟨b, o, none⟩), .int .i64 k, .int .i64 at_] w fun e w' => e = .returned (readAns (readV vs at_)) ∧ S w0 w' (storeP 99 b o V last :: L) := by
 have hk1 : decide (keyOk (k : Int)) = true := decide_eq_true ⟨by omega, by omega⟩
 obtain ⟨v, vs', X, hVk, hsk, hcell, hback, -, -⟩ := hs.store_key k hk
 obtain rfl : vs = vs' := Option.some.inj (hV.symm.trans hVk)
 obtain ⟨a0, cp, rfl, hcp, hcp2, _⟩ := hsk.sl_val
 have hsA := ((hsk.alloc #[.int .i64 at_] 3).alloc #[.int .i64 0, .int .i64 0] 99).alloc #[.nilIface] 42
 obtain ⟨c3, _, _⟩ := hcell _ hsA.tail.tail.tail.tail
 have hs1 := hsA.alloc #[.slice a0 vs.length cp] 66
 simp only [World.size_alloc] at hs1
 clear hsA
 clear hcp2 hs hV hVk hcell
 have H1 := hid hs1; have HK := hid hsk
 clear hs1 hsk
 refine (callsIn_wide (n := 3)).1 ?_
 refine callsIn_of_wp_marks Tryz.func55 rfl trivial ?_
 simp only [Tryz.ntmps55, List.size_toArray, List.length_cons, List.length_nil, Nat.reduceAdd, Nat.reduceSub, Array.replicate_succ, Array.replicate_zero, List.push_toArray, List.append_toArray, List.nil_append, List.cons_append]
 gi_wp2_with (refine ⟨trivial, ?_⟩; gi_at_call 53; refine (callsIn_wide.2 (right_any _ _)).mono ?_; rintro e w' ⟨rfl, rfl⟩)
 refine ⟨trivial, ?_⟩
 refine (backward_any _ _ _ _ _).mono ?_
 rintro e w' ⟨rfl, rfl⟩
 gi_wp2
 refine wpIn_rangeFunc_S rfl (fun h => by cases h) rfl trivial (enters_of Tryz.func126 (by kernel_rfl) rfl) H1.out ?_
 intro fn l D W2 hS2
 generalize hrec : Loop.mk LoopState.ready none fn _ _ _ _ D = rec at hS2
 have HR := hid hrec
 clear hrec
 refine (backward_in 2 (by omega) l (w.heap.size + 1 + 1 + 1) a0 cp vs (by omega)
  (fun i W => S w0 W (ob l (.loop rec) :: ob D (.deferred (some [])) :: blk (w.heap.size + 1 + 1 + 1) 66 [.slice a0 vs.length cp] :: blk (w.heap.size + 1 + 1) 42 [.nilIface] :: blk (w.heap.size + 1) 99 [.int .i64 0, .int .i64 0] :: blk w.heap.size 3 [.int .i64 at_] :: sl 99 2 (.slice a0 vs.length cp) vs.length (pcells vs) :: X :: L) ∧ ∀ j p, i ≤ j → vs[j]? = some p → ¬ p.1 ≤ at_)
  (fun W => ∃ p, readV vs at_ = some p ∧ S w0 W (ob l (.loop { rec with state := .done, pending := some .ret }) :: ob D (.deferred (some [])) :: blk (w.heap.size + 1 + 1 + 1) 66 [.slice a0 vs.length cp] :: blk (w.heap.size + 1 + 1) 42 [.nilIface] :: blk (w.heap.size + 1) 99 [.int .i64 p.1, .int .i64 p.2] :: blk w.heap.size 3 [.int .i64 at_] :: sl 99 2 (.slice a0 vs.length cp) vs.length (pcells vs) :: X :: L)) ?yield ?facts W2 ⟨by simpa using hS2, fun j p hj hp => by have := (List.getElem?_eq_some_iff.1 hp).1; omega⟩).mono ?after
 case facts =>
  rintro i W ⟨hS, _⟩
  refine ⟨(hS.of_mem (A := blk (w.heap.size + 1 + 1 + 1) 66 [.slice a0 vs.length cp]) (by simp)).blk_cell 0 rfl, fun i p hp => ?_⟩
  obtain ⟨g, og, hg, _, c1, c2⟩ := (hS.of_mem (A := sl 99 2 (.slice a0 vs.length cp) vs.length (pcells vs)) (by simp)).sl_pair hp
  exact ⟨g, og, hg, c1, c2⟩
 case yield =>
  rintro i p W hp ⟨hS, hlate⟩
  have hR := HR.out
  subst hR
  refine yieldAt_S hS rfl trivial rfl ?_
  have HS := hid hS
  clear hS
  dsimp only
  gi_wp2
  refine ⟨_, (HS.out.alloc #[.int .i64 p.1, .int .i64 p.2] 99).swap, fun w₂ hS₂ => ?_⟩
  have d0 := (hS₂.of_mem (A := blk W.heap.size 99 [.int .i64 p.1, .int .i64 p.2]) (by simp)).blk_cell 0 rfl
  have d0' := (hS₂.of_mem (A := blk W.heap.size 99 [.int .i64 p.1, .int .i64 p.2]) (by simp)).blk_cell 1 rfl
  have hB2 := hS₂.of_mem (A := blk (w.heap.size + 1) 99 [.int .i64 0, .int .i64 0]) (by simp)
  have hB1 := hS₂.of_mem (A := blk (w.heap.size + 1 + 1) 42 [.nilIface]) (by simp)
  have d1 := (hS₂.of_mem (A := blk w.heap.size 3 [.int .i64 at_]) (by simp)).blk_cell 0 rfl
  have d2 := hB2.blk_cell 0 rfl
  have d3 := hB2.blk_cell 1 rfl
  have d4 := hB1.blk_cell 0 rfl
  have f2 := hB2.blk_free 0
  have f3 := hB2.blk_free 1
  have f4 := hB1.blk_free 0
  clear hB1 hB2
  have HS2 := hid hS₂
  clear hS₂
  by_cases hle : p.1 ≤ at_
  ·have hfind : readV vs at_ = some p := readV_of hp hle (fun j q h1 h2 => by have := hlate j q h1 h2; omega)
   have HF := hid hfind
   have hfin : S w0 (((w₂.setCell ⟨w.heap.size + 1, 0, none⟩ (.int .i64 p.1)).setCell ⟨w.heap.size + 1, 1, none⟩ (.int .i64 p.2)).setCell ⟨w.heap.size + 1 + 1, 0, none⟩ .nilIface) _ :=
    S.set_nth [_, _, _, _] (S.set_nth [_, _, _, _, _] (S.set_nth [_, _, _, _, _] HS2.out 0 (by simp) (.int .i64 p.1)) 1 (by simp) (.int .i64 p.2)) 0 (by simp) .nilIface
   have HN := hid hfin
   clear hfind hfin HS2 HS
   gi_wp2
   refine roundPost_ret HN.out (fun w' h => .inr ⟨rfl, p.1, p.2, HF.out, h.swap.tail⟩)
  ·gi_wp2
   refine roundPost_normal HS2.out (fun w' h => .inl ⟨rfl, h.swap.tail, fun j q1 q2 hj hq => ?_⟩)
   rcases Nat.eq_or_lt_of_le hj with rfl | hj
   ·obtain rfl : p = (q1, q2) := Option.some.inj (hp.symm.trans hq)
    simpa using hle
   ·simpa using hlate j (q1, q2) hj hq
 case after =>
  rintro e W ⟨hv, hq⟩
  rcases hq with ⟨hS, hlate⟩ | ⟨p, hp, hS⟩
  ·have hfind := readV_none hlate
   have hR := HR.out
   subst hR
   refine hv.imp fun v hv => ⟨hv, _, _, hS, by simp, fun w4 hS4 => ?_⟩
   dsimp only
   have hB2 := hS4.of_mem (A := blk (w.heap.size + 1) 99 [.int .i64 0, .int .i64 0]) (by simp)
   have hB1 := hS4.of_mem (A := blk (w.heap.size + 1 + 1) 42 [.nilIface]) (by simp)
   have d2 := hB2.blk_cell 0 rfl
   have d3 := hB2.blk_cell 1 rfl
   have d4 := hB1.blk_cell 0 rfl
   have f2 := hB2.blk_free 0
   have f3 := hB2.blk_free 1
   have f4 := hB1.blk_free 0
   have hfin : S w0 (((w4.setCell ⟨w.heap.size + 1, 0, none⟩ (.int .i64 0)).setCell ⟨w.heap.size + 1, 1, none⟩ (.int .i64 0)).setCell ⟨w.heap.size + 1 + 1, 0, none⟩ (.iface 54 (.int .i64 8))) _ :=
    S.set_nth [_, _] (S.set_nth [_, _, _] (S.set_nth [_, _, _] hS4 0 (by simp) (.int .i64 0)) 1 (by simp) (.int .i64 0)) 0 (by simp) (.iface 54 (.int .i64 8))
   have HN := hid hfin; have HF := hid hfind
   clear hS4 hfin hS hfind hB1 hB2
   gi_wp2
   refine ⟨by simp, .inl ⟨D, _, rfl, run_takeDeferred (HN.out).obj, ?_⟩⟩
   have hSp := (HN.out).deferred_put (d' := none)
   have e1 := (hSp.of_mem (A := blk (w.heap.size + 1) 99 [.int .i64 0, .int .i64 0]) (by simp)).blk_cell 0 rfl
   have e2 := (hSp.of_mem (A := blk (w.heap.size + 1) 99 [.int .i64 0, .int .i64 0]) (by simp)).blk_cell 1 rfl
   have e3 := (hSp.of_mem (A := blk (w.heap.size + 1 + 1) 42 [.iface 54 (.int .i64 8)]) (by simp)).blk_cell 0 rfl
   refine ⟨readAns none, ?_, by rw [HF.out], hback _ L hSp.tail.tail.tail.tail.tail⟩
   simp [results, Tryz.f55, go_sem, e1, e2, e3, readAns]
  ·have hR := HR.out
   subst hR
   refine hv.imp fun v hv => ⟨hv, _, _, hS, by simp, fun w4 hS4 => ?_⟩
   dsimp only
   have HN := hid hS4; have HF := hid hp
   clear hS4 hS hp
   gi_wp2
   refine ⟨by simp, .inl ⟨D, _, rfl, run_takeDeferred (HN.out).obj, ?_⟩⟩
   have hSp := (HN.out).deferred_put (d' := none)
   have e1 := (hSp.of_mem (A := blk (w.heap.size + 1) 99 [.int .i64 p.1, .int .i64 p.2]) (by simp)).blk_cell 0 rfl
   have e2 := (hSp.of_mem (A := blk (w.heap.size + 1) 99 [.int .i64 p.1, .int .i64 p.2]) (by simp)).blk_cell 1 rfl
   have e3 := (hSp.of_mem (A := blk (w.heap.size + 1 + 1) 42 [.nilIface]) (by simp)).blk_cell 0 rfl
   refine ⟨readAns (some p), ?_, by rw [HF.out], hback _ L hSp.tail.tail.tail.tail.tail⟩
   simp [results, Tryz.f55, go_sem, e1, e2, e3, readAns]
end Go.Proofs.YtdlkjppppdminaaGreatDoor
/- Sweeping is not seen: the plain law, on lists of versions. No walk in sight. -/
namespace Go.Proofs.YtdlkjppppdminaaGreatDoor
open Go Go.RowKit Go.Sep
theorem lastLe_spec (at_ : Int) : ∀ (l : Vers) (i : Nat) (r : Int), (lastLe at_ i r l = r ∧ ∀ p ∈ l, at_ < p.1) ∨
  ∃ (j : Nat) (p : Int × Int), lastLe at_ i r l = i + j ∧ l[j]? = some p ∧ p.1 ≤ at_ ∧ ∀ j' q, j < j' → l[j']? = some q → at_ < q.1
 | [], i, r => .inl ⟨rfl, by simp⟩
 | p :: l, i, r => by
  by_cases hp : p.1 ≤ at_
  ·rcases lastLe_spec at_ l (i + 1) i with ⟨h1, h2⟩ | ⟨j, q, h1, h2, h3, h4⟩
   ·refine .inr ⟨0, p, by simp [lastLe, hp, h1], rfl, hp, fun j' q hj hq => ?_⟩
    cases j' with
    | zero => omega
    | succ j' => exact h2 q (List.mem_of_getElem? (by simpa using hq))
   ·refine .inr ⟨j + 1, q, by simp [lastLe, hp, h1]; omega, by simpa using h2, h3, fun j' q' hj hq => ?_⟩
    cases j' with
    | zero => omega
    | succ j' => exact h4 j' q' (by omega) (by simpa using hq)
  ·rcases lastLe_spec at_ l (i + 1) r with ⟨h1, h2⟩ | ⟨j, q, h1, h2, h3, h4⟩
   ·refine .inl ⟨by simp [lastLe, hp, h1], fun q hq => ?_⟩
    cases hq with
    | head => omega
    | tail _ hq => exact h2 q hq
   ·refine .inr ⟨j + 1, q, by simp [lastLe, hp, h1]; omega, by simpa using h2, h3, fun j' q' hj hq => ?_⟩
    cases j' with
    | zero => omega
    | succ j' => exact h4 j' q' (by omega) (by simpa using hq)
theorem sweptN_spec (at_ : Int) (vs : Vers) : (sweptN at_ vs = 0 ∨ ∃ p, vs[sweptN at_ vs]? = some p ∧ p.1 ≤ at_) ∧ (∀ j q, sweptN at_ vs < j → vs[j]? = some q → at_ < q.1) ∧ sweptN at_ vs ≤ vs.length ∧ swept at_ vs = vs.drop (sweptN at_ vs) := by
 refine ⟨?_, ?_, ?_, rfl⟩
 all_goals
  unfold sweptN
  rcases lastLe_spec at_ vs 0 (-1) with ⟨h1, h2⟩ | ⟨j, q, h1, h2, h3, h4⟩
 ·left; rw [h1]; rfl
 ·right; rw [h1]; simp only [Int.natCast_zero, Int.zero_add, Int.toNat_natCast]; exact ⟨q, h2, h3⟩
 ·intro j q _ hq; exact h2 q (List.mem_of_getElem? hq)
 ·intro j' q' hj hq; rw [h1] at hj; exact h4 j' q' (by simpa using hj) hq
 ·rw [h1]; simp
 ·rw [h1]; have := (List.getElem?_eq_some_iff.1 h2).1; simp; omega
def Rel (at_ : Int) (a b : Vers) : Prop := ∃ m, b = a.drop m ∧ (m = 0 ∨ ∃ p, a[m]? = some p ∧ p.1 ≤ at_) ∧ a.Pairwise (fun p q => p.1 ≤ q.1)
theorem Rel.nil (at_ : Int) : Rel at_ [] [] := ⟨0, rfl, .inl rfl, by simp⟩
theorem Rel.sweep {at_ at' : Int} {a b : Vers} (h : Rel at_ a b) (hle : at' ≤ at_) : Rel at_ a (swept at' b) := by
 obtain ⟨m, rfl, hm, hs⟩ := h
 obtain ⟨h1, h2, h3, h4⟩ := sweptN_spec at' (a.drop m)
 refine ⟨m + sweptN at' (a.drop m), by rw [h4, List.drop_drop], ?_, hs⟩
 rcases h1 with h1 | ⟨p, hp, hp'⟩
 ·rw [h1, Nat.add_zero]; exact hm
 ·right; exact ⟨p, by rw [List.getElem?_drop] at hp; exact hp, by omega⟩
def puts (at_ : Int) (vs : Vers) (v : Int) : Vers := if (vs.getLast?.map (·.1)) = some at_ then vs.dropLast ++ [(at_, v)] else vs ++ [(at_, v)]
theorem puts_le {t : Int} {vs : Vers} {v : Int} (h : ∀ p ∈ vs, p.1 ≤ t) : ∀ p ∈ puts t vs v, p.1 ≤ t := by
 unfold puts
 intro p hp
 split at hp
 ·rcases List.mem_append.1 hp with hp | hp
  ·exact h p (List.dropLast_subset _ hp)
  ·simp at hp; subst hp; exact Int.le_refl _
 ·rcases List.mem_append.1 hp with hp | hp
  ·exact h p hp
  ·simp at hp; subst hp; exact Int.le_refl _
theorem Rel.puts {at_ t : Int} {a b : Vers} (v : Int) (h : Rel at_ a b) (ht : ∀ p ∈ a, p.1 ≤ t) : Rel at_ (puts t a v) (puts t b v) := by
 obtain ⟨m, rfl, hm, hs⟩ := h
 have hmle : m = 0 ∨ m < a.length := hm.imp id fun ⟨p, hp, _⟩ => (List.getElem?_eq_some_iff.1 hp).1
 have hlast : (a.drop m).getLast? = a.getLast? := by
  rcases hmle with rfl | h
  ·rfl
  ·rw [List.getLast?_drop, if_neg (by omega)]
 unfold Proofs.YtdlkjppppdminaaGreatDoor.puts
 rw [hlast]
 by_cases hl : (a.getLast?.map (·.1)) = some t
 ·rw [if_pos hl, if_pos hl]
  have hne : a ≠ [] := by intro e; rw [e] at hl; simp at hl
  have hml : m ≤ a.length - 1 := by have := List.length_pos_iff.2 hne; omega
  refine ⟨m, ?_, ?_, ?_⟩
  ·rw [List.drop_append_of_le_length (by simpa using hml), List.dropLast_eq_take, List.dropLast_eq_take, List.length_drop, List.drop_take]
   congr 2; omega
  ·rcases hm with rfl | ⟨p, hp, hle⟩
   ·exact .inl rfl
   ·right
    have hlt := (List.getElem?_eq_some_iff.1 hp).1
    rcases Nat.lt_or_ge m (a.length - 1) with hx | hx
    ·exact ⟨p, by rw [List.getElem?_append_left (by simpa using hx), List.getElem?_dropLast, if_pos (by omega)]; exact hp, hle⟩
    ·have hme : m = a.length - 1 := by omega
     refine ⟨(t, v), by rw [List.getElem?_append_right (by simp; omega), hme]; simp, ?_⟩
     have : a.getLast? = some p := by rw [List.getLast?_eq_getElem?, ← hme]; exact hp
     rw [this] at hl; simp at hl; simp only; omega
  ·rw [List.pairwise_append]
   refine ⟨hs.sublist (List.dropLast_sublist _), by simp, ?_⟩
   intro p hp q hq; simp at hq; subst hq; exact ht p (List.dropLast_subset _ hp)
 ·rw [if_neg hl, if_neg hl]
  refine ⟨m, ?_, ?_, ?_⟩
  ·rcases hmle with rfl | h
   ·rfl
   ·rw [List.drop_append_of_le_length (by omega)]
  ·rcases hm with rfl | ⟨p, hp, hle⟩
   ·exact .inl rfl
   ·right; exact ⟨p, by rw [List.getElem?_append_left (List.getElem?_eq_some_iff.1 hp).1]; exact hp, hle⟩
  ·rw [List.pairwise_append]
   refine ⟨hs, by simp, ?_⟩
   intro p hp q hq; simp at hq; subst hq; exact ht p hp
theorem Rel.early {at_ see : Int} {a : Vers} {m : Nat} (hm : m = 0 ∨ ∃ p, a[m]? = some p ∧ p.1 ≤ at_) (hs : a.Pairwise (fun p q => p.1 ≤ q.1)) (hle : at_ ≤ see) : ∀ p ∈ a.take m, p.1 ≤ see := by
 rcases hm with rfl | ⟨q, hq, hq'⟩
 ·simp
 ·intro p hp
  obtain ⟨hm, hqe⟩ := List.getElem?_eq_some_iff.1 hq
  have : a = a.take m ++ a.drop m := (List.take_append_drop m a).symm
  rw [this, List.pairwise_append] at hs
  have := hs.2.2 p hp q (by rw [← hqe, List.drop_eq_getElem_cons hm]; exact List.mem_cons_self)
  omega
theorem Rel.newer {at_ see : Int} {a b : Vers} (h : Rel at_ a b) (hle : at_ ≤ see) : newerL a see = newerL b see := by
 obtain ⟨m, rfl, hm, hs⟩ := h
 have he := Rel.early hm hs hle
 unfold newerL
 conv => lhs; rw [← List.take_append_drop m a, List.filter_append]
 rw [List.filter_eq_nil_iff.2 (fun p hp => by have := he p hp; simp; omega), List.nil_append]
theorem Rel.read {at_ see : Int} {a b : Vers} (h : Rel at_ a b) (hle : at_ ≤ see) : readV a see = readV b see := by
 obtain ⟨m, rfl, hm, hs⟩ := h
 unfold readV
 conv => lhs; rw [← List.take_append_drop m a, List.reverse_append, List.find?_append]
 rcases hm with rfl | ⟨q, hq, hq'⟩
 ·simp
 ·obtain ⟨hm, hqe⟩ := List.getElem?_eq_some_iff.1 hq
  have : ((a.drop m).reverse.find? fun p => decide (p.1 ≤ see)).isSome := by
   rw [List.find?_isSome]
   exact ⟨q, by rw [List.mem_reverse, ← hqe, List.drop_eq_getElem_cons hm]; exact List.mem_cons_self, by simp; omega⟩
  obtain ⟨x, hx⟩ := Option.isSome_iff_exists.1 this
  rw [hx]; rfl
def RelV (at_ last : Int) (A B : List Vers) : Prop := A.length = B.length ∧ ∀ (k : Nat) (a b : Vers), A[k]? = some a → B[k]? = some b → Rel at_ a b ∧ ∀ p ∈ a, p.1 ≤ last
theorem RelV.start (at_ : Int) : RelV at_ 0 (List.replicate 10 []) (List.replicate 10 []) := by
 refine ⟨rfl, fun k a b ha hb => ?_⟩
 have h1 := List.eq_of_mem_replicate (List.mem_of_getElem? ha)
 have h2 := List.eq_of_mem_replicate (List.mem_of_getElem? hb)
 subst h1; subst h2
 exact ⟨Rel.nil _, by simp⟩
theorem RelV.sweep {at_ at' last : Int} {A B : List Vers} (h : RelV at_ last A B) (hle : at' ≤ at_) : RelV at_ last A (B.map (swept at')) := by
 refine ⟨by simpa using h.1, fun k a b ha hb => ?_⟩
 rw [List.getElem?_map, Option.map_eq_some_iff] at hb
 obtain ⟨b', hb', rfl⟩ := hb
 exact ⟨(h.2 k a b' ha hb').1.sweep hle, (h.2 k a b' ha hb').2⟩
theorem RelV.put1 {at_ last t : Int} {A B : List Vers} (h : RelV at_ last A B) (hlt : last ≤ t) (p : Int × Int) : RelV at_ t (put1 t A p) (put1 t B p) := by
 refine ⟨by simp [Go.Sep.put1, h.1], fun k a b ha hb => ?_⟩
 unfold Go.Sep.put1 at ha hb
 rw [List.getElem?_set] at ha hb
 by_cases hk : p.1.toNat = k
 ·rw [if_pos hk] at ha hb
  split at ha <;> simp at ha
  rename_i hkl
  rw [if_pos (by rw [← h.1]; exact hkl)] at hb
  simp at hb
  have hA : A[p.1.toNat]? = some A[p.1.toNat] := by simp
  have hB : B[p.1.toNat]? = some (B[p.1.toNat]'(by rw [← h.1]; exact hkl)) := by simp
  obtain ⟨r1, r2⟩ := h.2 _ _ _ hA hB
  rw [hA, Option.getD_some] at ha
  rw [hB, Option.getD_some] at hb
  have r2' : ∀ q ∈ A[p.1.toNat], q.1 ≤ t := fun q hq => Int.le_trans (r2 q hq) hlt
  rw [← ha, ← hb]
  exact ⟨r1.puts p.2 r2', puts_le r2'⟩
 ·rw [if_neg hk] at ha hb
  exact ⟨(h.2 k a b ha hb).1, fun q hq => Int.le_trans ((h.2 k a b ha hb).2 q hq) hlt⟩
theorem RelV.putAll {at_ t : Int} (l : Vers) : ∀ {last : Int} {A B : List Vers}, RelV at_ last A B → last ≤ t → RelV at_ t (putAll t A l) (putAll t B l) := by
 induction l with
 | nil => intro last A B h hlt; exact ⟨h.1, fun k a b ha hb => ⟨(h.2 k a b ha hb).1, fun q hq => Int.le_trans ((h.2 k a b ha hb).2 q hq) hlt⟩⟩
 | cons p l ih => intro last A B h hlt; exact ih (h.put1 hlt p) (Int.le_refl _)
end Go.Proofs.YtdlkjppppdminaaGreatDoor
/- Still more words: the first ones of a list alone. -/
namespace Go.Sep
open Go Go.RowKit
variable {w0 w : World} {L M : List HProp}
theorem S.left (M : List HProp) (h : S w0 w (M ++ L)) : S w0 w M := by
 have h1 := h.perm (List.perm_append_comm)
 induction L with
 | nil => simpa using h
 | cons P L ih =>
  have h2 : S w0 w (P :: (L ++ M)) := h1
  exact ih (h2.tail.perm List.perm_append_comm) h2.tail
end Go.Sep
/- The program's table of locks: what its memory is. -/
namespace Go.Sep
open Go Go.RowKit
section plain
variable {κ ν μ : Type} [DecidableEq κ]
theorem mget_map (f : ν → μ) (D : List (κ × ν)) (k : κ) : mget (D.map fun p => (p.1, f p.2)) k = (mget D k).map f := by
 induction D with
 | nil => rfl
 | cons d D ih => simp only [List.map_cons, mget_cons, ih]; split <;> simp
theorem mput_map (f : ν → μ) (D : List (κ × ν)) (k : κ) (v : ν) : mput (D.map fun p => (p.1, f p.2)) k (f v) = (mput D k v).map fun p => (p.1, f p.2) := by
 unfold mput
 rw [mget_map]
 simp only [Option.isSome_map]
 split
 ·rw [List.map_map, List.map_map]
  apply List.map_congr_left
  intro d _
  simp only [Function.comp]
  split <;> rfl
 ·simp
theorem mdel_map (f : ν → μ) (D : List (κ × ν)) (k : κ) : mdel (D.map fun p => (p.1, f p.2)) k = (mdel D k).map fun p => (p.1, f p.2) := by
 unfold mdel
 rw [List.filter_map]
 rfl
theorem mdel_none {D : List (κ × ν)} {k : κ} (h : mget D k = none) : mdel D k = D := by
 unfold mdel
 rw [List.filter_eq_self]
 intro d hd
 have := mget_none.1 h
 simp only [decide_eq_true_eq]
 intro e
 exact this (List.mem_map.2 ⟨d, hd, e⟩)
theorem mdel_cons (d : κ × ν) (D : List (κ × ν)) (k : κ) : mdel (d :: D) k = if d.1 = k then mdel D k else d :: mdel D k := by
 unfold mdel
 rw [List.filter_cons]
 by_cases h : d.1 = k <;> simp [h]
theorem perm_out {D : List (κ × ν)} (hn : (D.map (·.1)).Nodup) {k : κ} {v : ν} (h : mget D k = some v) : D.Perm ((k, v) :: mdel D k) := by
 induction D with
 | nil => simp [mget_nil] at h
 | cons d D ih =>
  rw [List.map_cons, List.nodup_cons] at hn
  rw [mget_cons] at h
  rw [mdel_cons]
  by_cases hd : d.1 = k
  ·rw [if_pos hd] at h ⊢
   have hk : mget D k = none := mget_none.2 (by rw [← hd]; exact hn.1)
   rw [mdel_none hk]
   have : d = (k, v) := by cases d; simp_all
   rw [this]
  ·rw [if_neg hd] at h ⊢
   exact ((ih hn.2 h).cons d).trans (List.Perm.swap _ _ _)
theorem perm_put {D : List (κ × ν)} (hn : (D.map (·.1)).Nodup) (k : κ) (v : ν) : (mput D k v).Perm ((k, v) :: mdel D k) := by
 have h1 : mget (mput D k v) k = some v := by rw [mget_put]; simp
 have h2 : mdel (mput D k v) k = mdel D k := by
  unfold mput
  split
  ·unfold mdel
   rw [List.filter_map]
   have e : ((fun d : κ × ν => decide (d.1 ≠ k)) ∘ fun d => if d.1 = k then (k, v) else d) = fun d => decide (d.1 ≠ k) := by
    funext d
    simp only [Function.comp]
    by_cases h : d.1 = k <;> simp [h]
   rw [e]
   conv => rhs; rw [← List.map_id (List.filter _ D)]
   apply List.map_congr_left
   intro d hd
   have := (List.mem_filter.1 hd).2
   simp only [decide_eq_true_eq] at this
   simp [this]
  ·unfold mdel
   rw [List.filter_append]
   simp
 have h3 := perm_out (keys_put_nodup hn k v) h1
 rwa [h2] at h3
end plain
structure Tbl where
 hold : List (Int × Int)
 line : List (Int × List Int)
 wait : List (Int × Int)
def ienc (D : List (Int × Int)) : List (Int × Value) := D.map fun p => (p.1, encI p.2)
def lrow (T : TypeId) (p : Int × (Value × List Int)) : HProp := sl T 1 p.2.1 p.2.2.length (icells p.2.2)
def tabM (T b o bh bl bb : Nat) (E : List (Int × (Value × List Int))) (t : Tbl) : HProp :=
 sep (pur (E.map (fun p => (p.1, p.2.2)) = t.line)) (sep (cells b o [.map (some bh), .map (some bl), .map (some bb)]) (sep (mp encI (fun _ => True) bh (ienc t.hold))
  (sep (mp encI (fun _ => True) bb (ienc t.wait)) (sep (mp encI (fun _ => True) bl (E.map fun p => (p.1, p.2.1))) (all (E.map (lrow T)))))))
def tab0 (b o : Nat) (t : Tbl) : HProp := sep (pur (t = ⟨[], [], []⟩)) (cells b o [.map none, .map none, .map none])
def tabP (T b o : Nat) (t : Tbl) : HProp := fun h => tab0 b o t h ∨ ex (fun bh => ex fun bl => ex fun bb => ex fun E => tabM T b o bh bl bb E t) h
variable {w w0 : World} {L : List HProp} {T b o bh bl bb : Nat} {E : List (Int × (Value × List Int))} {t : Tbl}
theorem S.tab_cases (h : S w0 w (tabP T b o t :: L)) : S w0 w (tab0 b o t :: L) ∨ ∃ bh bl bb E, S w0 w (tabM T b o bh bl bb E t :: L) := by
 rcases S.or_elim h with h | h
 ·exact .inl h
 ·obtain ⟨bh, h⟩ := h.ex_elim
  obtain ⟨bl, h⟩ := h.ex_elim
  obtain ⟨bb, h⟩ := h.ex_elim
  obtain ⟨E, h⟩ := h.ex_elim
  exact .inr ⟨bh, bl, bb, E, h⟩
theorem S.tab_made (h : S w0 w (tabM T b o bh bl bb E t :: L)) : S w0 w (tabP T b o t :: L) :=
 S.mono (P := ex (fun bh => ex fun bl => ex fun bb => ex fun E => tabM T b o bh bl bb E t)) (.ex_intro bh (.ex_intro bl (.ex_intro bb (.ex_intro E h)))) fun _ p => .inr p
theorem S.tab_zero (h : S w0 w (cells b o [.map none, .map none, .map none] :: L)) : S w0 w (tabP T b o ⟨[], [], []⟩ :: L) :=
 S.mono (P := tab0 b o ⟨[], [], []⟩) (.sep_intro (.pur_intro rfl h)) fun _ p => .inl p
theorem S.tab0_cells (h : S w0 w (tab0 b o t :: L)) : t = ⟨[], [], []⟩ ∧ S w0 w (cells b o [.map none, .map none, .map none] :: L) := h.sep_elim.pur_elim
theorem S.tab_parts (h : S w0 w (tabM T b o bh bl bb E t :: L)) : E.map (fun p => (p.1, p.2.2)) = t.line ∧
  S w0 w (cells b o [.map (some bh), .map (some bl), .map (some bb)] :: mp encI (fun _ => True) bh (ienc t.hold) :: mp encI (fun _ => True) bb (ienc t.wait) :: mp encI (fun _ => True) bl (E.map fun p => (p.1, p.2.1)) :: all (E.map (lrow T)) :: L) := by
 obtain ⟨hp, h⟩ := h.sep_elim.pur_elim
 refine ⟨hp, h.conv ?_⟩
 simp only [all, sep_assoc]
theorem S.tab_join (hp : E.map (fun p => (p.1, p.2.2)) = t.line)
  (h : S w0 w (cells b o [.map (some bh), .map (some bl), .map (some bb)] :: mp encI (fun _ => True) bh (ienc t.hold) :: mp encI (fun _ => True) bb (ienc t.wait) :: mp encI (fun _ => True) bl (E.map fun p => (p.1, p.2.1)) :: all (E.map (lrow T)) :: L)) :
  S w0 w (tabM T b o bh bl bb E t :: L) := by
 refine .sep_intro (.pur_intro hp (h.conv ?_))
 simp only [all, sep_assoc]
theorem ienc_get (D : List (Int × Int)) (k : Int) : mget (ienc D) k = (mget D k).map encI := mget_map encI D k
theorem ienc_put (D : List (Int × Int)) (k v : Int) : mput (ienc D) k (encI v) = ienc (mput D k v) := mput_map encI D k v
theorem ienc_del (D : List (Int × Int)) (k : Int) : mdel (ienc D) k = ienc (mdel D k) := mdel_map encI D k
theorem S.tab_see (h : S w0 w (tabM T b o bh bl bb E t :: L)) : w.cell? ⟨b, o, none⟩ = some (.map (some bh)) ∧ w.cell? ⟨b, o + 1, none⟩ = some (.map (some bl)) ∧ w.cell? ⟨b, o + 2, none⟩ = some (.map (some bb)) ∧
  Go.Sep.MapAt encI (fun _ => True) w bh (ienc t.hold) ∧ Go.Sep.MapAt encI (fun _ => True) w bb (ienc t.wait) ∧ Go.Sep.MapAt encI (fun _ => True) w bl (E.map fun p => (p.1, p.2.1)) := by
 obtain ⟨_, h⟩ := h.tab_parts
 exact ⟨h.cells_cell 0 rfl, h.cells_cell 1 rfl, h.cells_cell 2 rfl, h.swap.mapAt, h.rot3.mapAt, h.rot4.mapAt⟩
theorem S.tab_keys (h : S w0 w (tabM T b o bh bl bb E t :: L)) : (E.map (·.1)).Nodup ∧ (t.hold.map (·.1)).Nodup ∧ (t.wait.map (·.1)).Nodup := by
 obtain ⟨_, h⟩ := h.tab_parts
 refine ⟨?_, ?_, ?_⟩
 ·simpa [List.map_map, Function.comp_def] using h.rot4.nodup
 ·simpa [ienc, List.map_map, Function.comp_def] using h.swap.nodup
 ·simpa [ienc, List.map_map, Function.comp_def] using h.rot3.nodup
section ops
variable {P : Program} {kt mt e : TypeId}
theorem S.tab_hold_put (K : KeyOk P kt encI (fun _ => True)) (ht : P.underlying mt = some (.map kt e)) (h : S w0 w (tabM T b o bh bl bb E t :: L)) (k v : Int) :
  ∃ w', (Instr.mapUpdate mt (.map (some bh)) (encI k) (encI v)).run P w = .ok () w' ∧ S w0 w' (tabM T b o bh bl bb E { t with hold := mput t.hold k v } :: L) := by
 obtain ⟨hp, h⟩ := h.tab_parts
 obtain ⟨w', hr, h'⟩ := h.swap.put K ht k trivial (encI v)
 rw [ienc_put] at h'
 exact ⟨w', hr, S.tab_join hp h'.swap⟩
theorem S.tab_wait_put (K : KeyOk P kt encI (fun _ => True)) (ht : P.underlying mt = some (.map kt e)) (h : S w0 w (tabM T b o bh bl bb E t :: L)) (k v : Int) :
  ∃ w', (Instr.mapUpdate mt (.map (some bb)) (encI k) (encI v)).run P w = .ok () w' ∧ S w0 w' (tabM T b o bh bl bb E { t with wait := mput t.wait k v } :: L) := by
 obtain ⟨hp, h⟩ := h.tab_parts
 obtain ⟨w', hr, h'⟩ := h.rot3.put K ht k trivial (encI v)
 rw [ienc_put] at h'
 exact ⟨w', hr, S.tab_join (t := { t with wait := mput t.wait k v }) hp h'.rot3.rot3⟩
theorem S.tab_hold_del (K : KeyOk P kt encI (fun _ => True)) {ty : TypeId} (ht : P.underlying mt = some (.map kt e)) (h : S w0 w (tabM T b o bh bl bb E t :: L)) (k : Int) :
  ∃ w', (Builtin.delete_ #[mt, kt] ty #[.map (some bh), encI k]).run P w = .ok (.tuple #[]) w' ∧ S w0 w' (tabM T b o bh bl bb E { t with hold := mdel t.hold k } :: L) := by
 obtain ⟨hp, h⟩ := h.tab_parts
 obtain ⟨w', hr, h'⟩ := h.swap.del K (ty := ty) ht k trivial
 rw [ienc_del] at h'
 exact ⟨w', hr, S.tab_join hp h'.swap⟩
theorem S.tab_wait_del (K : KeyOk P kt encI (fun _ => True)) {ty : TypeId} (ht : P.underlying mt = some (.map kt e)) (h : S w0 w (tabM T b o bh bl bb E t :: L)) (k : Int) :
  ∃ w', (Builtin.delete_ #[mt, kt] ty #[.map (some bb), encI k]).run P w = .ok (.tuple #[]) w' ∧ S w0 w' (tabM T b o bh bl bb E { t with wait := mdel t.wait k } :: L) := by
 obtain ⟨hp, h⟩ := h.tab_parts
 obtain ⟨w', hr, h'⟩ := h.rot3.del K (ty := ty) ht k trivial
 rw [ienc_del] at h'
 exact ⟨w', hr, S.tab_join (t := { t with wait := mdel t.wait k }) hp h'.rot3.rot3⟩
def lineOf (E : List (Int × (Value × List Int))) (k : Int) : Value × List Int := (mget E k).getD (.slice none 0 0, [])
def tabX (T b o bh bl bb : Nat) (E : List (Int × (Value × List Int))) (k : Int) (t : Tbl) : HProp :=
 sep (pur (E.map (fun p => (p.1, p.2.2)) = t.line)) (sep (cells b o [.map (some bh), .map (some bl), .map (some bb)]) (sep (mp encI (fun _ => True) bh (ienc t.hold))
  (sep (mp encI (fun _ => True) bb (ienc t.wait)) (sep (mp encI (fun _ => True) bl (E.map fun p => (p.1, p.2.1))) (all ((mdel E k).map (lrow T)))))))
theorem S.tab_line (h : S w0 w (tabM T b o bh bl bb E t :: L)) (k : Int) : S w0 w (sl T 1 (lineOf E k).1 (lineOf E k).2.length (icells (lineOf E k).2) :: tabX T b o bh bl bb E k t :: L) := by
 have hk := h.tab_keys.1
 obtain ⟨hp, h⟩ := h.tab_parts
 have key : S w0 w (sl T 1 (lineOf E k).1 (lineOf E k).2.length (icells (lineOf E k).2) :: cells b o [.map (some bh), .map (some bl), .map (some bb)] :: mp encI (fun _ => True) bh (ienc t.hold) :: mp encI (fun _ => True) bb (ienc t.wait) :: mp encI (fun _ => True) bl (E.map fun p => (p.1, p.2.1)) :: all ((mdel E k).map (lrow T)) :: L) := by
  cases hg : mget E k with
  | none =>
   unfold lineOf
   rw [hg, mdel_none hg]
   exact h.sl_nil
  | some x =>
   unfold lineOf
   rw [hg]
   have hq := (perm_out hk hg).map (lrow T)
   refine h.conv ?_
   simp only [all]
   rw [all_perm hq]
   simp only [List.map_cons, all, lrow, Option.getD_some]
   rw [sep_left_comm (sl _ _ _ _ _), sep_left_comm (sl _ _ _ _ _), sep_left_comm (sl _ _ _ _ _), sep_left_comm (sl _ _ _ _ _), sep_assoc]
 refine S.swap (.sep_intro (.pur_intro hp ?_))
 refine key.conv ?_
 simp only [all, sep_assoc]
 rw [sep_left_comm (sl _ _ _ _ _), sep_left_comm (sl _ _ _ _ _), sep_left_comm (sl _ _ _ _ _), sep_left_comm (sl _ _ _ _ _), sep_left_comm (sl _ _ _ _ _)]
theorem S.tabX_parts {k : Int} (h : S w0 w (tabX T b o bh bl bb E k t :: L)) : E.map (fun p => (p.1, p.2.2)) = t.line ∧
  S w0 w (cells b o [.map (some bh), .map (some bl), .map (some bb)] :: mp encI (fun _ => True) bh (ienc t.hold) :: mp encI (fun _ => True) bb (ienc t.wait) :: mp encI (fun _ => True) bl (E.map fun p => (p.1, p.2.1)) :: all ((mdel E k).map (lrow T)) :: L) := by
 obtain ⟨hp, h⟩ := h.sep_elim.pur_elim
 refine ⟨hp, h.conv ?_⟩
 simp only [all, sep_assoc]
theorem S.tabX_see {k : Int} (h : S w0 w (tabX T b o bh bl bb E k t :: L)) : w.cell? ⟨b, o, none⟩ = some (.map (some bh)) ∧ w.cell? ⟨b, o + 1, none⟩ = some (.map (some bl)) ∧ w.cell? ⟨b, o + 2, none⟩ = some (.map (some bb)) ∧
  Go.Sep.MapAt encI (fun _ => True) w bh (ienc t.hold) ∧ Go.Sep.MapAt encI (fun _ => True) w bb (ienc t.wait) ∧ Go.Sep.MapAt encI (fun _ => True) w bl (E.map fun p => (p.1, p.2.1)) := by
 obtain ⟨_, h⟩ := h.tabX_parts
 exact ⟨h.cells_cell 0 rfl, h.cells_cell 1 rfl, h.cells_cell 2 rfl, h.swap.mapAt, h.rot3.mapAt, h.rot4.mapAt⟩
theorem S.tabX_put (K : KeyOk P kt encI (fun _ => True)) (ht : P.underlying mt = some (.map kt e)) {k : Int} {v : Value} {l : List Int} (h : S w0 w (sl T 1 v l.length (icells l) :: tabX T b o bh bl bb E k t :: L)) :
  ∃ w', (Instr.mapUpdate mt (.map (some bl)) (encI k) v).run P w = .ok () w' ∧ S w0 w' (tabM T b o bh bl bb (mput E k (v, l)) { t with line := mput t.line k l } :: L) := by
 obtain ⟨hp, h⟩ := h.swap.tabX_parts
 have hn : (E.map (·.1)).Nodup := by simpa [List.map_map, Function.comp_def] using h.rot4.nodup
 obtain ⟨w', hr, h'⟩ := h.rot4.put K ht k trivial v
 have hm : mput (E.map fun p => (p.1, p.2.1)) k v = (mput E k (v, l)).map fun p => (p.1, p.2.1) := mput_map (fun x : Value × List Int => x.1) E k (v, l)
 have hm2 : (mput E k (v, l)).map (fun p => (p.1, p.2.2)) = mput t.line k l := by rw [← hp]; exact (mput_map (fun x : Value × List Int => x.2) E k (v, l)).symm
 rw [hm] at h'
 refine ⟨w', hr, S.tab_join (t := { t with line := mput t.line k l }) hm2 ?_⟩
 refine h'.conv ?_
 have hq := (perm_put hn k (v, l)).map (lrow T)
 simp only [all]
 rw [all_perm hq]
 simp only [List.map_cons, all, lrow]
 rw [sep_left_comm (mp _ _ bl _) (cells _ _ _), sep_left_comm (mp _ _ bl _) (mp _ _ bh _), sep_left_comm (mp _ _ bl _) (mp _ _ bb _), sep_assoc]
 rw [sep_left_comm (all ((mdel E k).map _))]
end ops
end Go.Sep
/- Tables of locks as queues: of each key who holds it, and behind that one who waits, in line. No program in sight. -/
namespace Go.Sep
open Go Go.RowKit
structure TabR (t : Tbl) (Q : Int → List Int) : Prop where
 hold : ∀ k, mget t.hold k = (Q k).head?
 line : ∀ k, (mget t.line k).getD [] = (Q k).tail
 wait : ∀ x k, mget t.wait x = some k ↔ x ∈ (Q k).tail
 nod : ∀ k, (Q k).Nodup
theorem TabR.start : TabR ⟨[], [], []⟩ (fun _ => []) := ⟨fun _ => rfl, fun _ => rfl, fun x k => by simp [mget_nil], fun _ => List.nodup_nil⟩
variable {t : Tbl} {Q : Int → List Int}
theorem TabR.one (h : TabR t Q) {x k k' : Int} (h1 : x ∈ (Q k).tail) (h2 : x ∈ (Q k').tail) : k = k' := by
 have e1 := (h.wait x k).2 h1
 have e2 := (h.wait x k').2 h2
 rw [e1] at e2; exact Option.some.inj e2
theorem TabR.none_wait (h : TabR t Q) {x : Int} : mget t.wait x = none ↔ ∀ k, x ∉ (Q k).tail := by
 constructor
 ·intro e k hk; rw [(h.wait x k).2 hk] at e; cases e
 ·intro hn
  cases hw : mget t.wait x with
  | none => rfl
  | some k => exact absurd ((h.wait x k).1 hw) (hn k)
def lineAt (t : Tbl) (k : Int) : List Int := (mget t.line k).getD []
def strike (l : List Int) (tx : Int) : List Int := l.filter fun x => !(x == tx)
theorem strike_mem {l : List Int} {x tx : Int} : x ∈ strike l tx ↔ x ∈ l ∧ x ≠ tx := by simp [strike]
theorem strike_none {l : List Int} {tx : Int} (h : ∀ x ∈ l, x ≠ tx) : strike l tx = l := by
 unfold strike; rw [List.filter_eq_self]; intro x hx; simp [h x hx]
theorem strike_snoc (l : List Int) (p tx : Int) : strike (l ++ [p]) tx = if p = tx then strike l tx else strike l tx ++ [p] := by
 unfold strike; rw [List.filter_append]; by_cases h : p = tx <;> simp [h]
theorem strike_cons (l : List Int) (p tx : Int) : strike (p :: l) tx = if p = tx then strike l tx else p :: strike l tx := by
 unfold strike; rw [List.filter_cons]; by_cases h : p = tx <;> simp [h]
theorem strike_le (l : List Int) (tx : Int) : (strike l tx).length ≤ l.length := List.length_filter_le _ _
def strikeT (t : Tbl) (tx : Int) : Tbl := match mget t.wait tx with
 | none => t
 | some k => { t with wait := mdel t.wait tx, line := mput t.line k (strike (lineAt t k) tx) }
def strikeQ (Q : Int → List Int) (tx k : Int) : List Int := match Q k with | [] => [] | h :: l => h :: strike l tx
theorem strikeQ_tail (Q : Int → List Int) (tx k : Int) : (strikeQ Q tx k).tail = strike (Q k).tail tx := by unfold strikeQ; cases Q k <;> rfl
theorem strikeQ_head (Q : Int → List Int) (tx k : Int) : (strikeQ Q tx k).head? = (Q k).head? := by unfold strikeQ; cases Q k <;> rfl
theorem TabR.struck (h : TabR t Q) (tx : Int) : TabR (strikeT t tx) (strikeQ Q tx) := by
 have hnod : ∀ k, (strikeQ Q tx k).Nodup := by
  intro k
  have := h.nod k
  unfold strikeQ
  cases hq : Q k with
  | nil => simp
  | cons a l =>
   rw [hq, List.nodup_cons] at this
   rw [List.nodup_cons]
   exact ⟨fun hm => this.1 (strike_mem.1 hm).1, this.2.sublist List.filter_sublist⟩
 unfold strikeT
 cases hw : mget t.wait tx with
 | none =>
  have hn := h.none_wait.1 hw
  have hs : ∀ k, strikeQ Q tx k = Q k := by
   intro k
   unfold strikeQ
   have := hn k
   cases hq : Q k with
   | nil => rfl
   | cons a l =>
    rw [hq] at this
    simp only [List.tail_cons] at this
    simp only
    rw [strike_none]
    intro x hx e; subst e; exact this hx
  exact ⟨fun k => by rw [hs]; exact h.hold k, fun k => by rw [hs]; exact h.line k, fun x k => by rw [hs]; exact h.wait x k, fun k => by rw [hs]; exact h.nod k⟩
 | some k0 =>
  have hk0 := (h.wait tx k0).1 hw
  refine ⟨fun k => by rw [strikeQ_head]; exact h.hold k, fun k => ?_, fun x k => ?_, hnod⟩
  ·rw [strikeQ_tail]
   show (mget (mput t.line k0 _) k).getD [] = _
   rw [mget_put]
   by_cases e : k = k0
   ·subst e; rw [if_pos rfl, ← h.line k]; rfl
   ·rw [if_neg e, h.line k]
    rw [strike_none]
    intro x hx ex; subst ex; exact e (h.one hx hk0)
  ·rw [strikeQ_tail, strike_mem]
   show mget (mdel t.wait tx) x = some k ↔ _
   rw [mget_del]
   by_cases e : x = tx
   ·simp [e]
   ·rw [if_neg e, h.wait x k]; simp [e]
def dropStep (s : Tbl × List (Int × Int)) (k : Int) : Tbl × List (Int × Int) := match lineAt s.1 k with
 | [] => ({ s.1 with hold := mdel s.1.hold k }, s.2)
 | x :: l => ({ hold := mput s.1.hold k x, line := mput s.1.line k l, wait := mdel s.1.wait x }, s.2 ++ [(k, x)])
def holders (t : Tbl) (tx : Int) : List Int := (t.hold.filter fun p => decide (p.2 = tx)).map (·.1)
def sortI (l : List Int) : List Int := l.mergeSort (fun a b => decide (a ≤ b))
def tbDrop (t : Tbl) (tx : Int) : Tbl × List (Int × Int) := (sortI (holders (strikeT t tx) tx)).foldl dropStep (strikeT t tx, [])
theorem sortI_perm (l : List Int) : (sortI l).Perm l := List.mergeSort_perm _ _
theorem sortI_sorted (l : List Int) : (sortI l).Pairwise (· ≤ ·) := by
 have := List.pairwise_mergeSort (le := fun a b : Int => decide (a ≤ b)) (fun a b c h1 h2 => by simp at *; omega) (fun a b => by simp; omega) l
 exact this.imp (fun h => by simpa using h)
theorem sorted_unique : ∀ {l m : List Int}, l.Perm m → l.Pairwise (· ≤ ·) → m.Pairwise (· ≤ ·) → l = m
 | [], m, hp, _, _ => (hp.nil_eq)
 | a :: l, [], hp, _, _ => by simp at hp
 | a :: l, b :: m, hp, h1, h2 => by
  have hab : a = b := by
   rw [List.pairwise_cons] at h1 h2
   have ha : a ∈ b :: m := hp.subset (by simp)
   have hb : b ∈ a :: l := hp.symm.subset (by simp)
   rcases List.mem_cons.1 ha with e | ha
   ·exact e
   rcases List.mem_cons.1 hb with e | hb
   ·exact e.symm
   have := h1.1 b hb
   have := h2.1 a ha
   omega
  subst hab
  rw [sorted_unique (hp.cons_inv) (List.pairwise_cons.1 h1).2 (List.pairwise_cons.1 h2).2]
theorem sortI_of {l m : List Int} (hp : l.Perm m) (hs : l.Pairwise (· ≤ ·)) : l = sortI m := sorted_unique (hp.trans (sortI_perm m).symm) hs (sortI_sorted m)
theorem sortI_mem {l : List Int} {x : Int} : x ∈ sortI l ↔ x ∈ l := (sortI_perm l).mem_iff
theorem sortI_len (l : List Int) : (sortI l).length = l.length := (sortI_perm l).length_eq
def firstL (k : Int) : List Int → List (Int × Int)
 | [] => []
 | x :: _ => [(k, x)]
def updQ (Q : Int → List Int) (k : Int) (l : List Int) : Int → List Int := fun j => if j = k then l else Q j
theorem TabR.step (h : TabR t Q) {k tx : Int} {l : List Int} (hq : Q k = tx :: l) (out : List (Int × Int)) :
  TabR (dropStep (t, out) k).1 (updQ Q k l) ∧ (dropStep (t, out) k).2 = out ++ firstL k l := by
 have hl : lineAt t k = l := by unfold lineAt; rw [h.line k, hq]; rfl
 have hnd := h.nod k
 rw [hq, List.nodup_cons] at hnd
 unfold dropStep
 simp only [hl]
 cases l with
 | nil =>
  refine ⟨⟨fun j => ?_, fun j => ?_, fun x j => ?_, fun j => ?_⟩, by simp [firstL]⟩
  ·show mget (mdel t.hold k) j = _
   rw [mget_del]; unfold updQ
   by_cases e : j = k
   ·simp [e]
   ·rw [if_neg e, if_neg e]; exact h.hold j
  ·show (mget t.line j).getD [] = _
   unfold updQ
   by_cases e : j = k
   ·subst e; rw [if_pos rfl]; exact hl
   ·rw [if_neg e]; exact h.line j
  ·show mget t.wait x = some j ↔ _
   unfold updQ
   by_cases e : j = k
   ·subst e; rw [if_pos rfl, h.wait x j, hq]; simp
   ·rw [if_neg e]; exact h.wait x j
  ·unfold updQ
   by_cases e : j = k
   ·simp [e]
   ·rw [if_neg e]; exact h.nod j
 | cons x l =>
  rw [List.nodup_cons] at hnd
  have hx : x ∈ (Q k).tail := by rw [hq]; simp
  refine ⟨⟨fun j => ?_, fun j => ?_, fun y j => ?_, fun j => ?_⟩, rfl⟩
  ·show mget (mput t.hold k x) j = _
   rw [mget_put]; unfold updQ
   by_cases e : j = k
   ·simp [e]
   ·rw [if_neg e, if_neg e]; exact h.hold j
  ·show (mget (mput t.line k l) j).getD [] = _
   rw [mget_put]; unfold updQ
   by_cases e : j = k
   ·simp [e]
   ·rw [if_neg e, if_neg e]; exact h.line j
  ·show mget (mdel t.wait x) y = some j ↔ _
   rw [mget_del]; unfold updQ
   by_cases ey : y = x
   ·subst ey
    rw [if_pos rfl]
    by_cases e : j = k
    ·subst e; rw [if_pos rfl]; simp [hnd.2.1]
    ·rw [if_neg e]
     simp only [reduceCtorEq, false_iff]
     intro hy; exact e (h.one hy hx)
   ·rw [if_neg ey]
    by_cases e : j = k
    ·subst e; rw [if_pos rfl, h.wait y j, hq]; simp [ey]
    ·rw [if_neg e]; exact h.wait y j
  ·unfold updQ
   by_cases e : j = k
   ·subst e; rw [if_pos rfl, List.nodup_cons]; exact hnd.2
   ·rw [if_neg e]; exact h.nod j
def nexts (Q : Int → List Int) (ks : List Int) : List (Int × Int) := ks.flatMap fun k => firstL k (Q k).tail
theorem TabR.steps {tx : Int} : ∀ (ks : List Int) {t : Tbl} {Q : Int → List Int} (out : List (Int × Int)), TabR t Q → ks.Nodup → (∀ k ∈ ks, (Q k).head? = some tx) →
  TabR (ks.foldl dropStep (t, out)).1 (fun j => if j ∈ ks then (Q j).tail else Q j) ∧ (ks.foldl dropStep (t, out)).2 = out ++ nexts Q ks
 | [], t, Q, out, h, _, _ => by simpa [nexts] using h
 | k :: ks, t, Q, out, h, hn, hk => by
  obtain ⟨l, hq⟩ : ∃ l, Q k = tx :: l := by
   have := hk k (by simp)
   cases hQ : Q k with
   | nil => rw [hQ] at this; simp at this
   | cons a l => rw [hQ] at this; simp at this; exact ⟨l, by rw [this]⟩
  obtain ⟨h1, h2⟩ := h.step hq out
  rw [List.nodup_cons] at hn
  have hne : ∀ j ∈ ks, j ≠ k := fun j hj e => hn.1 (by rw [← e]; exact hj)
  obtain ⟨h3, h4⟩ := TabR.steps ks (dropStep (t, out) k).2 h1 hn.2 (fun j hj => by unfold updQ; rw [if_neg (hne j hj)]; exact hk j (by simp [hj]))
  have e1 : ((dropStep (t, out) k).1, (dropStep (t, out) k).2) = dropStep (t, out) k := rfl
  rw [e1] at h3 h4
  refine ⟨?_, ?_⟩
  ·rw [List.foldl_cons]
   have e2 : (fun j => if j ∈ ks then (updQ Q k l j).tail else updQ Q k l j) = fun j => if j ∈ k :: ks then (Q j).tail else Q j := by
    funext j
    unfold updQ
    by_cases e : j = k
    ·subst e; simp [hn.1, hq]
    ·simp [e]
   rw [← e2]; exact h3
  ·rw [List.foldl_cons, h4, h2, List.append_assoc]
   congr 1
   unfold nexts
   rw [List.flatMap_cons, hq]
   congr 1
   unfold List.flatMap
   congr 1
   apply List.map_congr_left
   intro j hj
   unfold updQ
   rw [if_neg (hne j hj)]
theorem holders_mem {tx k : Int} (hn : (t.hold.map (·.1)).Nodup) : k ∈ holders t tx ↔ mget t.hold k = some tx := by
 unfold holders
 simp only [List.mem_map, List.mem_filter, decide_eq_true_eq]
 constructor
 ·rintro ⟨⟨a, b⟩, ⟨h1, h2⟩, rfl⟩
  simp only at h2
  subst h2
  exact mget_mem hn h1
 ·intro h; exact ⟨(k, tx), ⟨mget_some h, rfl⟩, rfl⟩
theorem holders_nodup {tx : Int} (hn : (t.hold.map (·.1)).Nodup) : (holders t tx).Nodup := hn.sublist (List.Sublist.map _ List.filter_sublist)
theorem strikeT_hold (t : Tbl) (tx : Int) : (strikeT t tx).hold = t.hold := by unfold strikeT; cases mget t.wait tx <;> rfl
theorem strikeQ_at (Q : Int → List Int) (tx k : Int) : (if (Q k).head? = some tx then (strikeQ Q tx k).tail else strikeQ Q tx k) = strike (Q k) tx := by
 unfold strikeQ
 cases hq : Q k with
 | nil => simp [strike]
 | cons a l =>
  rw [strike_cons]
  by_cases e : a = tx
  ·subst e; simp
  ·simp [e]
theorem TabR.dropped (h : TabR t Q) (hn : (t.hold.map (·.1)).Nodup) (tx : Int) : TabR (tbDrop t tx).1 (fun k => strike (Q k) tx) ∧
  (tbDrop t tx).2 = nexts (strikeQ Q tx) (sortI (holders t tx)) := by
 have h1 := h.struck tx
 have hn1 : ((strikeT t tx).hold.map (·.1)).Nodup := by rw [strikeT_hold]; exact hn
 have hmem : ∀ k, k ∈ sortI (holders (strikeT t tx) tx) ↔ (Q k).head? = some tx := by
  intro k; rw [sortI_mem, holders_mem hn1, strikeT_hold, h.hold k]
 have hnd : (sortI (holders (strikeT t tx) tx)).Nodup := (sortI_perm _).nodup_iff.2 (holders_nodup hn1)
 obtain ⟨h2, h3⟩ := TabR.steps (tx := tx) (sortI (holders (strikeT t tx) tx)) [] h1 hnd (fun k hk => by rw [strikeQ_head]; exact (hmem k).1 hk)
 have e : (fun j => if j ∈ sortI (holders (strikeT t tx) tx) then (strikeQ Q tx j).tail else strikeQ Q tx j) = fun k => strike (Q k) tx := by
  funext j
  rw [← strikeQ_at Q tx j]
  by_cases hj : (Q j).head? = some tx
  ·rw [if_pos ((hmem j).2 hj), if_pos hj]
  ·rw [if_neg (fun x => hj ((hmem j).1 x)), if_neg hj]
 rw [e] at h2
 refine ⟨h2, ?_⟩
 have : holders (strikeT t tx) tx = holders t tx := by unfold holders; rw [strikeT_hold]
 rw [this] at h3
 show (List.foldl dropStep (strikeT t tx, []) (sortI (holders (strikeT t tx) tx))).2 = _
 rw [this, h3]; rfl
end Go.Sep
/- Nobody waits for ever: the plain law of tables of locks. No program in sight. -/
namespace Go.Sep
open Go Go.RowKit
def chase (t : Tbl) (tx : Int) : Nat → Int → Option Bool
 | 0, _ => none
 | n + 1, x => if x = tx then some true else match mget t.wait x with
  | none => some false
  | some k => chase t tx n ((mget t.hold k).getD 0)
def Ranked (t : Tbl) (r : Int → Nat) : Prop := ∀ x k, mget t.wait x = some k → r ((mget t.hold k).getD 0) < r x
theorem chase_ends {t : Tbl} {r : Int → Nat} (h : Ranked t r) (tx : Int) : ∀ (n : Nat) (x : Int), r x < n → ∃ c, chase t tx n x = some c
 | 0, _, hx => by omega
 | n + 1, x, hx => by
  unfold chase
  split
  ·exact ⟨_, rfl⟩
  ·cases hw : mget t.wait x with
   | none => exact ⟨_, rfl⟩
   | some k => exact chase_ends h tx n _ (by have := h x k hw; omega)
theorem chase_up {t : Tbl} {tx : Int} {c : Bool} : ∀ (n m : Nat) (x : Int), n ≤ m → chase t tx n x = some c → chase t tx m x = some c
 | 0, _, _, _, h => by simp [chase] at h
 | n + 1, 0, _, hm, _ => by omega
 | n + 1, m + 1, x, hm, h => by
  unfold chase at h ⊢
  split
  ·rename_i e; rw [if_pos e] at h; exact h
  ·rename_i e
   rw [if_neg e] at h
   cases hw : mget t.wait x with
   | none => rw [hw] at h; exact h
   | some k => rw [hw] at h; exact chase_up n m _ (by omega) h
theorem chase_one {t : Tbl} {tx x : Int} {c d : Bool} {n m : Nat} (h1 : chase t tx n x = some c) (h2 : chase t tx m x = some d) : c = d := by
 have e1 := chase_up n (max n m) x (by omega) h1
 have e2 := chase_up m (max n m) x (by omega) h2
 rw [e1] at e2; exact Option.some.inj e2
def Reach (t : Tbl) (tx x : Int) : Prop := ∃ n, chase t tx n x = some true
theorem Reach.here (t : Tbl) (tx : Int) : Reach t tx tx := ⟨1, by simp [chase]⟩
theorem Reach.next {t : Tbl} {tx x k : Int} (hx : x ≠ tx) (hw : mget t.wait x = some k) : Reach t tx x ↔ Reach t tx ((mget t.hold k).getD 0) := by
 constructor
 ·rintro ⟨n, h⟩
  cases n with
  | zero => simp [chase] at h
  | succ n => unfold chase at h; rw [if_neg hx, hw] at h; exact ⟨n, h⟩
 ·rintro ⟨n, h⟩; exact ⟨n + 1, by unfold chase; rw [if_neg hx, hw]; exact h⟩
def tbAsk (t : Tbl) (tx key : Int) (c : Bool) : Tbl × Bool × Int :=
 if key < 0 ∨ 10 ≤ key ∨ tx < 1 then (t, false, 2) else if (mget t.wait tx).isSome then (t, false, 6) else match mget t.hold key with
 | none => ({ t with hold := mput t.hold key tx }, true, 0)
 | some h => if h = tx then (t, true, 0) else if c then (t, false, 11) else ({ t with wait := mput t.wait tx key, line := mput t.line key (lineAt t key ++ [tx]) }, false, 0)
def Rk (Q : Int → List Int) (r : Int → Nat) : Prop := ∀ k, ∀ x ∈ (Q k).tail, r ((Q k).headD 0) < r x
theorem Rk.ranked {t : Tbl} {Q : Int → List Int} {r : Int → Nat} (h : TabR t Q) (hr : Rk Q r) : Ranked t r := by
 intro x k hw
 have := hr k x ((h.wait x k).1 hw)
 rw [h.hold k]
 cases hq : Q k with
 | nil => rw [hq] at this; simpa using this
 | cons a l => rw [hq] at this; simpa using this
def askQ (Q : Int → List Int) (tx key : Int) : Int → List Int := updQ Q key (Q key ++ [tx])
theorem TabR.ask_free {t : Tbl} {Q : Int → List Int} (h : TabR t Q) {tx key : Int} (hh : mget t.hold key = none) : TabR { t with hold := mput t.hold key tx } (askQ Q tx key) := by
 have hq : Q key = [] := by have := h.hold key; rw [hh] at this; cases hq : Q key with | nil => rfl | cons a l => rw [hq] at this; simp at this
 unfold askQ
 rw [hq]
 refine ⟨fun j => ?_, fun j => ?_, fun x j => ?_, fun j => ?_⟩
 ·show mget (mput t.hold key tx) j = _
  rw [mget_put]; unfold updQ
  by_cases e : j = key
  ·simp [e]
  ·rw [if_neg e, if_neg e]; exact h.hold j
 ·show (mget t.line j).getD [] = _
  unfold updQ
  by_cases e : j = key
  ·subst e; rw [if_pos rfl, h.line j, hq]; rfl
  ·rw [if_neg e]; exact h.line j
 ·show mget t.wait x = some j ↔ _
  unfold updQ
  by_cases e : j = key
  ·subst e; rw [if_pos rfl, h.wait x j, hq]; simp
  ·rw [if_neg e]; exact h.wait x j
 ·unfold updQ
  by_cases e : j = key
  ·simp [e]
  ·rw [if_neg e]; exact h.nod j
theorem TabR.ask_line {t : Tbl} {Q : Int → List Int} (h : TabR t Q) {tx key a : Int} (hw : mget t.wait tx = none) (hh : mget t.hold key = some a) (ha : a ≠ tx) : TabR { t with wait := mput t.wait tx key, line := mput t.line key (lineAt t key ++ [tx]) } (askQ Q tx key) := by
 obtain ⟨l, hq⟩ : ∃ l, Q key = a :: l := by have := h.hold key; rw [hh] at this; cases hq : Q key with | nil => rw [hq] at this; simp at this | cons b l => rw [hq] at this; simp at this; exact ⟨l, by rw [this]⟩
 have hn := h.none_wait.1 hw
 have hl : lineAt t key = l := by unfold lineAt; rw [h.line key, hq]; rfl
 unfold askQ
 refine ⟨fun j => ?_, fun j => ?_, fun x j => ?_, fun j => ?_⟩
 ·show mget t.hold j = _
  unfold updQ
  by_cases e : j = key
  ·subst e; rw [if_pos rfl, hh, hq]; rfl
  ·rw [if_neg e]; exact h.hold j
 ·show (mget (mput t.line key _) j).getD [] = _
  rw [mget_put]
  unfold updQ
  by_cases e : j = key
  ·subst e; rw [if_pos rfl, if_pos rfl, hl, hq]; rfl
  ·rw [if_neg e, if_neg e]; exact h.line j
 ·show mget (mput t.wait tx key) x = some j ↔ _
  rw [mget_put]
  unfold updQ
  by_cases ex : x = tx
  ·subst ex
   rw [if_pos rfl]
   by_cases e : j = key
   ·subst e; rw [if_pos rfl, hq]; simp
   ·rw [if_neg e]
    constructor
    ·intro h1; exact absurd (Option.some.inj h1).symm e
    ·intro h1; exact absurd h1 (hn j)
  ·rw [if_neg ex]
   by_cases e : j = key
   ·subst e; rw [if_pos rfl, h.wait x j, hq]; simp [ex]
   ·rw [if_neg e]; exact h.wait x j
 ·unfold updQ
  by_cases e : j = key
  ·subst e
   rw [if_pos rfl, List.nodup_append]
   refine ⟨h.nod j, by simp, ?_⟩
   intro x hx y hy
   simp at hy; subst hy
   intro e; subst e
   rw [hq] at hx
   rcases List.mem_cons.1 hx with e | hx
   ·exact ha e.symm
   ·exact hn j (by rw [hq]; exact hx)
  ·rw [if_neg e]; exact h.nod j
theorem Rk.ask {t : Tbl} {Q : Int → List Int} {r : Int → Nat} (h : TabR t Q) (hr : Rk Q r) {tx key a : Int} {n : Nat} (hw : mget t.wait tx = none) (hh : mget t.hold key = some a) (hc : chase t tx n a = some false) : ∃ r', Rk (askQ Q tx key) r' := by
 classical
 obtain ⟨l, hq⟩ : ∃ l, Q key = a :: l := by have := h.hold key; rw [hh] at this; cases hq : Q key with | nil => rw [hq] at this; simp at this | cons b l => rw [hq] at this; simp at this; exact ⟨l, by rw [this]⟩
 refine ⟨fun x => r x + if Reach t tx x then r a + 1 else 0, fun k x hx => ?_⟩
 have hna : ¬ Reach t tx a := by rintro ⟨m, hm⟩; have := chase_one hc hm; cases this
 have old : ∀ k x, x ∈ (Q k).tail → (r ((Q k).headD 0) + if Reach t tx ((Q k).headD 0) then r a + 1 else 0) < r x + if Reach t tx x then r a + 1 else 0 := by
  intro k x hx
  have h1 := hr k x hx
  have hwx := (h.wait x k).2 hx
  have hne : x ≠ tx := by intro e; subst e; rw [hw] at hwx; cases hwx
  have h2 := Reach.next hne hwx
  have e : (mget t.hold k).getD 0 = (Q k).headD 0 := by rw [h.hold k]; cases Q k <;> rfl
  rw [e] at h2
  by_cases hR : Reach t tx x
  ·rw [if_pos hR, if_pos (h2.1 hR)]; omega
  ·rw [if_neg hR, if_neg (fun x => hR (h2.2 x))]; omega
 unfold askQ updQ at hx ⊢
 by_cases e : k = key
 ·subst e
  simp only [if_pos, hq, List.cons_append, List.tail_cons, List.headD_cons, List.mem_append, List.mem_singleton] at hx ⊢
  rcases hx with hx | rfl
  ·have := old k x (by rw [hq]; exact hx)
   simpa [hq] using this
  ·rw [if_neg hna, if_pos (Reach.here t x)]; omega
 ·simp only [if_neg e] at hx ⊢; exact old k x hx
theorem Rk.free {Q : Int → List Int} {r : Int → Nat} (hr : Rk Q r) {tx key : Int} (hq : Q key = []) : Rk (askQ Q tx key) r := by
 intro k x hx
 unfold askQ updQ at hx ⊢
 by_cases e : k = key
 ·subst e; simp [hq] at hx
 ·simp only [if_neg e] at hx ⊢; exact hr k x hx
theorem strike_tail_sub {l : List Int} {tx x : Int} (h : x ∈ (strike l tx).tail) : x ∈ l.tail := by
 cases l with
 | nil => simp [strike] at h
 | cons a l =>
  rw [strike_cons] at h
  split at h
  ·exact (strike_mem.1 (List.mem_of_mem_tail h)).1
  ·exact (strike_mem.1 h).1
theorem Rk.drop {t : Tbl} {Q : Int → List Int} {r : Int → Nat} (h : TabR t Q) (hr : Rk Q r) (tx : Int) : ∃ r', Rk (fun k => strike (Q k) tx) r' := by
 classical
 refine ⟨fun x => if ∃ k, x ∈ (strike (Q k) tx).tail then r x + 1 else 0, fun k x hx => ?_⟩
 simp only at hx ⊢
 rw [if_pos (⟨k, hx⟩ : ∃ k, x ∈ (strike (Q k) tx).tail)]
 split
 ·rename_i hw
  obtain ⟨k', hk'⟩ := hw
  have hx0 := strike_tail_sub hx
  cases hq : Q k with
  | nil => rw [hq] at hx; simp [strike] at hx
  | cons a l =>
   rw [hq] at hx0
   simp only [List.tail_cons] at hx0
   by_cases ea : a = tx
   ·exfalso
    subst ea
    rw [hq, strike_cons, if_pos rfl] at hx hk'
    cases hs : strike l a with
    | nil => rw [hs] at hx; simp at hx
    | cons b m =>
     rw [hs] at hk'
     simp only [List.headD_cons] at hk'
     have hb : b ∈ l := (strike_mem.1 (by rw [hs]; simp : b ∈ strike l a)).1
     have hkk := h.one (x := b) (k := k) (k' := k') (by rw [hq]; exact hb) (strike_tail_sub hk')
     subst hkk
     rw [hq, strike_cons, if_pos rfl, hs] at hk'
     have hnd := h.nod k
     rw [hq, List.nodup_cons] at hnd
     have : (strike l a).Nodup := hnd.2.sublist List.filter_sublist
     rw [hs, List.nodup_cons] at this
     exact this.1 hk'
   ·have h1 := hr k x (by rw [hq]; exact hx0)
    rw [hq] at h1
    rw [strike_cons, if_neg ea]
    simp only [List.headD_cons] at h1 ⊢
    omega
 ·omega
def Rng (Q : Int → List Int) : Prop := ∀ k, ∀ x ∈ Q k, 1 ≤ x ∧ x ≤ 8 ∧ 0 ≤ k ∧ k < 5
theorem Rng.ask {Q : Int → List Int} (h : Rng Q) {tx key : Int} (h1 : 1 ≤ tx) (h2 : tx ≤ 8) (h3 : 0 ≤ key) (h4 : key < 5) : Rng (askQ Q tx key) := by
 intro k x hx
 unfold askQ updQ at hx
 by_cases e : k = key
 ·subst e
  simp at hx
  rcases hx with hx | rfl
  ·exact h k x hx
  ·exact ⟨h1, h2, h3, h4⟩
 ·simp only [if_neg e] at hx; exact h k x hx
theorem Rng.drop {Q : Int → List Int} (h : Rng Q) (tx : Int) : Rng (fun k => strike (Q k) tx) := fun k x hx => h k x (strike_mem.1 hx).1
theorem few : ∀ {l S : List Int}, l.Nodup → (∀ x ∈ l, x ∈ S) → l.length ≤ S.length
 | [], _, _, _ => Nat.zero_le _
 | a :: l, S, hn, hs => by
  rw [List.nodup_cons] at hn
  have ha := hs a (by simp)
  have := few (l := l) (S := S.erase a) hn.2 (fun x hx => by
   have h1 := hs x (by simp [hx])
   exact (List.mem_erase_of_ne (by intro e; subst e; exact hn.1 hx)).2 h1)
  have h2 := List.length_erase_of_mem ha
  have h3 : 0 < S.length := List.length_pos_of_mem ha
  simp only [List.length_cons]; omega
theorem few8 {l : List Int} (hn : l.Nodup) (h : ∀ x ∈ l, 1 ≤ x ∧ x ≤ 8) : l.length ≤ 8 :=
 few (S := [1, 2, 3, 4, 5, 6, 7, 8]) hn (fun x hx => by have := h x hx; simp; omega)
structure GoodT (t : Tbl) (Q : Int → List Int) (r : Int → Nat) : Prop where
 tab : TabR t Q
 rk : Rk Q r
 rng : Rng Q
theorem GoodT.start : ∃ r, GoodT ⟨[], [], []⟩ (fun _ => []) r := ⟨fun _ => 0, TabR.start, by intro k x hx; simp at hx, by intro k x hx; simp at hx⟩
variable {t : Tbl} {Q : Int → List Int} {r : Int → Nat}
theorem GoodT.waits (h : GoodT t Q r) {y k : Int} (hw : mget t.wait y = some k) : ∃ a, mget t.hold k = some a ∧ a ≠ 0 ∧ a ≠ y ∧ r a < r y ∧ 1 ≤ a ∧ a ≤ 8 ∧ 0 ≤ k := by
 have hy := (h.tab.wait y k).1 hw
 have h1 := h.rk k y hy
 have h2 := h.tab.hold k
 cases hq : Q k with
 | nil => rw [hq] at hy; simp at hy
 | cons a l =>
  rw [hq] at h1 h2
  simp only [List.headD_cons, List.head?_cons] at h1 h2
  obtain ⟨h3, h4, h5, _⟩ := h.rng k a (by rw [hq]; simp)
  exact ⟨a, h2, by omega, by intro e; subst e; omega, h1, h3, h4, h5⟩
theorem GoodT.ask (h : GoodT t Q r) {tx key : Int} {c : Bool} (h1 : 1 ≤ tx) (h2 : tx ≤ 8) (h3 : 0 ≤ key) (h4 : key < 5) (hc : ∀ a, mget t.hold key = some a → ∃ n, chase t tx n a = some c) :
  (∃ Q' r', GoodT (tbAsk t tx key c).1 Q' r') ∧ ((tbAsk t tx key c).2.1 = true → (tbAsk t tx key c).2.2 = 0 ∧ mget (tbAsk t tx key c).1.hold key = some tx) := by
 have e0 : ¬ (key < 0 ∨ 10 ≤ key ∨ tx < 1) := by omega
 unfold tbAsk
 rw [if_neg e0]
 cases hw : mget t.wait tx with
 | some k => exact ⟨⟨Q, r, h⟩, by simp⟩
 | none =>
  simp only [Option.isSome_none, Bool.false_eq_true, ↓reduceIte]
  cases hh : mget t.hold key with
  | none =>
   have hq : Q key = [] := by have := h.tab.hold key; rw [hh] at this; cases hq : Q key with | nil => rfl | cons a l => rw [hq] at this; simp at this
   exact ⟨⟨_, r, h.tab.ask_free hh, h.rk.free hq, h.rng.ask h1 h2 h3 h4⟩, fun _ => ⟨rfl, by simp [mget_put]⟩⟩
  | some a =>
   obtain ⟨n, hn⟩ := hc a hh
   simp only
   by_cases ea : a = tx
   ·rw [if_pos ea]; subst ea; exact ⟨⟨Q, r, h⟩, fun _ => ⟨rfl, hh⟩⟩
   ·rw [if_neg ea]
    cases c with
    | true => exact ⟨⟨Q, r, h⟩, by simp⟩
    | false =>
     obtain ⟨r', hr'⟩ := Rk.ask h.tab h.rk hw hh hn
     exact ⟨⟨_, r', h.tab.ask_line hw hh ea, hr', h.rng.ask h1 h2 h3 h4⟩, by simp⟩
theorem GoodT.drop (h : GoodT t Q r) (hn : (t.hold.map (·.1)).Nodup) (tx : Int) : (∃ r', GoodT (tbDrop t tx).1 (fun k => strike (Q k) tx) r') ∧ ∀ p ∈ (tbDrop t tx).2, mget (tbDrop t tx).1.hold p.1 = some p.2 ∧ mget (tbDrop t tx).1.wait p.2 = none := by
 obtain ⟨h1, h2⟩ := h.tab.dropped hn tx
 obtain ⟨r', hr'⟩ := Rk.drop h.tab h.rk tx
 refine ⟨⟨r', h1, hr', h.rng.drop tx⟩, fun p hp => ?_⟩
 rw [h2] at hp
 unfold nexts at hp
 rw [List.mem_flatMap] at hp
 obtain ⟨k, hk, hpk⟩ := hp
 rw [sortI_mem, holders_mem hn] at hk
 rw [strikeQ_tail] at hpk
 cases hq : Q k with
 | nil => rw [hq] at hpk; simp [strike, firstL] at hpk
 | cons a l =>
  have := h.tab.hold k
  rw [hk, hq] at this
  simp only [List.head?_cons, Option.some.injEq] at this
  subst this
  rw [hq] at hpk
  simp only [List.tail_cons] at hpk
  cases hs : strike l tx with
  | nil => rw [hs] at hpk; simp [firstL] at hpk
  | cons b m =>
   rw [hs] at hpk
   simp only [firstL, List.mem_singleton] at hpk
   subst hpk
   have hsk : strike (Q k) tx = b :: m := by rw [hq, strike_cons, if_pos rfl, hs]
   refine ⟨by rw [h1.hold]; simp [hsk], ?_⟩
   rw [h1.none_wait]
   intro k' hk'
   have hb : b ∈ (Q k).tail := by rw [hq]; exact (strike_mem.1 (by rw [hs]; simp : b ∈ strike l tx)).1
   have := h.tab.one hb (strike_tail_sub hk')
   subst this
   rw [hsk] at hk'
   have hnd := h1.nod k
   simp only [hsk, List.nodup_cons] at hnd
   exact hnd.1 hk'
def Chain (r : Int → Nat) (n : Nat) (y : Int) : Prop := ∃ vs : List Int, vs.length = n ∧ vs.Nodup ∧ (∀ v ∈ vs, 1 ≤ v ∧ v ≤ 8 ∧ r y < r v) ∧ 1 ≤ y ∧ y ≤ 8
theorem Chain.start {r : Int → Nat} {y : Int} (h1 : 1 ≤ y) (h2 : y ≤ 8) : Chain r 0 y := ⟨[], rfl, List.nodup_nil, by simp, h1, h2⟩
theorem Chain.next {r : Int → Nat} {n : Nat} {y a : Int} (h : Chain r n y) (h1 : r a < r y) (h2 : 1 ≤ a) (h3 : a ≤ 8) : Chain r (n + 1) a := by
 obtain ⟨vs, hl, hn, hv, h4, h5⟩ := h
 refine ⟨y :: vs, by simp [hl], ?_, ?_, h2, h3⟩
 ·rw [List.nodup_cons]; exact ⟨fun hy => by have := (hv y hy).2.2; omega, hn⟩
 ·intro v hm
  rcases List.mem_cons.1 hm with rfl | hm
  ·exact ⟨h4, h5, h1⟩
  ·obtain ⟨h6, h7, h8⟩ := hv v hm; exact ⟨h6, h7, by omega⟩
theorem Chain.le {r : Int → Nat} {n : Nat} {y : Int} (h : Chain r n y) : n ≤ 8 := by
 obtain ⟨vs, hl, hn, hv, _, _⟩ := h
 rw [← hl]; exact few8 hn (fun x hx => ⟨(hv x hx).1, (hv x hx).2.1⟩)
def Left (x : Int) (Q : Int → List Int) : Prop := ∀ k, ∀ y ∈ Q k, x ≤ y
theorem Left.start {Q : Int → List Int} (h : Rng Q) : Left 1 Q := fun k y hy => (h k y hy).1
theorem Left.next {x : Int} {Q : Int → List Int} (h : Left x Q) : Left (x + 1) (fun k => Sep.strike (Q k) x) := by
 intro k y hy
 obtain ⟨h1, h2⟩ := strike_mem.1 hy
 have := h k y h1; omega
theorem Left.none {Q : Int → List Int} (h : Left 9 Q) (hr : Rng Q) (k : Int) : Q k = [] := by
 apply List.eq_nil_iff_forall_not_mem.2
 intro y hy
 have := h k y hy; have := (hr k y hy).2.1; omega
end Go.Sep
/- Lines of transactions, in plain words: who must be ahead of whom, and the line that comes of it. -/
namespace Go.Proofs.YtdlkjppppdminaaGreatDoor
open Go
structure Op1 where
 tx : Int
 key : Int
 wr : Bool
 fr : Int
def wput (w : List Int) (x : Int) : List Int := if w.getLast? = some x then w else w ++ [x]
def wstep (k : Int) (w : List Int) (o : Op1) : List Int := if o.wr = true ∧ o.key = k then wput w o.tx else w
def writers (l : List Op1) (k : Int) : List Int := l.foldl (wstep k) []
theorem writers_snoc (l : List Op1) (o : Op1) (k : Int) : writers (l ++ [o]) k = wstep k (writers l k) o := by simp [writers]
theorem wput_mem {w : List Int} {x y : Int} (h : y ∈ wput w x) : y ∈ w ∨ y = x := by
 unfold wput at h
 split at h
 ·exact .inl h
 ·simpa using h
theorem writers_mem' {k y : Int} : ∀ (l : List Op1) (w : List Int), y ∈ l.foldl (wstep k) w → y ∈ w ∨ ∃ o ∈ l, o.wr = true ∧ o.key = k ∧ o.tx = y
 | [], w, h => .inl h
 | o :: l, w, h => by
  rcases writers_mem' l _ h with h | ⟨o', h, h2⟩
  ·unfold wstep at h
   split at h
   ·rename_i hc
    rcases wput_mem h with h | rfl
    ·exact .inl h
    ·exact .inr ⟨o, by simp, hc.1, hc.2, rfl⟩
   ·exact .inl h
  ·exact .inr ⟨o', by simp [h], h2⟩
theorem writers_mem {l : List Op1} {k y : Int} (h : y ∈ writers l k) : ∃ o ∈ l, o.wr = true ∧ o.key = k ∧ o.tx = y := by
 rcases writers_mem' l [] h with h | h
 ·simp at h
 ·exact h
theorem writers_le (l : List Op1) (k : Int) : (writers l k).length ≤ l.length := by
 unfold writers
 suffices ∀ (l : List Op1) (w : List Int), (l.foldl (wstep k) w).length ≤ w.length + l.length by simpa using this l []
 intro l
 induction l with
 | nil => intro w; simp
 | cons o l ih =>
  intro w
  simp only [List.foldl_cons, List.length_cons]
  refine Nat.le_trans (ih _) ?_
  unfold wstep wput
  split
  ·split <;> simp <;> omega
  ·omega
def nextOf (w : List Int) (f : Int) : Option Int := w[(Lib.idxOf w f + 1).toNat]?
def Edge (l : List Op1) (p : Int × Int) : Prop :=
 p.1 ≠ p.2 ∧ p.1 ≠ 0 ∧ ((∃ (k : Int) (i : Nat), (writers l k)[i]? = some p.1 ∧ (writers l k)[i + 1]? = some p.2) ∨
  ∃ o ∈ l, o.wr = false ∧ ((p.1 = o.fr ∧ p.2 = o.tx) ∨ (p.1 = o.tx ∧ nextOf (writers l o.key) o.fr = some p.2)))
def ltP (a b : Int × Int) : Prop := a.1 < b.1 ∨ (a.1 = b.1 ∧ a.2 < b.2)
theorem ltP.irrefl (a : Int × Int) : ¬ ltP a a := by unfold ltP; omega
theorem ltP.trans {a b c : Int × Int} (h : ltP a b) (h2 : ltP b c) : ltP a c := by unfold ltP at *; omega
theorem ltP.asymm {a b : Int × Int} (h : ltP a b) (h2 : ltP b a) : False := by unfold ltP at *; omega
theorem sorted_unique : ∀ {a b : List (Int × Int)}, a.Pairwise ltP → b.Pairwise ltP → (∀ p, p ∈ a ↔ p ∈ b) → a = b
 | [], [], _, _, _ => rfl
 | [], y :: b, _, _, h => by have := (h y).2 (by simp); simp at this
 | x :: a, [], _, _, h => by have := (h x).1 (by simp); simp at this
 | x :: a, y :: b, ha, hb, h => by
  have ha' := List.pairwise_cons.1 ha
  have hb' := List.pairwise_cons.1 hb
  have e : x = y := by
   rcases List.mem_cons.1 ((h x).1 (by simp)) with e | hx
   ·exact e
   ·rcases List.mem_cons.1 ((h y).2 (by simp)) with e | hy
    ·exact e.symm
    ·exact ((hb'.1 _ hx).asymm (ha'.1 _ hy)).elim
  subst e
  congr 1
  apply sorted_unique ha'.2 hb'.2
  intro p
  have := h p
  simp only [List.mem_cons] at this
  constructor
  ·intro hp
   rcases this.1 (.inr hp) with e | hb2
   ·subst e; exact (ltP.irrefl _ (ha'.1 _ hp)).elim
   ·exact hb2
  ·intro hp
   rcases this.2 (.inr hp) with e | ha2
   ·subst e; exact (ltP.irrefl _ (hb'.1 _ hp)).elim
   ·exact ha2
def EdgesOf (l : List Op1) (es : List (Int × Int)) : Prop := es.Pairwise ltP ∧ ∀ p, p ∈ es ↔ Edge l p
theorem EdgesOf.unique {l : List Op1} {a b : List (Int × Int)} (ha : EdgesOf l a) (hb : EdgesOf l b) : a = b :=
 sorted_unique ha.1 hb.1 fun p => (ha.2 p).trans (hb.2 p).symm
def lostRead (l : List Op1) (o : Op1) : Bool := !o.wr && decide (o.fr ≠ 0) && decide (o.fr ∉ writers l o.key)
def badOp (o : Op1) : Bool := decide (o.tx < 1 ∨ o.fr < 0 ∨ o.key < 0 ∨ 10 ≤ o.key)
theorem Edge.txs {l : List Op1} {p : Int × Int} (h : Edge l p) (hr : ∀ o ∈ l, lostRead l o = false) : (∃ o ∈ l, o.tx = p.1) ∧ ∃ o ∈ l, o.tx = p.2 := by
 obtain ⟨_, hz, h⟩ := h
 have hw : ∀ {k y : Int}, y ∈ writers l k → ∃ o ∈ l, o.tx = y := fun h => let ⟨o, ho, _, _, h⟩ := writers_mem h; ⟨o, ho, h⟩
 rcases h with ⟨k, i, h1, h2⟩ | ⟨o, ho, hro, ⟨h1, h2⟩ | ⟨h1, h2⟩⟩
 ·exact ⟨hw (List.mem_of_getElem? h1), hw (List.mem_of_getElem? h2)⟩
 ·refine ⟨?_, o, ho, h2.symm⟩
  have := hr o ho
  simp only [lostRead, hro] at this
  rw [h1] at hz ⊢
  simp [hz] at this
  exact hw this
 ·exact ⟨⟨o, ho, h1.symm⟩, hw (List.mem_of_getElem? h2)⟩
def free (es : List (Int × Int)) (rem : List Int) (x : Int) : Bool := es.all fun e => !(decide (e.2 = x) && decide (e.1 ∈ rem))
def least : List Int → Option Int
 | [] => none
 | x :: l => match least l with
  | none => some x
  | some y => some (if x ≤ y then x else y)
theorem least_none : ∀ {l : List Int}, least l = none ↔ l = []
 | [] => by simp [least]
 | x :: l => by simp only [least]; split <;> simp
theorem least_some : ∀ {l : List Int} {b : Int}, least l = some b → b ∈ l ∧ ∀ x ∈ l, b ≤ x
 | x :: l, b, h => by
  simp only [least] at h
  split at h
  ·rename_i h2
   cases h
   rw [least_none.1 h2]
   simp
  ·rename_i y h2
   obtain ⟨i1, i2⟩ := least_some h2
   cases h
   split
   ·rename_i hle
    exact ⟨by simp, fun z hz => (List.mem_cons.1 hz).elim (fun e => by omega) fun hz => by have := i2 _ hz; omega⟩
   ·rename_i hle
    exact ⟨by simp [i1], fun z hz => (List.mem_cons.1 hz).elim (fun e => by omega) fun hz => i2 _ hz⟩
theorem least_eq {l : List Int} {b : Int} (h : b ∈ l) (h2 : ∀ x ∈ l, b ≤ x) : least l = some b := by
 cases e : least l with
 | none => rw [least_none.1 e] at h; simp at h
 | some c =>
  obtain ⟨i1, i2⟩ := least_some e
  have := i2 _ h
  have := h2 _ i1
  congr 1
  omega
def lineL (es : List (Int × Int)) : Nat → List Int → Option (List Int)
 | 0, rem => if rem = [] then some [] else none
 | n + 1, rem => if rem = [] then some [] else match least (rem.filter (free es rem)) with
  | none => none
  | some b => (lineL es n (rem.filter fun x => decide (x ≠ b))).map (b :: ·)
def Before (p : List Int) (a b : Int) : Prop := ∃ i j : Nat, p[i]? = some a ∧ p[j]? = some b ∧ i < j
theorem Before.cons {p : List Int} {a b x : Int} (h : Before p a b) : Before (x :: p) a b := by
 obtain ⟨i, j, h1, h2, h3⟩ := h
 exact ⟨i + 1, j + 1, by simpa using h1, by simpa using h2, by omega⟩
theorem Before.head {p : List Int} {x b : Int} (h : b ∈ p) : Before (x :: p) x b := by
 obtain ⟨j, hj⟩ := List.getElem?_of_mem h
 exact ⟨0, j + 1, by simp, by simpa using hj, by omega⟩
theorem filter_ne_length {b : Int} : ∀ {rem : List Int}, b ∈ rem → (rem.filter fun x => decide (x ≠ b)).length < rem.length := by
 intro rem h
 have h1 := List.length_filter_le (fun x => decide (x ≠ b)) rem
 rcases Nat.lt_or_eq_of_le h1 with h2 | h2
 ·exact h2
 ·have h3 := (List.length_filter_eq_length_iff.1 h2) b h
  simp at h3
theorem nodup_filter_cons {b : Int} {rem : List Int} (hn : rem.Nodup) (hb : b ∈ rem) : (b :: rem.filter fun x => decide (x ≠ b)).Perm rem := by
 induction rem with
 | nil => simp at hb
 | cons x rem ih =>
  have hn' := List.nodup_cons.1 hn
  by_cases e : x = b
  ·subst e
   have e1 : (List.filter (fun z => decide (z ≠ x)) rem) = rem := List.filter_eq_self.2 fun z hz => by
    have : z ≠ x := fun e => hn'.1 (e ▸ hz)
    simpa using this
   simp only [List.filter_cons, ne_eq, not_true, decide_false, Bool.false_eq_true, ↓reduceIte]
   rw [show List.filter (fun z => decide ¬z = x) rem = rem from e1]
  ·have hb' : b ∈ rem := (List.mem_cons.1 hb).elim (fun h => (e h.symm).elim) id
   simp only [List.filter_cons, ne_eq, e, not_false_eq_true, decide_true, ↓reduceIte]
   exact (List.Perm.swap _ _ _).trans ((ih hn'.2 hb').cons _)
theorem lineL_some (es : List (Int × Int)) : ∀ (n : Nat) {rem out : List Int}, rem.Nodup → lineL es n rem = some out →
  out.Perm rem ∧ ∀ e ∈ es, e.1 ∈ rem → e.2 ∈ rem → e.1 ≠ e.2 → Before out e.1 e.2
 | 0, rem, out, hn, h => by
  simp only [lineL] at h
  split at h
  ·rename_i e; subst e; cases h; simp
  ·simp at h
 | n + 1, rem, out, hn, h => by
  simp only [lineL] at h
  split at h
  ·rename_i e; subst e; cases h; simp
  ·split at h
   ·simp at h
   ·rename_i b hb
    obtain ⟨h1, -⟩ := least_some hb
    obtain ⟨hbr, hfree⟩ := List.mem_filter.1 h1
    obtain ⟨o2, h2, rfl⟩ := Option.map_eq_some_iff.1 h
    obtain ⟨ih1, ih2⟩ := lineL_some es n (hn.filter _) h2
    refine ⟨(ih1.cons b).trans (nodup_filter_cons hn hbr), ?_⟩
    intro e he h3 h4 h5
    have hf := List.all_eq_true.1 hfree e he
    have hne : e.2 ≠ b := by
     intro e2
     simp [e2, h3] at hf
    have h4' : e.2 ∈ o2 := ih1.mem_iff.2 (List.mem_filter.2 ⟨h4, by simpa using hne⟩)
    by_cases h6 : e.1 = b
    ·rw [h6]; exact Before.head h4'
    ·exact (ih2 e he (List.mem_filter.2 ⟨h3, by simpa using h6⟩) (List.mem_filter.2 ⟨h4, by simpa using hne⟩) h5).cons
theorem Before.filter (f : Int → Bool) : ∀ {p : List Int} {a b : Int}, Before p a b → f a = true → f b = true → Before (p.filter f) a b
 | [], a, b, ⟨i, j, h1, _, _⟩, _, _ => by simp at h1
 | x :: p, a, b, ⟨i, j, h1, h2, h3⟩, ha, hb => by
  cases i with
  | zero =>
   simp at h1
   subst h1
   cases j with
   | zero => omega
   | succ j =>
    simp at h2
    simp only [List.filter_cons, ha, ↓reduceIte]
    exact Before.head (List.mem_filter.2 ⟨List.mem_of_getElem? h2, hb⟩)
  | succ i =>
   cases j with
   | zero => omega
   | succ j =>
    have := Before.filter f (p := p) ⟨i, j, by simpa using h1, by simpa using h2, by omega⟩ ha hb
    simp only [List.filter_cons]
    split
    ·exact this.cons
    ·exact this
def tstep (r : List Int) (o : Op1) : List Int := if o.tx ∈ r then r else r ++ [o.tx]
def txsOf (l : List Op1) : List Int := l.foldl tstep []
theorem txsOf_snoc (l : List Op1) (o : Op1) : txsOf (l ++ [o]) = tstep (txsOf l) o := by simp [txsOf]
theorem snoc_induct {α : Type} {P : List α → Prop} (h0 : P []) (h1 : ∀ l o, P l → P (l ++ [o])) (l : List α) : P l := by
 have : ∀ l : List α, P l.reverse := by
  intro l
  induction l with
  | nil => simpa using h0
  | cons o l ih => simpa using h1 _ o ih
 simpa using this l.reverse
theorem txsOf_mem (l : List Op1) (x : Int) : x ∈ txsOf l ↔ ∃ o ∈ l, o.tx = x := by
 induction l using snoc_induct with
 | h0 => simp [txsOf]
 | h1 l o ih =>
  rw [txsOf_snoc]
  unfold tstep
  split
  ·rename_i h
   rw [ih]
   constructor
   ·rintro ⟨o', h1, h2⟩; exact ⟨o', by simp [h1], h2⟩
   ·rintro ⟨o', h1, h2⟩
    rcases List.mem_append.1 h1 with h1 | h1
    ·exact ⟨o', h1, h2⟩
    ·simp at h1; subst h1; exact ih.1 (h2 ▸ h)
  ·rw [List.mem_append, ih]
   constructor
   ·rintro (⟨o', h1, h2⟩ | h)
    ·exact ⟨o', by simp [h1], h2⟩
    ·simp at h; exact ⟨o, by simp, h.symm⟩
   ·rintro ⟨o', h1, h2⟩
    rcases List.mem_append.1 h1 with h1 | h1
    ·exact .inl ⟨o', h1, h2⟩
    ·simp at h1; subst h1; exact .inr (by simp [h2])
theorem txsOf_nodup (l : List Op1) : (txsOf l).Nodup := by
 induction l using snoc_induct with
 | h0 => simp [txsOf]
 | h1 l o ih =>
  rw [txsOf_snoc]
  unfold tstep
  split
  ·exact ih
  ·rename_i h
   rw [List.nodup_append]
   exact ⟨ih, by simp, fun a ha b hb e => by simp at hb; subst hb; subst e; exact h ha⟩
theorem txsOf_le (l : List Op1) : (txsOf l).length ≤ l.length := by
 induction l using snoc_induct with
 | h0 => simp [txsOf]
 | h1 l o ih =>
  rw [txsOf_snoc]
  unfold tstep
  split <;> simp <;> omega
end Go.Proofs.YtdlkjppppdminaaGreatDoor
namespace Go.Proofs.YtdlkjppppdminaaGreatDoor
open Go Go.RowKit Go.Sep
structure Tx where
 level : Int
 state : Int
 start : Int
 begun : Int
 ended : Int
 reads : List (Int × Int)
 writes : List (Int × Int)
 want : Int × Int
 fore : List Nat
 aft : List Nat
 why : Int
def Tx.zero : Tx := ⟨0, 0, 0, 0, 0, [], [], (0, 0), [], [], 0⟩
structure Eng where
 V : List Vers
 last : Int
 t : Tbl
 txs : List Tx
 count : Int
 wr : List (Int × Int)
 hist : List Op1
def Eng.zero : Eng := ⟨List.replicate 10 [], 0, ⟨[], [], []⟩, [], 0, [], []⟩
def Eng.tx (e : Eng) (i : Nat) : Tx := (e.txs[i]?).getD .zero
def Eng.upd (e : Eng) (i : Nat) (f : Tx → Tx) : Eng := { e with txs := e.txs.modify i f }
def Eng.row (e : Eng) (k : Int) : Vers := (e.V[k.toNat]?).getD []
def Tx.strict (x : Tx) : Bool := decide (x.level = 2) && decide (x.state ≠ 3)
def Tx.alive (x : Tx) : Bool := decide (x.state ≤ 1)
def Tx.wrote (x : Tx) (key : Int) : Bool := (mget x.writes key).isSome
def Tx.saw (x : Tx) (key : Int) : Bool := x.reads.any fun r => decide (r.1 = key)
def Eng.there (e : Eng) (i : Nat) : Bool := decide ((e.tx i).state ≠ 3)
def Eng.middle (e : Eng) (i : Nat) : Bool := (e.tx i).fore.any e.there && (e.tx i).aft.any e.there
def Eng.wrong (e : Eng) (i : Nat) : Bool := decide ((e.tx i).state = 2) && e.middle i
def Eng.note (e : Eng) (a b : Nat) : Eng := (e.upd a fun x => { x with aft := x.aft ++ [b] }).upd b fun x => { x with fore := x.fore ++ [a] }
def Eng.bad (e : Eng) (a b : Nat) : Bool := e.wrong a || e.wrong b
def sawNew (i : Nat) : List Int → Eng → Eng × Bool
 | [], e => (e, true)
 | at_ :: l, e =>
  let k := (mget e.wr at_).getD 0
  if 0 < k ∧ (e.tx (k.toNat - 1)).strict = true then
   let e' := e.note i (k.toNat - 1)
   if e'.bad i (k.toNat - 1) then (e', false) else sawNew i l e'
  else sawNew i l e
def sawOpen (i : Nat) (key : Int) : List Nat → Eng → Eng
 | [], e => e
 | j :: l, e => sawOpen i key l (if (e.tx j).wrote key && decide (j ≠ i) && (e.tx j).strict && (e.tx j).alive then e.note i j else e)
def Eng.sees (e : Eng) (i : Nat) (key : Int) : Eng × Bool :=
 let r := sawNew i (newerL (e.row key) (e.tx i).start) e
 if r.2 then (sawOpen i key (List.range r.1.txs.length) r.1, true) else r
def skips (e : Eng) (i : Nat) (key : Int) (j : Nat) : Bool :=
 decide (j = i) || !(e.tx j).strict || (decide ((e.tx j).state = 2) && decide ((e.tx j).ended < (e.tx i).begun)) || !(e.tx j).saw key
def putsL (goes : Eng → Nat → Int → Eng) (i : Nat) (key : Int) : List Nat → Eng → Eng
 | [], e => e
 | j :: l, e => if skips e i key j then putsL goes i key l e else
  let e' := e.note j i
  if e'.bad j i then goes e' i 13 else putsL goes i key l e'
def Eng.late (e : Eng) (i : Nat) (key : Int) : Prop := (e.tx i).level ≠ 0 ∧ newerL (e.row key) (e.tx i).start ≠ []
instance (e : Eng) (i : Nat) (key : Int) : Decidable (e.late i key) := by unfold Eng.late; infer_instance
def Eng.wput (e : Eng) (i : Nat) (w : Int × Int) : Eng := e.upd i fun x => { x with writes := mput x.writes w.1 w.2 }
def Eng.opens (e : Eng) (i : Nat) : Eng := e.upd i fun x => { x with state := 0 }
def putsG (goes : Eng → Nat → Int → Eng) (e : Eng) (i : Nat) (w : Int × Int) : Eng :=
 if e.late i w.1 then goes e i 10 else if (e.tx i).level = 2 then putsL goes i w.1 (List.range e.txs.length) (e.wput i w) else e.wput i w
def freesL (goes : Eng → Nat → Int → Eng) : List (Int × Int) → Eng → Eng
 | [], e => e
 | w :: l, e => freesL goes l (putsG goes (e.opens (w.2.toNat - 1)) (w.2.toNat - 1) ((e.opens (w.2.toNat - 1)).tx (w.2.toNat - 1)).want)
def Eng.lets (e : Eng) (i : Nat) : Eng := { e with t := (tbDrop e.t ((i : Int) + 1)).1 }
def Eng.heirs (e : Eng) (i : Nat) : List (Int × Int) := (tbDrop e.t ((i : Int) + 1)).2
def freesG (goes : Eng → Nat → Int → Eng) (e : Eng) (i : Nat) : Eng := freesL goes (e.heirs i) (e.lets i)
def Eng.mark (e : Eng) (i : Nat) (why : Int) : Eng :=
 { e.upd i (fun x => { x with state := 3, why := why, ended := e.count + 1 }) with count := e.count + 1 }
def Eng.left (e : Eng) (i : Nat) (why : Int) : Eng := (e.mark i why).lets i
def goesN : Nat → Eng → Nat → Int → Eng
 | 0, e, _, _ => e
 | n + 1, e, i, why => freesG (goesN n) (e.mark i why) i
def Eng.open_ (e : Eng) : Nat := e.txs.countP Tx.alive
def Eng.goes (e : Eng) (i : Nat) (why : Int) : Eng := goesN e.open_ e i why
def Eng.puts (e : Eng) (i : Nat) (w : Int × Int) : Eng := putsG (goesN e.open_) e i w
def Eng.frees (e : Eng) (i : Nat) : Eng := freesG (goesN e.open_) e i
def Eng.err (e : Eng) (n : Int) (op : Bool) : Int :=
 if n < 1 ∨ (e.txs.length : Int) < n then 7 else if op = true ∧ (e.tx (n.toNat - 1)).state ≠ 0 then 6 else 0
def Eng.begin_ (e : Eng) (level : Int) : Eng × Int × Int :=
 if level < 0 ∨ 2 < level then (e, 0, 1) else if 200 ≤ e.txs.length then (e, 0, 12) else if 6 ≤ e.open_ then (e, 0, 4) else
 ({ e with count := e.count + 1, txs := e.txs ++ [{ Tx.zero with level := level, start := e.last, begun := e.count + 1 }] }, (e.txs.length : Int) + 1, 0)
def Eng.asOf (e : Eng) (i : Nat) : Int := if (e.tx i).level = 0 then e.last else (e.tx i).start
def Eng.read (e : Eng) (n key : Int) : Eng × Int × Int :=
 if e.err n true ≠ 0 then (e, 0, e.err n true) else
 let i := n.toNat - 1
 match mget (e.tx i).writes key with
 | some v => (e, v, 0)
 | none =>
  if ¬ keyOk key then (e, 0, 2) else
  let r := readV (e.row key) (e.asOf i)
  let e' := e.upd i fun x => { x with reads := x.reads ++ [(key, (mget e.wr ((r.map (·.1)).getD 0)).getD 0)] }
  if (e.tx i).level = 2 then
   let s := e'.sees i key
   if s.2 then (s.1, (r.map (·.2)).getD 0, if r.isSome then 0 else 8) else (s.1.goes i 13, 0, 13)
  else (e', (r.map (·.2)).getD 0, if r.isSome then 0 else 8)
open Classical in
noncomputable def comesRound (t : Tbl) (tx key : Int) : Bool := decide (∃ h, mget t.hold key = some h ∧ Sep.Reach t tx h)
noncomputable def Eng.write (e : Eng) (n key value : Int) : Eng × Bool × Int :=
 if e.err n true ≠ 0 then (e, false, e.err n true) else if ¬ keyOk key then (e, false, 2) else if ¬ valOk value then (e, false, 1) else
 let i := n.toNat - 1
 let e1 := e.upd i fun x => { x with want := (key, value) }
 let r := tbAsk e.t n key (comesRound e.t n key)
 let e2 := { e1 with t := r.1 }
 if r.2.2 ≠ 0 then (e2.goes i 11, false, 11) else if r.2.1 = false then (e2.upd i fun x => { x with state := 1 }, false, 0) else
 let e3 := e2.puts i (key, value)
 if (e3.tx i).state = 3 then (e3, false, (e3.tx i).why) else (e3, true, 0)
def Eng.ready (e : Eng) (n : Int) : Int :=
 if e.err n true ≠ 0 then e.err n true else if (e.tx (n.toNat - 1)).level = 2 ∧ e.middle (n.toNat - 1) = true then 13 else 0
def Tx.written (x : Tx) : List (Int × Int) := (sortI (x.writes.map (·.1))).map fun k => (k, (mget x.writes k).getD 0)
def Eng.writes (e : Eng) (n : Int) : List (Int × Int) × Int := if e.err n false ≠ 0 then ([], e.err n false) else ((e.tx (n.toNat - 1)).written, 0)
def instOk' (last at_ : Int) (l : Vers) : Bool := decide (last < at_ ∧ at_ ≤ 1099511627776) && (badAt 0 l).isNone
def toldL (n : Int) (x : Tx) : List Op1 := (x.reads.map fun r => ⟨n, r.1, false, r.2⟩) ++ x.written.map fun w => ⟨n, w.1, true, 0⟩
def Eng.installed (e : Eng) (n : Int) (l : List (Int × Int)) : Eng :=
 if l = [] then e else
 if instOk' e.last (e.last + 1) l then { e with V := putAll (e.last + 1) e.V l, last := e.last + 1, wr := mput e.wr (e.last + 1) n } else { e with wr := mput e.wr (e.last + 1) n }
def Eng.commit (e : Eng) (n : Int) : Eng × Int :=
 if e.ready n ≠ 0 then (if e.ready n = 13 then e.goes (n.toNat - 1) 13 else e, e.ready n) else
 let i := n.toNat - 1
 let e1 := { e with hist := e.hist ++ toldL n (e.tx i) }
 let e2 := e1.installed n (e.tx i).written
 let e3 := { e2.upd i (fun x => { x with state := 2, ended := e.count + 1 }) with count := e.count + 1 }
 (e3.frees i, 0)
def Eng.abort (e : Eng) (n : Int) : Eng × Int :=
 if e.err n false ≠ 0 then (e, e.err n false) else if 1 < (e.tx (n.toNat - 1)).state then (e, 6) else (e.goes (n.toNat - 1) 0, 0)
def Eng.floor (e : Eng) : Int := e.txs.foldl (fun a x => if x.alive = true ∧ x.level ≠ 0 then min a x.start else a) e.last
def Eng.sweep (e : Eng) : Eng × Int := ({ e with V := e.V.map (swept e.floor) }, (((e.V.map (sweptN e.floor)).sum : Nat) : Int))
def Eng.state (e : Eng) (n : Int) : Int × Int × Int := if e.err n false ≠ 0 then (0, 0, e.err n false) else ((e.tx (n.toNat - 1)).state, (e.tx (n.toNat - 1)).why, 0)
def Eng.waits (e : Eng) (n : Int) : Int := match mget e.t.wait n with | some k => if 0 ≤ k then (mget e.t.hold k).getD 0 else 0 | none => 0
end Go.Proofs.YtdlkjppppdminaaGreatDoor
