/- strings.SplitSeq: the function that it gives, walked. -/
import Derived.Test.YtdlkjppppdminaaGreatDoorZ0
import Derived.RangeFuncNested
import Derived.RangeFuncBound
import Derived.RangeFuncCalls
import Derived.RangeFuncLeaves
import Derived.Shelf.Abstract
import Derived.Shelf.RegionOpen
import Derived.WalkKit
import Derived.OwnWalkIn
import Derived.TacticsInMore
import Derived.LoopNIn
import Derived.LoopIn
import Derived.Test.YtdlkjppppdminaaGreatDoorZ4
import Derived.Test.YtdlkjppppdminaaGreatDoorZ1
namespace Go.Proofs.YtdlkjppppdminaaGreatDoor
open Go Go.RowKit Go.Sep
attribute [local go_sem] Oper.semAt_some
theorem index_nl (s : ByteArray) (w : World) (n : Nat) : CallsIn Fence.wide n Tryz.prog 31 #[.string s, .string ⟨#[10]⟩] w fun e w' => e = .returned (.int .i64 (Lib.indexByte s.data.toList 10)) ∧ w' = w :=
 callsIn_wide.2 (Shd.Tryz.strings_Index_one s 10 w)
set_option maxRecDepth 100000 in
set_option maxHeartbeats 2000000 in
theorem splitSeq_in (n : Nat) (hn : 1 ≤ n) (l bs bp bv : Nat) (s0 : List UInt8) (hlen : s0.length ≤ 1000000) (Jm : List (List UInt8) → HProp) (w0 : World) (L : List HProp)
  (hY : ∀ done x W R, done ++ [x] <+: linesL s0 → S w0 W (Jm done :: R) → YieldAt Fence.wide (n - 1) Tryz.prog l #[.string ⟨x.toArray⟩] W fun e W' => e = .returned (.bool true) ∧ S w0 W' (Jm (done ++ [x]) :: R))
  (W : World) (h0 : S w0 W (Jm [] :: blk bs 9 [.string ⟨s0.toArray⟩] :: blk bp 9 [.string ⟨#[10]⟩] :: blk bv 3 [.int .i64 0] :: L)) :
  CallsIn Fence.wide n Tryz.prog 29 #[.func (.yield l) #[] #[], .pointer (some ⟨bp, 0, none⟩), .pointer (some ⟨bs, 0, none⟩), .pointer (some ⟨bv, 0, none⟩)] W fun e W' => (∃ v, e = .returned v) ∧ ∃ x, S w0 W' (Jm (linesL s0) :: blk bs 9 [.string x] :: blk bp 9 [.string ⟨#[10]⟩] :: blk bv 3 [.int .i64 0] :: L) := by
 have d1 := (h0.of_mem (A := blk bp 9 [.string ⟨#[10]⟩]) (by simp)).blk_cell 0 rfl
 have H0 := hid h0
 clear h0
 refine callsIn_of_wp Tryz.func29 rfl trivial ?_ rfl
 simp only [Tryz.ntmps29, List.size_toArray, List.length_cons, List.length_nil, Nat.reduceAdd, Nat.reduceSub, Array.replicate_succ, Array.replicate_zero, List.push_toArray, List.append_toArray, List.nil_append, List.cons_append]
 gi_wp2
 gi_loopw [7] (fun i wr => ∃ rest done, done ++ linesL rest = linesL s0 ∧ rest.length ≤ s0.length ∧ Hid (S w0 wr (Jm done :: blk bs 9 [.string ⟨rest.toArray⟩] :: blk bp 9 [.string ⟨#[10]⟩] :: blk bv 3 [.int .i64 0] :: L))) (fun _ wr => match wr.cell? ⟨bs, 0, none⟩ with | some (.string s) => s.size | _ => 0)
 case atStart => exact ⟨s0, [], rfl, Nat.le_refl _, H0⟩
 case round =>
  obtain ⟨rest, done, hd, hl, H1⟩ := hrel
  clear H0 d1
  have c1 := (H1.out.of_mem (A := blk bp 9 [.string ⟨#[10]⟩]) (by simp)).blk_cell 0 rfl
  have c2 := (H1.out.of_mem (A := blk bs 9 [.string ⟨rest.toArray⟩]) (by simp)).blk_cell 0 rfl
  have c3 := (H1.out.of_mem (A := blk bv 3 [.int .i64 0]) (by simp)).blk_cell 0 rfl
  have hge := Lib.indexByte_ge rest 10
  have hix := fun w => index_nl ⟨rest.toArray⟩ w (n - 1)
  by_cases hneg : Lib.indexByte rest 10 = -1
  ·have hlast := linesL_none rest hneg
   rw [hneg] at hix
   rw [hlast] at hd
   obtain ⟨fn, tmps, assign, body, hy, hR⟩ := hY done rest wr _ (by rw [hd]; exact List.prefix_rfl) H1.out
   have HIX := hid hix
   clear hix hneg
   gi_wp2_with (refine ⟨trivial, ?_⟩; gi_at_call 31; refine (HIX.out _).mono ?_; rintro e w' ⟨rfl, rfl⟩)
   refine hR.mono ?_
   rintro e W3 ⟨rfl, hJ3⟩
   rw [hd] at hJ3
   have H3 := hid hJ3
   clear hJ3
   gi_wp2
   go_end0
   exact ⟨⟨_, rfl⟩, _, H3.out⟩
  ·obtain ⟨i, hi⟩ : ∃ i : Nat, Lib.indexByte rest 10 = i := ⟨(Lib.indexByte rest 10).toNat, by omega⟩
   obtain ⟨hlt, hsp⟩ := linesL_some rest i hi
   rw [hi] at hix
   rw [hsp] at hd
   have hpre : done ++ [rest.take i] <+: linesL s0 := ⟨linesL (rest.drop (i + 1)), by rw [← hd, List.append_assoc]; rfl⟩
   have hy0 := hY done (rest.take i) wr _ hpre H1.out
   have hz : (⟨rest.toArray⟩ : ByteArray).size = rest.length := by simp [ByteArray.size]
   have hcut : (⟨rest.toArray⟩ : ByteArray).extract 0 i = ⟨(rest.take i).toArray⟩ := by
    rw [ByteArray.extract_mk]; simp
   have hcut2 : (⟨rest.toArray⟩ : ByteArray).extract (i + 1) rest.length = ⟨(rest.drop (i + 1)).toArray⟩ := by
    rw [ByteArray.extract_mk]; simp
    exact List.take_of_length_le (by simp)
   obtain ⟨fn, tmps, assign, body, hy, hR⟩ := hy0
   have HIX := hid hix
   clear hix hneg
   gi_wp2_with (refine ⟨trivial, ?_⟩; gi_at_call 31; refine (HIX.out _).mono ?_; rintro e w' ⟨rfl, rfl⟩)
   refine hR.mono ?_
   rintro e W3 ⟨rfl, hJ3⟩
   have b1 := (hJ3.of_mem (A := blk bp 9 [.string ⟨#[10]⟩]) (by simp)).blk_cell 0 rfl
   have b2 := (hJ3.of_mem (A := blk bs 9 [.string ⟨rest.toArray⟩]) (by simp)).blk_cell 0 rfl
   have f2 := (hJ3.of_mem (A := blk bs 9 [.string ⟨rest.toArray⟩]) (by simp)).blk_free 0
   have H3 := hid hJ3
   clear hJ3 c1 c2 c3
   gi_wp2
   have hfin := S.set_nth [_] H3.out 0 (by simp) (.string ⟨(rest.drop (i + 1)).toArray⟩)
   have cn := (hfin.of_mem (A := blk bs 9 [.string ⟨(rest.drop (i + 1)).toArray⟩]) (by simp)).blk_cell 0 rfl
   have HFN := hid hfin
   have co := (H1.out.of_mem (A := blk bs 9 [.string ⟨rest.toArray⟩]) (by simp)).blk_cell 0 rfl
   clear hfin
   go_roundw
   case rel => exact ⟨rest.drop (i + 1), done ++ [rest.take i], by rw [List.append_assoc]; exact hd, by simp; omega, HFN⟩
   case measure =>
    rw [cn, co]
    simp [ByteArray.size]
    omega
end Go.Proofs.YtdlkjppppdminaaGreatDoor
