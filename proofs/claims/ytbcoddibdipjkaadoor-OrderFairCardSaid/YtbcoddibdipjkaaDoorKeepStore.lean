/- What holds of the store's answers among themselves: pick; the fact 'stored'. -/
import Derived.Test.YtbcoddibdipjkaaDoorStoreR
import Derived.Test.YtbcoddibdipjkaaDoorTell
namespace Go.Proofs.YtbcoddibdipjkaaDoor
open Go Go.RowKit Go.Sep

def pickN (a : Int) (n : Nat) : Nat := (IntKind.u64.wrap a % n).toNat
theorem u64_wrap (a : Int) : 0 ≤ IntKind.u64.wrap a := by
  simp [IntKind.wrap, IntKind.signed, IntKind.bits]; omega
theorem pickN_lt (a : Int) {n : Nat} (h : 0 < n) : pickN a n < n := by
  unfold pickN
  have h1 := Int.emod_lt_of_pos (IntKind.u64.wrap a) (show (0 : Int) < n by omega)
  have h2 := Int.emod_nonneg (IntKind.u64.wrap a) (show (n : Int) ≠ 0 by omega)
  omega
theorem pick_any (a : Int) (n : Int) (w : World) (hn : 0 < n) (hn2 : n ≤ 1000000) : Calls Tryd.prog 10 #[.int .i64 a, .int .i64 n] w fun e w' => e = .returned (.int .i64 (pickN a n.toNat)) ∧ w = w' := by
  obtain ⟨n, rfl⟩ := Int.eq_ofNat_of_zero_le (Int.le_of_lt hn)
  have h1 := u64_wrap a
  have h2 := Int.emod_lt_of_pos (IntKind.u64.wrap a) hn
  have h3 := Int.emod_nonneg (IntKind.u64.wrap a) (show (n : Int) ≠ 0 by omega)
  have h4 : wrap64 ((IntKind.u64.wrap a).tmod n) = pickN a n := by
    rw [Int.tmod_eq_emod_of_nonneg h1, IntWalk.wrap64_in _ ⟨by omega, by omega⟩]; unfold pickN; omega
  have H4 := hid h4
  clear h1 h2 h3 h4
  go_enter Tryd.func10, Tryd.ntmps10
  go_wp2
  go_ret
  exact ⟨retI H4.out, rfl⟩

theorem sep_all (A : HProp) (M : List HProp) : all (A :: M) = sep A (all M) := rfl
/-- A new store. -/
theorem S.store_new {w0 w : World} {L : List HProp} {b T T' : Nat} (h : S w0 w (blk b T (List.replicate 10 (.slice none 0 0) ++ [.int .i64 0]) :: L)) : S w0 w (storeP T' b 0 (List.replicate 10 []) 0 :: L) := by
  refine .ex_intro (List.replicate 10 (.slice none 0 0)) (.sep_intro (.pur_intro ⟨rfl, rfl⟩ (.sep_intro ?_)))
  have h1 := h.blk_cells
  have h2 : ∀ n, S w0 w (cells b 0 (List.replicate 10 (.slice none 0 0) ++ [.int .i64 0]) :: all (List.replicate n (sl T' 2 (.slice none 0 0) 0 [])) :: L) := by
    intro n
    induction n with
    | zero => exact h1.conv (by simp [all, emp_sep])
    | succ n ih => exact (S.sl_nil (e := T') (size := 2) ih).conv (by simp only [all, List.replicate_succ]; rw [sep_left_comm]; simp only [sep_assoc])
  have h3 := h2 10
  exact h3

theorem install_ok (w0 w : World) (b o : Nat) (V : List Vers) (last at_ : Int) (v : Value) (l : Vers) (L : List HProp) (N : Nat)
    (hs : S w0 w (storeP 38 b o V last :: L)) (hr : RdK w0 L v l.length (pcells l)) (hN : ∀ vs ∈ V, vs.length ≤ N) (hb : N + l.length ≤ 1000000) (h1 : last < at_) (h2 : at_ ≤ 1099511627776) (h3 : badAt 0 l = none) :
    Calls Tryd.prog 12 #[.pointer (some ⟨b, o, none⟩), .int .i64 at_, v] w fun e w' => e = .returned .nilIface ∧ S w0 w' (storeP 38 b o (putAll at_ V l) at_ :: L) := by
  refine (install_any w0 w b o V last at_ v l L N hs hr hN hb).mono ?_
  intro e w' h
  unfold InstPost at h
  rwa [if_pos ⟨h1, h2⟩, h3] at h

set_option maxRecDepth 20000 in
set_option maxHeartbeats 4000000 in
theorem stored_any (w0 w : World) (L : List HProp) (hs : S w0 w L) :
    Calls Tryd.prog 9 #[] w fun e w' => e = .returned (.bool true) ∧ S w0 w' L := by
  have hs1 := hs.alloc #[.slice none 0 0, .slice none 0 0, .slice none 0 0, .slice none 0 0, .slice none 0 0, .slice none 0 0, .slice none 0 0, .slice none 0 0, .slice none 0 0, .slice none 0 0, .int .i64 0] 27
  have hs2 := S.store_new (T' := 38) hs1
  have hs3 := hs2.alloc #[.int .i64 3, .int .i64 7] 31
  rw [World.size_alloc] at hs3
  have H3 := hid (S.sl_blk (e := 31) (size := 2) (n := 1) rfl (by decide) hs3).swap
  clear hs1 hs2 hs3 hs
  go_enter Tryd.func9, Tryd.ntmps9
  go_wp2_with fail
  refine (install_ok w0 _ _ 0 (List.replicate 10 []) 0 1 _ [(3, 7)] _ 0 H3.out RdK.own (by simp) (by simp) (by omega) (by omega) (by decide)).mono ?_
  rintro e w1 ⟨rfl, hs4⟩
  have hs5 := hs4.swap.tail.alloc #[.int .i64 3, .int .i64 8] 31
  have H5 := hid (S.sl_blk (e := 31) (size := 2) (n := 1) rfl (by decide) hs5).swap
  clear hs4 hs5 H3
  go_wp2_with fail
  refine (install_ok w0 _ _ 0 _ 1 4 _ [(3, 8)] _ 1 H5.out RdK.own (by decide) (by simp) (by omega) (by omega) (by decide)).mono ?_
  rintro e w2 ⟨rfl, hs6⟩
  have H6 := hid hs6.swap.tail
  clear hs6 H5
  go_wp2_with fail
  have hr1 := read_any w.heap.size 0 _ 4 3 3 [(1, 7), (4, 8)] w0 w2 L (by omega) H6.out (by decide) (by decide)
  rw [show ((3 : Nat) : Int) = 3 from rfl] at hr1
  refine hr1.mono ?_
  rintro e w3 ⟨rfl, hs7⟩
  have H7 := hid (hs7.alloc #[.int .i64 1, .int .i64 7] 38).swap
  clear hs7 H6 hr1
  simp only [readAns, readV]
  go_wp2_with fail
  have hr2 := read_any w.heap.size 0 _ 4 9 3 [(1, 7), (4, 8)] w0 _ _ (by omega) H7.out (by decide) (by decide)
  rw [show ((3 : Nat) : Int) = 3 from rfl] at hr2
  refine hr2.mono ?_
  rintro e w4 ⟨rfl, hs8⟩
  have hs9 := (hs8.alloc #[.int .i64 4, .int .i64 8] 38)
  have d0 := (hs9.of_mem (A := blk w3.heap.size 38 [.int .i64 1, .int .i64 7]) (by simp)).blk_cell 0 rfl
  have d1 := (hs9.of_mem (A := blk w3.heap.size 38 [.int .i64 1, .int .i64 7]) (by simp)).blk_cell 1 rfl
  have d3 := hs9.swap.store_last.1
  have H9 := hid hs9
  clear hs8 hs9 H7 hr2
  simp only [readAns, readV]
  go_wp2_with (first | (go_at_call 36; refine (last_any _ _ _ _ d3).mono ?_; rintro e w5 ⟨rfl, rfl⟩))
  go_ret
  exact ⟨rfl, H9.out.tail.tail.tail⟩
end Go.Proofs.YtbcoddibdipjkaaDoor
