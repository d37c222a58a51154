/- The program's table of locks: who lets go, of whatever table; the fact of the law. -/
import Derived.Test.YtbcoddibdipjkaaDoorLockF
import Derived.Test.YtbcoddibdipjkaaDoorTell
import Derived.LoopN
namespace Go.Proofs.YtbcoddibdipjkaaDoor
open Go Go.RowKit Go.Sep

set_option maxRecDepth 40000 in
theorem tdrop_zero (w0 w : World) (b o : Nat) (tx : Int) (L : List HProp) (hs : S w0 w (cells b o [.map none, .map none, .map none] :: L)) :
    Calls Tryd.prog 20 #[.pointer (some ⟨b, o, none⟩), .int .i64 tx] w fun e w' => e = .returned (.slice none 0 0) ∧ S w0 w' (cells b o [.map none, .map none, .map none] :: L) := by
  have hs1 := hs.alloc #[.int .i64 tx] 3
  have c0 := hs1.swap.cells_cell 0 rfl
  have c1 := hs1.swap.cells_cell 1 rfl
  have c2 := hs1.swap.cells_cell 2 rfl
  rw [Nat.add_zero] at c0
  have ct := hs1.blk_cell 0 rfl
  have l2 := Tryd.look2n (w.alloc (.cells #[.int .i64 tx] 3)).drew tx
  have ur := run_range_none (P := Tryd.prog) Tryd.underlying48 (w.alloc (.cells #[.int .i64 tx] 3)).drew
  have hs2 := (hs1.alloc_obj (.mapIter none 0 #[] 0) (by simp)).drew
  have un := run_next_none (P := Tryd.prog) (ty := 0) hs2.obj
  have e1 : (w.alloc (.cells #[.int .i64 tx] 3)).heap.size = w.heap.size + 1 := by simp
  have e2 : (w.alloc (.cells #[.int .i64 tx] 3)).drew.heap.size = w.heap.size + 1 := by simp
  rw [e1] at un
  rw [e2] at ur
  have H1 := hid hs2
  clear hs hs1 hs2 e1 e2
  go_enter Tryd.func20, Tryd.ntmps20
  go_wp2_with fail
  go_region
  go_wp2_with fail
  refine wp_loop_rounds 1 ?_
  rw [rounds_succ]
  go_wp2_with fail
  with_reducible refine (Tryd.slices_Sort_int_none none 0 _).mono ?_
  rintro e w5 ⟨rfl, rfl⟩
  go_wp2_with fail
  refine wp_loop_rounds 1 ?_
  rw [rounds_succ]
  go_wp2_with fail
  go_ret
  exact ⟨rfl, H1.out.tail.tail⟩

theorem tdrop_any (w0 w : World) (b o : Nat) (t : Tbl) (tx : Int) (L : List HProp) (hs : S w0 w (tabP 3 b o t :: L)) (hb : ∀ k, (lineAt t k).length ≤ 1000000) (hh : t.hold.length ≤ 1000000) :
    Calls Tryd.prog 20 #[.pointer (some ⟨b, o, none⟩), .int .i64 tx] w fun e w' => ∃ v', e = .returned v' ∧
      S w0 w' (sl 31 2 v' (tbDrop t tx).2.length (pcells (tbDrop t tx).2) :: tabP 3 b o (tbDrop t tx).1 :: L) := by
  rcases hs.tab_cases with h0 | ⟨bh, bl, bb, E, h⟩
  · obtain ⟨rfl, h1⟩ := h0.tab0_cells
    refine (tdrop_zero w0 w b o tx L h1).mono fun e w' ⟨he, h2⟩ => ⟨_, he, ?_⟩
    have e1 : tbDrop ⟨[], [], []⟩ tx = (⟨[], [], []⟩, []) := by simp [tbDrop, strikeT, mget_nil, holders, sortI]
    rw [e1]
    exact h2.tab_zero.sl_nil
  · exact tdrop_made w0 w b o bh bl bb E t tx L h hb hh
end Go.Proofs.YtbcoddibdipjkaaDoor
