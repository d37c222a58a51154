/- interleafkeep.lined: the fact that OrderFair begins with. -/
import Derived.Test.YtbcoddibdipjkaaDoorOrdL
import Derived.Test.YtbcoddibdipjkaaDoorOrdF
import Derived.Test.YtbcoddibdipjkaaDoorTellAt
namespace Go.Proofs.YtbcoddibdipjkaaDoor
open Go Go.RowKit Go.Sep

theorem okIx {l : List Op1} (h : ∀ o ∈ l, badOp o = false) : ¬ 0 ≤ badIx l := by
  rcases badIx_cases l with ⟨h1, _⟩ | ⟨k, _, _, o, h2, h3, _⟩
  · omega
  · rw [h o (List.mem_of_getElem? h2)] at h3; cases h3

set_option maxRecDepth 40000 in
set_option maxHeartbeats 4000000 in
theorem lined_any (w0 w : World) (L : List HProp) (hE : ErrT w0) (hs : S w0 w L) :
    Calls Tryd.prog 23 #[] w fun e w' => e = .returned (.bool true) ∧ S w0 w' L := by
  have hs1 := hs.alloc #[.int .i64 2, .int .i64 1, .bool false, .int .i64 0, .int .i64 2, .int .i64 2, .bool true, .int .i64 0, .int .i64 1, .int .i64 1, .bool true, .int .i64 0] 65
  have hs2 : S w0 _ (sl 65 4 _ lin1.length (fcells ocells lin1) :: L) := S.sl_blk (e := 65) (size := 4) (n := 3) rfl (by decide) hs1
  have hcall := line_any w0 _ _ lin1 _ hs2 RdK.own (by decide) (by decide)
  have HC := hid hcall
  clear hs hs1 hs2 hcall
  go_enter Tryd.func23, Tryd.ntmps23
  go_wp2_with fail
  with_reducible refine HC.out.mono ?_
  intro e w1 h
  clear HC
  unfold LinePost at h
  rw [if_neg (okIx (by decide)), lin1_lost] at h
  obtain ⟨es, hES, h⟩ := h
  obtain rfl := hES.unique lin1_edges
  rw [lin1_line] at h
  obtain ⟨v1, rfl, _, hs1⟩ := h
  obtain ⟨g, og, c1, rfl, _, hc2, _, _, hcell, _⟩ := hs1.sl_some (by decide)
  have d0 := hcell 0 (.int .i64 2) rfl
  have d1 := hcell 1 (.int .i64 1) rfl
  have hs2 := hs1.alloc #[.int .i64 1, .int .i64 1, .bool false, .int .i64 0, .int .i64 1, .int .i64 2, .bool true, .int .i64 0, .int .i64 2, .int .i64 2, .bool false, .int .i64 0, .int .i64 2, .int .i64 1, .bool true, .int .i64 0] 65
  have hs3 : S w0 _ (sl 65 4 _ lin2.length (fcells ocells lin2) :: _) := S.sl_blk (e := 65) (size := 4) (n := 4) rfl (by decide) hs2
  have hcall := line_any w0 _ _ lin2 _ hs3 RdK.own (by decide) (by decide)
  have HC := hid hcall
  clear hs1 hs2 hs3 hcall hcell d0 d1 hES
  simp only [List.length_cons, List.length_nil] at *
  go_wp2_with fail
  with_reducible refine HC.out.mono ?_
  intro e w2 h
  clear HC
  unfold LinePost at h
  rw [if_neg (okIx (by decide)), lin2_lost] at h
  obtain ⟨es, hES, h⟩ := h
  obtain rfl := hES.unique lin2_edges
  rw [lin2_line] at h
  obtain ⟨rfl, hs1⟩ := h
  obtain ⟨g', og', hg, _, d0⟩ := hs1.tail.sl_int (i := 0) (x := 2) rfl
  obtain ⟨rfl, rfl⟩ : g = g' ∧ og = og' := by simpa using hg
  obtain ⟨g', og', hg, _, d1⟩ := hs1.tail.sl_int (i := 1) (x := 1) rfl
  obtain ⟨rfl, rfl⟩ : g = g' ∧ og = og' := by simpa using hg
  simp only [Nat.add_zero] at d0 d1
  have hcall := tell_no 11 w0 w2 _ hE hs1
  have HC := hid hcall
  clear hcall hs1 hES hg
  go_wp2_with (go_at_call 16; with_reducible refine HC.out.mono ?_; rintro e w3 ⟨rfl, hs2⟩; have H2 := hid hs2; clear hs2)
  go_ret
  exact ⟨rfl, H2.out.tail.tail.tail⟩
end Go.Proofs.YtbcoddibdipjkaaDoor
