/- interleaflaw.OrderLines: the walk. -/
import Derived.Test.YthdiphfbjlooaaaDoorLinesA
namespace Go.Proofs.YthdiphfbjlooaaaDoor
open Go Go.RowKit Go.Sep

set_option maxRecDepth 40000 in
set_option maxHeartbeats 4000000 in
theorem lines_any (w0 : World) (v : Value) (ls : List Op1) (hE : ErrT w0) (hv : ArgF ocells 4 w0 v ls) (hbd : ∀ o ∈ ls, o.tx ≤ 9223372036854775807 ∧ o.fr ≤ 9223372036854775807) :
    Calls Tryd.prog 8 #[v] w0 fun e w' => e = .returned (.bool true) ∧ Below w0.heap.size w0 w' := by
  have hr := argF_rd ocells_length (by omega) hv
  have hs0 := S.start w0
  obtain ⟨a, cap, rfl, hcap, hcap2, hrow⟩ := hv
  unfold maxLen at hcap2
  clear hrow
  by_cases h60 : 60 < ls.length
  · clear hr hs0 hbd
    go_enter Tryd.func8, Tryd.ntmps8
    go_wp2_with fail
    go_ret
    exact ⟨rfl, Below.refl _ _⟩
  have hb : ls.length ≤ 60 := by omega
  have HR := hid hr; have HB := hid hbd; have HS := hid hs0
  clear hr hs0 hbd h60
  go_enter Tryd.func8, Tryd.ntmps8
  go_wp2_with fail
  with_reducible refine (redges_out HS.out HR.out (by omega)).mono ?_
  rintro e w1 ⟨u1, la, f, p, rfl, hO1, hs1⟩
  have H1 := hid (hs1.alloc #[.int .i64 f, .int .i64 p] 79)
  clear hs1 HS
  go_wp2_with fail
  with_reducible refine (rline_out H1.out (RdK.more (RdK.more HR.out _) _) (by omega)).mono ?_
  rintro e w2 ⟨u2, lb, g, q, rfl, hO2, hs2⟩
  have H2 := hid (hs2.alloc #[.int .i64 g, .int .i64 q] 79)
  clear hs2 H1
  go_wp2_with fail
  with_reducible refine (edges_out H2.out (RdK.more (RdK.more (RdK.more (RdK.more HR.out _) _) _) _) (by omega) HB.out).mono ?_
  rintro e w3 ⟨u3, lx, v3, x3, rfl, hO3, hs3⟩
  have H3 := hid hs3
  clear hs3 H2
  go_wp2_with fail
  with_reducible refine (line_out H3.out (RdK.more (RdK.more (RdK.more (RdK.more (RdK.more (RdK.more HR.out _) _) _) _) _) _) (by omega) HB.out).mono ?_
  rintro e w4 ⟨u4, ly, v4, x4, rfl, hy9, hO4, hs4⟩
  obtain ⟨rfl, rfl, rfl⟩ := hO1.one hO3
  obtain ⟨rfl, rfl, rfl⟩ := hO2.one hO4
  have i3 : isE x3 (Err.errno x3) (Err.place x3) = true := by simp [isE]
  have i4 : isE x4 (Err.errno x4) (Err.place x4) = true := by simp [isE]
  have hs5 : S w0 w4 (errP 44 106 105 v3 x3 :: errP 44 106 105 v4 x4 :: sl 31 2 u3 la.length (pcells la) :: sl 31 2 u1 la.length (pcells la) :: sl 3 1 u4 lb.length (icells lb) :: sl 3 1 u2 lb.length (icells lb) :: blk w1.heap.size 79 [.int .i64 (Err.errno x3), .int .i64 (Err.place x3)] :: blk w2.heap.size 79 [.int .i64 (Err.errno x4), .int .i64 (Err.place x4)] :: []) := hs4.conv (by simp only [all]; ac_rfl)
  generalize hf3 : Err.errno x3 = f3 at *
  generalize hp3 : Err.place x3 = p3 at *
  generalize hf4 : Err.errno x4 = f4 at *
  generalize hp4 : Err.place x4 = p4 at *
  have hfa : ∀ W, S w0 W (errP 44 106 105 v3 x3 :: errP 44 106 105 v4 x4 :: sl 31 2 u3 la.length (pcells la) :: sl 31 2 u1 la.length (pcells la) :: sl 3 1 u4 lb.length (icells lb) :: sl 3 1 u2 lb.length (icells lb) :: blk w1.heap.size 79 [.int .i64 f3, .int .i64 p3] :: blk w2.heap.size 79 [.int .i64 f4, .int .i64 p4] :: []) → W.cell? ⟨w1.heap.size, 0, none⟩ = some (.int .i64 f3) ∧ W.cell? ⟨w1.heap.size, 1, none⟩ = some (.int .i64 p3) ∧ W.cell? ⟨w2.heap.size, 0, none⟩ = some (.int .i64 f4) ∧ W.cell? ⟨w2.heap.size, 1, none⟩ = some (.int .i64 p4) := fun W h =>
    ⟨h.tail.tail.tail.tail.tail.tail.blk_cell 0 rfl, h.tail.tail.tail.tail.tail.tail.blk_cell 1 rfl, h.tail.tail.tail.tail.tail.tail.tail.blk_cell 0 rfl, h.tail.tail.tail.tail.tail.tail.tail.blk_cell 1 rfl⟩
  obtain ⟨a0, a1, a2, a3⟩ := hfa _ hs5
  have hc3 := is_any x3 v3 f3 p3 w0 w4 _ hE hs5
  rw [i3] at hc3
  have hcw : ∀ W, S w0 W (errP 44 106 105 v3 x3 :: errP 44 106 105 v4 x4 :: sl 31 2 u3 la.length (pcells la) :: sl 31 2 u1 la.length (pcells la) :: sl 3 1 u4 lb.length (icells lb) :: sl 3 1 u2 lb.length (icells lb) :: blk w1.heap.size 79 [.int .i64 f3, .int .i64 p3] :: blk w2.heap.size 79 [.int .i64 f4, .int .i64 p4] :: []) → Calls Tryd.prog 37 #[u3, u1] W fun e w' => e = .returned (.bool true) ∧ S w0 w' (errP 44 106 105 v3 x3 :: errP 44 106 105 v4 x4 :: sl 31 2 u3 la.length (pcells la) :: sl 31 2 u1 la.length (pcells la) :: sl 3 1 u4 lb.length (icells lb) :: sl 3 1 u2 lb.length (icells lb) :: blk w1.heap.size 79 [.int .i64 f3, .int .i64 p3] :: blk w2.heap.size 79 [.int .i64 f4, .int .i64 p4] :: []) := fun W h => by
    have := sameWrites_any w0 W u3 u1 la la _ h (fun W2 h2 => RdK.own W2 h2.tail.tail) (fun W2 h2 => RdK.own W2 h2.tail.tail.tail)
    simpa using this
  have hc4 : ∀ W, S w0 W (errP 44 106 105 v3 x3 :: errP 44 106 105 v4 x4 :: sl 31 2 u3 la.length (pcells la) :: sl 31 2 u1 la.length (pcells la) :: sl 3 1 u4 lb.length (icells lb) :: sl 3 1 u2 lb.length (icells lb) :: blk w1.heap.size 79 [.int .i64 f3, .int .i64 p3] :: blk w2.heap.size 79 [.int .i64 f4, .int .i64 p4] :: []) → Calls Tryd.prog 29 #[v4, .agg #[.int .i64 f4, .int .i64 p4]] W fun e w' => e = .returned (.bool true) ∧ S w0 w' (errP 44 106 105 v4 x4 :: errP 44 106 105 v3 x3 :: sl 31 2 u3 la.length (pcells la) :: sl 31 2 u1 la.length (pcells la) :: sl 3 1 u4 lb.length (icells lb) :: sl 3 1 u2 lb.length (icells lb) :: blk w1.heap.size 79 [.int .i64 f3, .int .i64 p3] :: blk w2.heap.size 79 [.int .i64 f4, .int .i64 p4] :: []) := fun W h => by
    have := is_any x4 v4 f4 p4 w0 W _ hE h.swap
    rwa [i4] at this
  have hci : ∀ W, S w0 W (errP 44 106 105 v4 x4 :: errP 44 106 105 v3 x3 :: sl 31 2 u3 la.length (pcells la) :: sl 31 2 u1 la.length (pcells la) :: sl 3 1 u4 lb.length (icells lb) :: sl 3 1 u2 lb.length (icells lb) :: blk w1.heap.size 79 [.int .i64 f3, .int .i64 p3] :: blk w2.heap.size 79 [.int .i64 f4, .int .i64 p4] :: []) → Calls Tryd.prog 35 #[u4, u2] W fun e w' => e = .returned (.bool true) ∧ S w0 w' (errP 44 106 105 v4 x4 :: errP 44 106 105 v3 x3 :: sl 31 2 u3 la.length (pcells la) :: sl 31 2 u1 la.length (pcells la) :: sl 3 1 u4 lb.length (icells lb) :: sl 3 1 u2 lb.length (icells lb) :: blk w1.heap.size 79 [.int .i64 f3, .int .i64 p3] :: blk w2.heap.size 79 [.int .i64 f4, .int .i64 p4] :: []) := fun W h => by
    have := same_any w0 W u4 u2 lb lb _ h (fun W2 h2 => RdK.own W2 h2.tail.tail.tail.tail) (fun W2 h2 => RdK.own W2 h2.tail.tail.tail.tail.tail) (by omega)
    simpa using this
  have HC3 := hid hc3; have HCW := hid hcw; have HC4 := hid hc4; have HCI := hid hci; have HFA := hid hfa
  clear hO1 hO2 hO3 hO4 hs4 hs5 H3 hc3 hcw hc4 hci hfa hf3 hp3 hf4 hp4 i3 i4 HR HB
  go_wp2_with (go_at_call 29; with_reducible refine HC3.out.mono ?_; rintro e w5 ⟨rfl, hs6⟩; obtain ⟨b0, b1, b2, b3⟩ := HFA.out _ hs6; have HW := hid (HCW.out _ hs6); clear hs6)
  with_reducible refine HW.out.mono ?_
  rintro e w6 ⟨rfl, hs7⟩
  obtain ⟨c0, c1, c2, c3⟩ := HFA.out _ hs7
  have H7 := hid (HC4.out _ hs7)
  clear hs7
  go_wp2_with fail
  with_reducible refine H7.out.mono ?_
  rintro e w7 ⟨rfl, hs8⟩
  have H8 := hid (HCI.out _ hs8)
  clear hs8
  go_wp2_with fail
  with_reducible refine H8.out.mono ?_
  rintro e w8 ⟨rfl, hs9⟩
  have H9 := hid hs9
  clear hs9
  go_wp2_with fail
  go_ret
  exact ⟨rfl, H9.out.1⟩
end Go.Proofs.YthdiphfbjlooaaaDoor
