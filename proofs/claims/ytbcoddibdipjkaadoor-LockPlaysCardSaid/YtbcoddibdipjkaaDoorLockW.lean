/- The program's table of locks: the readers' walks. -/
import Derived.Test.YtbcoddibdipjkaaDoorStoreW3
import Derived.Test.YtbcoddibdipjkaaDoorMovesLaw
namespace Go.Proofs.YtbcoddibdipjkaaDoor
open Go Go.RowKit Go.Sep

theorem Tryd.zero_int (w : World) : (zeroValue 3).run Tryd.prog w = .ok (.int .i64 0) w := by kernel_rfl
theorem Tryd.zero_ints (w : World) : (zeroValue 41).run Tryd.prog w = .ok (.slice none 0 0) w := by kernel_rfl
theorem Tryd.keyInt : KeyOk Tryd.prog 3 encI (fun _ => True) := keyOk_int Tryd.underlying3
theorem getD_ienc (o : Option Int) : (o.map encI).getD (.int .i64 0) = .int .i64 (o.getD 0) := by cases o <;> rfl

/-- A lookup in one of the table's maps of numbers. -/
theorem Tryd.look2 {w : World} {b : Nat} {D : List (Int × Int)} (h : MapAt encI (fun _ => True) w b (ienc D)) (k : Int) :
    (Instr.lookup 48 (.map (some b)) (.int .i64 k) true).run Tryd.prog w = .ok (.tuple #[.int .i64 ((mget D k).getD 0), .bool (mget D k).isSome]) w := by
  have := run_lookup_at Tryd.keyInt Tryd.underlying48 (Tryd.zero_int w) h k trivial true
  rw [ienc_get, getD_ienc] at this
  simpa [encI] using this
theorem Tryd.look1 {w : World} {b : Nat} {D : List (Int × Int)} (h : MapAt encI (fun _ => True) w b (ienc D)) (k : Int) :
    (Instr.lookup 48 (.map (some b)) (.int .i64 k) false).run Tryd.prog w = .ok (.int .i64 ((mget D k).getD 0)) w := by
  have := run_lookup_at Tryd.keyInt Tryd.underlying48 (Tryd.zero_int w) h k trivial false
  rw [ienc_get, getD_ienc] at this
  simpa [encI] using this
theorem Tryd.look2n (w : World) (k : Int) : (Instr.lookup 48 (.map none) (.int .i64 k) true).run Tryd.prog w = .ok (.tuple #[.int .i64 0, .bool false]) w := by
  have := run_lookup_nil Tryd.keyInt Tryd.underlying48 (Tryd.zero_int w) k trivial true
  simpa [encI] using this
theorem Tryd.look1n (w : World) (k : Int) : (Instr.lookup 48 (.map none) (.int .i64 k) false).run Tryd.prog w = .ok (.int .i64 0) w := by
  have := run_lookup_nil Tryd.keyInt Tryd.underlying48 (Tryd.zero_int w) k trivial false
  simpa [encI] using this
theorem Tryd.lookL {w : World} {b : Nat} {E : List (Int × (Value × List Int))} (h : MapAt encI (fun _ => True) w b (E.map fun p => (p.1, p.2.1))) (k : Int) :
    (Instr.lookup 49 (.map (some b)) (.int .i64 k) false).run Tryd.prog w = .ok (lineOf E k).1 w := by
  have := run_lookup_at Tryd.keyInt Tryd.underlying49 (Tryd.zero_ints w) h k trivial false
  rw [mget_map (fun x : Value × List Int => x.1)] at this
  have e : ((mget E k).map fun x => x.1).getD (.slice none 0 0) = (lineOf E k).1 := by unfold lineOf; cases mget E k <;> rfl
  rw [e] at this
  simpa [encI] using this
theorem Tryd.lookLn (w : World) (k : Int) : (Instr.lookup 49 (.map none) (.int .i64 k) false).run Tryd.prog w = .ok (.slice none 0 0) w := by
  have := run_lookup_nil Tryd.keyInt Tryd.underlying49 (Tryd.zero_ints w) k trivial false
  simpa [encI] using this

theorem tholds_any (w0 w : World) (T b o : Nat) (t : Tbl) (key : Int) (L : List HProp) (hs : S w0 w (tabP T b o t :: L)) :
    Calls Tryd.prog 19 #[.pointer (some ⟨b, o, none⟩), .int .i64 key] w fun e w' => e = .returned (.int .i64 ((mget t.hold key).getD 0)) ∧ w = w' := by
  rcases hs.tab_cases with h0 | ⟨bh, bl, bb, E, h⟩
  · obtain ⟨rfl, h1⟩ := h0.tab0_cells
    have hc : w.cell? ⟨b, o + 0, none⟩ = some (.map none) := S.cells_cell (vs := [.map none, .map none, .map none]) h1 0 rfl
    rw [Nat.add_zero] at hc
    have hl := Tryd.look1n w key
    clear hs h0 h1
    go_enter Tryd.func19, Tryd.ntmps19
    go_wp2
    go_ret
    exact ⟨rfl, rfl⟩
  · obtain ⟨hc, _, _, hm, _, _⟩ := h.tab_see
    have hl := Tryd.look1 hm key
    clear hs h hm
    go_enter Tryd.func19, Tryd.ntmps19
    go_wp2
    go_ret
    exact ⟨rfl, rfl⟩

theorem twaits_any (w0 w : World) (T b o : Nat) (t : Tbl) (x : Int) (L : List HProp) (hs : S w0 w (tabP T b o t :: L)) :
    Calls Tryd.prog 21 #[.pointer (some ⟨b, o, none⟩), .int .i64 x] w fun e w' => e = .returned (.int .i64 ((mget t.wait x).getD (-1))) ∧ w = w' := by
  rcases hs.tab_cases with h0 | ⟨bh, bl, bb, E, h⟩
  · obtain ⟨rfl, h1⟩ := h0.tab0_cells
    have hc : w.cell? ⟨b, o + 2, none⟩ = some (.map none) := S.cells_cell (vs := [.map none, .map none, .map none]) h1 2 rfl
    have hl := Tryd.look2n w x
    clear hs h0 h1
    go_enter Tryd.func21, Tryd.ntmps21
    go_wp2
    go_ret
    exact ⟨rfl, rfl⟩
  · obtain ⟨_, _, hc, _, hm, _⟩ := h.tab_see
    have hl := Tryd.look2 hm x
    clear hs h hm
    cases hg : mget t.wait x with
    | none =>
      rw [hg] at hl
      simp only [Option.getD_none, Option.isSome_none] at hl
      go_enter Tryd.func21, Tryd.ntmps21
      go_wp2
      go_ret
      exact ⟨rfl, rfl⟩
    | some y =>
      rw [hg] at hl
      simp only [Option.getD_some, Option.isSome_some] at hl
      go_enter Tryd.func21, Tryd.ntmps21
      go_wp2
      go_ret
      exact ⟨rfl, rfl⟩

set_option maxRecDepth 20000 in
set_option maxHeartbeats 4000000 in
/-- The maps, if there are none yet. -/
theorem tbegin_any (w0 w : World) (T b o : Nat) (t : Tbl) (L : List HProp) (hs : S w0 w (tabP T b o t :: L)) :
    Calls Tryd.prog 51 #[.pointer (some ⟨b, o, none⟩)] w fun e w' => e = .returned (.tuple #[]) ∧ ∃ bh bl bb E, S w0 w' (tabM T b o bh bl bb E t :: L) := by
  have heq := fun w r => run_eql_map_nil (P := Tryd.prog) w 48 3 3 r Tryd.underlying48
  rcases hs.tab_cases with h0 | ⟨bh, bl, bb, E, h⟩
  · obtain ⟨rfl, h1⟩ := h0.tab0_cells
    have s3 := (((h1.made (κ := Int) (enc := encI) (ok := fun _ => True)).made (κ := Int) (enc := encI) (ok := fun _ => True)).made (κ := Int) (enc := encI) (ok := fun _ => True)).rot4
    have c0 : w.cell? ⟨b, o + 0, none⟩ = some (.map none) := S.cells_cell (vs := [.map none, .map none, .map none]) h1 0 rfl
    have e : ∀ j < 3, ([.map none, .map none, .map none] : List Value)[j]? = some (.map none) := fun j hj => by match j, hj with | 0, _ => rfl | 1, _ => rfl | 2, _ => rfl
    have hc0 := And.intro (S.cells_cell (vs := [.map none, .map none, .map none]) s3 0 (e 0 (by omega))) (S.cells_free (vs := [.map none, .map none, .map none]) s3 0 (e 0 (by omega)))
    have hc1 := And.intro (S.cells_cell (vs := [.map none, .map none, .map none]) s3 1 (e 1 (by omega))) (S.cells_free (vs := [.map none, .map none, .map none]) s3 1 (e 1 (by omega)))
    have hc2 := And.intro (S.cells_cell (vs := [.map none, .map none, .map none]) s3 2 (e 2 (by omega))) (S.cells_free (vs := [.map none, .map none, .map none]) s3 2 (e 2 (by omega)))
    rw [Nat.add_zero] at hc0 c0
    obtain ⟨d0, f0⟩ := hc0
    obtain ⟨d1, f1⟩ := hc1
    obtain ⟨d2, f2⟩ := hc2
    have hmm := @run_makeMap Tryd.prog
    have hfs := World.frozen?_setCell
    have H := hid s3
    clear hs h0 h1 e s3
    go_enter Tryd.func51, Tryd.ntmps51
    go_wp2
    go_end0
    refine ⟨rfl, w.heap.size, w.heap.size + 1, w.heap.size + 1 + 1, [], ?_⟩
    have s4 := ((H.out.set 0 (by simp) (.map (some w.heap.size))).set 1 (by simp) (.map (some (w.heap.size + 1)))).set 2 (by simp) (.map (some (w.heap.size + 1 + 1)))
    simp only [List.set_cons_zero, List.set_cons_succ, Nat.add_zero, World.size_alloc] at s4
    refine S.tab_join rfl (s4.conv ?_)
    simp only [ienc, List.map_nil, all, emp_sep]
    rw [sep_left_comm (mp _ _ (w.heap.size + 1) _) (mp _ _ w.heap.size _), sep_left_comm (mp _ _ (w.heap.size + 1 + 1) _) (mp _ _ w.heap.size _)]
  · obtain ⟨hc, _, _, _, _, _⟩ := h.tab_see
    clear hs
    have H := hid h
    clear h
    go_enter Tryd.func51, Tryd.ntmps51
    go_wp2
    go_end0
    exact ⟨rfl, bh, bl, bb, E, H.out⟩
end Go.Proofs.YtbcoddibdipjkaaDoor
