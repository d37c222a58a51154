/- The program's table of locks: who stands in line. -/
import Derived.Test.YtbcoddibdipjkaaDoorLockW
namespace Go.Proofs.YtbcoddibdipjkaaDoor
open Go Go.RowKit Go.Sep

theorem rdk_nil {w0 : World} {L : List HProp} : RdK w0 L (.slice none 0 0) ([] : List Int).length (icells []) := fun _ _ => ⟨none, 0, rfl, Nat.le_refl _, Nat.zero_le _, by simp [icells]⟩

set_option maxRecDepth 40000 in
theorem clone_ints (w0 w : World) (v : Value) (l : List Int) (L : List HProp) (hs : S w0 w L) (hr : RdK w0 L v l.length (icells l)) (hb : l.length ≤ 4000000) :
    Calls Tryd.prog 55 #[v] w fun e w' => ∃ v', e = .returned v' ∧ S w0 w' (sl 3 1 v' l.length (icells l) :: L) := by
  obtain ⟨a, cap, rfl, hcap, hcap2, hrd⟩ := hr w hs
  have heq := fun w => Lib.run_eql_slice_nil (P := Tryd.prog) w 41 3 a l.length cap 0 0 Tryd.underlying41
  have hlp : (icells l).length = l.length * 1 := by rw [Nat.mul_one]; exact icells_length l
  clear hcap2
  cases a with
  | none =>
    have hl0 : l = [] := by
      apply List.eq_nil_of_length_eq_zero
      rcases Nat.eq_zero_or_pos l.length with h | h
      · exact h
      · obtain ⟨b, o, hb, _⟩ := hrd 0 ((icells l)[0]'(by omega)) (by simp)
        cases hb
    subst hl0
    simp only [List.length_nil] at heq
    have hfin : S w0 w (sl 3 1 (.slice none 0 0) 0 [] :: L) := hs.sl_nil
    have HF := hid hfin; clear hfin hs hr hrd hlp
    go_enter Tryd.func55, Tryd.ntmps55
    go_wp2_with fail
    go_ret
    exact ⟨_, rfl, HF.out⟩
  | some a =>
    obtain ⟨i0, hi0, hz0, hz1, hz2⟩ := info_parts Tryd.info3
    have hs1 : S w0 (w.alloc (.cells #[] 3)) (sl 3 1 (.slice (some ⟨w.heap.size, 0, none⟩) 0 0) 0 [] :: L) := (hs.alloc #[] 3).sl_blk (n := 0) (by simp) (by simp)
    have hn1 : ∀ j u, (icells l)[j]? = some u → ∃ b, some a = some b ∧ (w.alloc (.cells #[] 3)).cell? (b.add j) = some u := by
      intro j u hj
      obtain ⟨b, o, hb, hc⟩ := hrd j u hj
      cases hb
      refine ⟨_, rfl, ?_⟩
      have e1 : (⟨b, o, none⟩ : Addr).add j = ⟨b, o + j, none⟩ := by unfold Addr.add; split <;> simp_all
      rw [e1, World.cell?_alloc_lt _ _ _ (World.block_lt_of_cell? w _ hc)]; exact hc
    have hone : ∀ u ∈ icells l, u.oneCell' = true := by
      intro u hu; simp only [icells, List.mem_map] at hu
      obtain ⟨p, _, rfl⟩ := hu
      rfl
    have H1 := hid hs1; have H2 := hid hn1; have H3 := hid hone; have H4 := hid hlp
    clear hs1 hn1 hone hs hr hrd hlp
    go_enter Tryd.func55, Tryd.ntmps55
    go_wp2_with (at_builtin; refine wpList_append rfl (.tmp 5) (.tmp 6) 41 rfl 3 i0 _ 1 8 Tryd.underlying41 hi0 hz0 hz1 hz2 rfl (by decide) H1.out rfl (some a) l.length cap (icells l) rfl H4.out H2.out H3.out (by unfold maxLen; omega) (by omega) ?_; intro v1 w1 hs1; have HS := hid hs1; clear hs1)
    go_ret
    exact ⟨_, rfl, by simpa using HS.out⟩


theorem line_of {E : List (Int × (Value × List Int))} {t : Tbl} (h : E.map (fun p => (p.1, p.2.2)) = t.line) (k : Int) : (lineOf E k).2 = (mget t.line k).getD [] := by
  rw [← h, mget_map (fun x : Value × List Int => x.2)]
  unfold lineOf
  cases mget E k <;> rfl

theorem tline_any (w0 w : World) (b o : Nat) (t : Tbl) (key : Int) (L : List HProp) (hs : S w0 w (tabP 3 b o t :: L)) (hb : ((mget t.line key).getD []).length ≤ 4000000) :
    Calls Tryd.prog 22 #[.pointer (some ⟨b, o, none⟩), .int .i64 key] w fun e w' => ∃ v', e = .returned v' ∧ S w0 w' (sl 3 1 v' ((mget t.line key).getD []).length (icells ((mget t.line key).getD [])) :: tabP 3 b o t :: L) := by
  rcases hs.tab_cases with h0 | ⟨bh, bl, bb, E, h⟩
  · obtain ⟨rfl, h1⟩ := h0.tab0_cells
    have hc : w.cell? ⟨b, o + 1, none⟩ = some (.map none) := S.cells_cell (vs := [.map none, .map none, .map none]) h1 1 rfl
    have hl := Tryd.lookLn w key
    have H := hid hs
    clear hs h0 h1
    go_enter Tryd.func22, Tryd.ntmps22
    go_wp2_with fail
    with_reducible refine (clone_ints w0 w (.slice none 0 0) [] _ H.out rdk_nil (by simp)).mono ?_
    rintro e w1 ⟨v1, rfl, hs1⟩
    have H1 := hid hs1
    clear H hs1
    go_wp2_with fail
    go_ret
    exact ⟨_, rfl, H1.out⟩
  · obtain ⟨hp, _⟩ := h.tab_parts
    obtain ⟨_, hc, _, _, _, hm⟩ := h.tab_see
    have hl := Tryd.lookL hm key
    have hx := line_of hp key
    have hk := h.tab_line key
    rw [← hx] at hb ⊢
    have H := hid hk
    clear hs h hm hk hp hx
    go_enter Tryd.func22, Tryd.ntmps22
    go_wp2_with fail
    with_reducible refine (clone_ints w0 w _ _ _ H.out RdK.own hb).mono ?_
    rintro e w1 ⟨v1, rfl, hs1⟩
    have H1 := hid hs1
    clear H hs1
    go_wp2_with fail
    go_ret
    exact ⟨_, rfl, H1.out.rot3.rot3.tabX_back.tab_made.swap⟩
end Go.Proofs.YtbcoddibdipjkaaDoor
