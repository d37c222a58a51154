/- order.Edges: its closures, the search, the sort. -/
import Derived.Test.YthdiphfbjlooaaaDoorOrdC
import Derived.Test.YthdiphfbjlooaaaDoorSortW
import Derived.Test.YthdiphfbjlooaaaDoorCells
import Derived.Test.YthdiphfbjlooaaaDoorArgs
import Derived.Deep.LoopGhost
namespace Go.Sep
open Go Go.RowKit Go.Sort Go.Proofs Go.Shelf
/-- What the sort asks of an owned slice whose elements have several cells, and what stands behind it. -/
theorem S.sl_row {w w0 : World} {L : List HProp} {e size n g o cap : Nat} {xs : List Value} (h : S w0 w (sl e size (.slice (some ⟨g, o, none⟩) n cap) n xs :: L)) : Holds id w g o xs.toArray ∧ g < w.heap.size ∧
    ∀ (ys : List Value) (k : Nat) (os : Array Obj), ys.length = xs.length → S w0 (grow (putRow id (Sort.ahead w k) g o ys.toArray) os) (sl e size (.slice (some ⟨g, o, none⟩) n cap) n ys :: L) := by
  rcases h.sl_elim with ⟨hv, _⟩ | ⟨g', cap', pre, sp, post, hp, hb⟩
  · simp at hv
  have hv := hp.val
  simp at hv
  obtain ⟨⟨rfl, rfl⟩, rfl⟩ := hv
  refine ⟨fun j hj => ?_, hb.blk_lt, fun ys k os hm => ?_⟩
  · have hj' : j < xs.length := by simpa using hj
    refine ⟨?_, hb.blk_free _⟩
    refine hb.blk_cell (pre.length + j) ?_
    rw [List.getElem?_append_right (by omega), Nat.add_sub_cancel_left, List.getElem?_append_left hj']
    simp [hj']
  · have hh := hb.blk_heap
    have h1 := heap_putRow (w := w) id (off := pre.length) (n := k) (os := os) ys.toArray hh
    have e1 : putCells id pre.length ys.toArray (pre ++ (xs ++ (sp ++ post))).toArray = (pre ++ (ys ++ (sp ++ post))).toArray := by
      apply Array.toList_inj.1
      have := putCells_mid id pre (sp ++ post) xs ys hm
      simpa using this
    rw [e1] at h1
    have h2 := hb.blk_turn (grownBy_putRow id (off := pre.length) (n := k) (os := os) ys.toArray) h1
    exact .sl_intro ⟨rfl, by rw [hm, hp.len], by have := hp.room; omega, hp.le, hp.max⟩ h2
theorem flatK_eq {α : Type} [Inhabited α] (enc : α → List Value) (k : Nat) (hk : ∀ x, (enc x).length = k) (hk0 : 0 < k) (l : List α) : flatK enc k l.toArray = (l.flatMap enc).toArray := by
  apply Array.toList_inj.1
  have hlen : (l.flatMap enc).length = l.length * k := by
    induction l with
    | nil => simp
    | cons a l ih => simp [hk, Nat.add_mul, ih]; omega
  apply List.ext_getElem?
  intro t
  by_cases ht : t < l.length * k
  · have hq : t / k < l.length := by rw [Nat.div_lt_iff_lt_mul hk0]; exact ht
    have hr := Nat.mod_lt t hk0
    have h1 : (flatK enc k l.toArray).toList[t]? = some ((enc l[t / k])[t % k]'(by rw [hk]; exact hr)) := by
      have := get_flatK enc k l.toArray t (by simpa using ht)
      rw [Array.getElem?_toList, Array.getElem?_eq_getElem (by simpa using ht)]
      congr 1
      rw [← getElem!_pos (flatK enc k l.toArray) t (by simpa using ht), this]
      rw [getElem!_pos l.toArray (t / k) (by simpa using hq)]
      rw [getElem!_pos _ (t % k) (by rw [hk]; exact hr)]
      simp
    rw [h1]
    have h2 := fcells_at (f := enc) hk (l := l) (j := t / k) (a := l[t / k]) (c := t % k) (u := (enc l[t / k])[t % k]'(by rw [hk]; exact hr)) (by simp [hq]) (by simp [hk, hr])
    rw [show t / k * k + t % k = t by rw [Nat.mul_comm]; exact Nat.div_add_mod t k] at h2
    unfold fcells at h2
    simpa using h2.symm
  · have h3 : (l.flatMap enc).length ≤ t := by rw [hlen]; omega
    rw [List.getElem?_eq_none (by simpa using ht), List.getElem?_eq_none (by simpa only [List.size_toArray] using h3)]
end Go.Sep
namespace Go.Proofs.YthdiphfbjlooaaaDoor
open Go Go.RowKit Go.Sep Go.Shelf Go.Lib Go.Sort

def ocells (o : Op1) : List Value := [.int .i64 o.tx, .int .i64 o.key, .bool o.wr, .int .i64 o.fr]
instance : Inhabited Op1 := ⟨⟨0, 0, false, 0⟩⟩

/-- 'o.Tx < 1 ..'. -/
theorem bad_pred (w : World) : PredBelow Tryd.prog 57 #[] (fun o => .agg (ocells o).toArray) badOp w := fun W x hb => by
  obtain ⟨tx, key, wr, fr⟩ := x
  show Calls Tryd.prog 57 #[.agg #[.int .i64 tx, .int .i64 key, .bool wr, .int .i64 fr]] W _
  have hbad : badOp ⟨tx, key, wr, fr⟩ = (decide (tx < 1) || decide (fr < 0) || decide (key < 0) || decide (10 ≤ key)) := by simp [badOp, Bool.decide_or, Bool.or_assoc]
  rw [hbad]
  clear hbad
  have hfin := hb.alloc hb.size (.cells #[.int .i64 tx, .int .i64 key, .bool wr, .int .i64 fr] 65)
  have HB := hid hfin
  clear hfin hb
  go_enter Tryd.func57, Tryd.ntmps57
  go_wp2
  all_goals (go_ret; exact ⟨by simp_all, HB.out⟩)

set_option maxRecDepth 40000 in
set_option maxHeartbeats 4000000 in
theorem add_any (w0 w : World) (bx : Nat) (l : List (Int × Int)) (a b : Int) (L : List HProp) (hs : S w0 w (outP 29 31 bx l :: L)) (hb : l.length ≤ 1000000) :
    Calls Tryd.prog 58 #[.int .i64 a, .int .i64 b, .pointer (some ⟨bx, 0, none⟩)] w fun e w' => e = .returned (.tuple #[]) ∧ S w0 w' (outP 29 31 bx (l ++ addE a b) :: L) := by
  by_cases h : a ≠ b ∧ a ≠ 0
  · have ha : addE a b = [(a, b)] := by unfold addE; rw [if_pos h]
    have h1 : (a != b) = true := by simpa using h.1
    have h2 : (a != 0) = true := by simpa using h.2
    rw [ha]
    obtain ⟨v, hv⟩ := hs.out_elim
    have c0 := hv.blk_cell 0 rfl
    obtain ⟨av, cv, rfl, _, _, _⟩ := hv.swap.sl_val
    have hs7 := hv.swap.alloc #[.int .i64 a, .int .i64 b] 31
    have hn7 := news_blk hs7
    have hs8 := hs7.tail
    obtain ⟨i0, hi0, hz0, hz1, hz2⟩ := info_parts Tryd.info31
    have hpl := pcells_length l
    have H8 := hid hs8; have HN := hid hn7; have HL := hid hpl
    clear hs hv hs7 hs8 hn7 h ha hpl
    go_enter Tryd.func58, Tryd.ntmps58
    go_wp2_with (at_builtin; refine wpList_append rfl (.tmp 12) (.tmp 16) 29 rfl 31 i0 (.agg #[.int .i64 0, .int .i64 0]) 2 16 Tryd.underlying29 hi0 hz0 hz1 hz2 rfl (by decide) H8.out rfl (some ⟨w.heap.size, 0, none⟩) 1 1 [.int .i64 a, .int .i64 b] rfl rfl HN.out (by simp [Value.oneCell']) (by unfold maxLen; omega) (by omega) ?_; intro v1 w5 hs6; obtain ⟨a6, c6', rfl, _, _, _⟩ := hs6.sl_val; have c6 := hs6.swap.blk_cell 0 rfl; have f6 := hs6.swap.blk_free 0; have H6 := hid hs6; clear hs6)
    go_end0
    refine ⟨rfl, S.out_intro (v := .slice a6 (l.length + 1) c6') ?_⟩
    have h9 := H6.out.swap.blk_set 0 (by simp) (.slice a6 (l.length + 1) c6')
    rw [List.length_append, pcells_append]
    exact h9
  · have ha : addE a b = [] := by unfold addE; rw [if_neg h]
    rw [ha, List.append_nil]
    have H := hid hs
    clear hs ha
    by_cases h1 : a = b
    · subst h1
      clear h
      go_enter Tryd.func58, Tryd.ntmps58
      go_wp2_with fail
      go_end0
      exact ⟨rfl, H.out⟩
    · have h0 : a = 0 := by
        by_cases h0 : a = 0
        · exact h0
        · exact absurd ⟨h1, h0⟩ h
      subst h0
      have h1 : ((0 : Int) != b) = true := by simpa using h1
      clear h
      go_enter Tryd.func58, Tryd.ntmps58
      go_wp2_with fail
      go_end0
      exact ⟨rfl, H.out⟩

/-- The numbers that the sort meets. -/
abbrev W2 : Type := { p : Int × Int // (0 ≤ p.1 ∧ p.1 ≤ 9223372036854775807) ∧ (0 ≤ p.2 ∧ p.2 ≤ 9223372036854775807) }
instance : Inhabited W2 := ⟨⟨(0, 0), by omega⟩⟩
def encW (p : W2) : List Value := [.int .i64 p.1.1, .int .i64 p.1.2]
def cfW (p q : W2) : Int := if p.1.1 ≠ q.1.1 then p.1.1 - q.1.1 else p.1.2 - q.1.2
instance (a b : Int × Int) : Decidable (ltP a b) := by unfold ltP; infer_instance
theorem ltW (p q : W2) : ltOf cfW p q = decide (ltP p.1 q.1) := by
  unfold ltOf cfW ltP
  by_cases h : p.1.1 = q.1.1
  · simp [h]; omega
  · simp [h]; omega
theorem swoW : SWO (ltOf cfW) where
  irrefl x := by rw [ltW]; simpa using ltP.irrefl x.1
  trans x y z h1 h2 := by rw [ltW] at *; simp only [decide_eq_true_eq] at *; exact h1.trans h2
  ntrans x y z h1 h2 := by rw [ltW, decide_eq_false_iff_not] at *; unfold ltP at *; omega
theorem totW (x y : W2) (h : ltOf cfW x y = false) (h2 : ltOf cfW y x = false) : x = y := by
  rw [ltW, decide_eq_false_iff_not] at *
  unfold ltP at *
  exact Subtype.ext (Prod.ext (by omega) (by omega))

set_option maxRecDepth 40000 in
set_option maxHeartbeats 4000000 in
theorem cmp_any (x y : W2) (W : World) : Calls Tryd.prog 61 #[.agg (encW x).toArray, .agg (encW y).toArray] W fun e w' => e = .returned (.int .i64 (cfW x y)) ∧ ∃ q os', w' = grow (W.drewN q) os' := by
  obtain ⟨⟨a, b⟩, ⟨ha0, ha1⟩, hb0, hb1⟩ := x
  obtain ⟨⟨c, d⟩, ⟨hc0, hc1⟩, hd0, hd1⟩ := y
  show Calls Tryd.prog 61 #[.agg #[.int .i64 a, .int .i64 b], .agg #[.int .i64 c, .int .i64 d]] W fun e w' => e = .returned (.int .i64 (if a ≠ c then a - c else b - d)) ∧ ∃ q os', w' = grow (W.drewN q) os'
  by_cases h : a = c
  · subst h
    go_enter Tryd.func61, Tryd.ntmps61
    go_wp2_with fail
    go_ret
    exact ⟨by simp, 0, _, by rw [alloc_eq_grow, alloc_eq_grow, grow_grow]; rfl⟩
  · have h1 : (a != c) = true := by simpa using h
    go_enter Tryd.func61, Tryd.ntmps61
    go_wp2_with fail
    go_ret
    exact ⟨by simp, 0, _, by rw [alloc_eq_grow, alloc_eq_grow, grow_grow]; rfl⟩
end Go.Proofs.YthdiphfbjlooaaaDoor
