/- interleafkeep's fact ran: the walk. Condition: the package variable errors.errorType holds the handle of the type error. -/
import Derived.Test.YtcbokjocahnlcaaGreatDoorSt0
import Derived.Test.YtcbokjocahnlcaaGreatDoorSt9
import Derived.BigQuiet
import Derived.Test.YtcbokjocahnlcaaGreatDoorSt8
/- interleafkeep's tale: its memory. No walk in sight. -/
namespace Go.Proofs.YtcbokjocahnlcaaGreatDoor
open Go Go.RowKit Go.Sep
structure RecV where
 sv : Value
 mb : Nat
 rv : Value
def RecV.none : RecV := ⟨.slice Option.none 0 0, 0, .slice Option.none 0 0⟩
def recP (v : RecV) (r : Rec) : HProp := sep (sl 44 2 v.sv r.snap.length (pcells r.snap)) (sep (mp encI (fun _ => True) v.mb (ienc r.own)) (sl 67 2 v.rv r.reads.length (pcells r.reads)))
def recPs (vs : List RecV) (rs : List Rec) : List HProp := (List.range rs.length).map fun i => recP ((vs[i]?).getD .none) ((rs[i]?).getD .zero)
structure TaleV where
 lv : Value
 sv : Value
 ov : Value
 rv : Value
 bv : Value
 wv : Value
 vs : List RecV
def taleF (be : Nat) (k : TaleV) (t : Tale) : List Value := [.pointer (some ⟨be, 0, none⟩), k.lv, k.sv, k.ov, k.rv, k.bv, k.wv, .int .i64 t.steps, .int .i64 t.n, .bool t.broken]
def mapV (v : RecV) : Value := .map (some v.mb)
def taleB (b be : Nat) (k : TaleV) (t : Tale) : HProp :=
 sep (pur (k.vs.length = t.recs.length)) (sep (blk b 35 (taleF be k t)) (sep (sl 3 1 k.lv t.recs.length (icells (t.recs.map (·.level)))) (sep (sl 37 1 k.sv t.recs.length (k.vs.map (·.sv))) (sep (sl 57 1 k.ov t.recs.length (k.vs.map mapV))
  (sep (sl 65 1 k.rv t.recs.length (k.vs.map (·.rv))) (sep (sl 3 1 k.bv t.recs.length (icells (t.recs.map (·.begun)))) (sl 3 1 k.wv t.recs.length (icells (t.recs.map (·.over))))))))))
def taleK (b be : Nat) (k : TaleV) (t : Tale) : HProp := sep (taleB b be k t) (all (recPs k.vs t.recs))
def taleP (b be : Nat) (t : Tale) : HProp := ex fun k => taleK b be k t
variable {w w0 : World} {L : List HProp} {b be : Nat} {k : TaleV} {t : Tale} {i : Nat}
theorem recPs_length (vs : List RecV) (rs : List Rec) : (recPs vs rs).length = rs.length := by simp [recPs]
theorem recPs_get {vs : List RecV} {rs : List Rec} {i : Nat} (h : i < (recPs vs rs).length) : (recPs vs rs)[i] = recP ((vs[i]?).getD .none) ((rs[i]?).getD .zero) := by simp [recPs]
theorem recPs_set {vs : List RecV} {rs : List Rec} {i : Nat} (hi : i < rs.length) (hv : i < vs.length) (v : RecV) (r : Rec) : (recPs vs rs).set i (recP v r) = recPs (vs.set i v) (rs.set i r) := by
 apply List.ext_getElem (by simp [recPs])
 intro j h1 h2
 rw [List.getElem_set]
 simp only [recPs, List.getElem_map, List.getElem_range, List.length_set, List.getElem?_set]
 by_cases h : i = j
 ·subst h; simp [hi, hv]
 ·simp [h]
theorem recPs_snoc {vs : List RecV} {rs : List Rec} (h : vs.length = rs.length) (v : RecV) (r : Rec) : recPs (vs ++ [v]) (rs ++ [r]) = recPs vs rs ++ [recP v r] := by
 apply List.ext_getElem (by simp [recPs])
 intro j h1 h2
 rw [recPs_length, List.length_append, List.length_singleton] at h1
 simp only [recPs, List.getElem_map, List.getElem_range, List.getElem_append, List.length_map, List.length_range]
 by_cases hj : j < rs.length
 ·rw [dif_pos hj, List.getElem?_append_left (by omega), List.getElem?_append_left hj]
 ·obtain rfl : j = rs.length := by omega
  rw [dif_neg hj, List.getElem?_append_right (by omega), List.getElem?_append_right (by omega), h]
  simp
def TaleV.v (k : TaleV) (i : Nat) : RecV := (k.vs[i]?).getD .none
theorem _root_.Go.Sep.S.tale_open (h : S w0 w (taleP b be t :: L)) : ∃ k, S w0 w (taleB b be k t :: all (recPs k.vs t.recs) :: L) := by
 obtain ⟨k, h⟩ := h.ex_elim
 exact ⟨k, h.sep_elim⟩
theorem _root_.Go.Sep.S.tale_shut (h : S w0 w (taleB b be k t :: all (recPs k.vs t.recs) :: L)) : S w0 w (taleP b be t :: L) := .ex_intro k (.sep_intro h)
structure TaleC (w : World) (b be : Nat) (k : TaleV) (t : Tale) : Prop where
 len : k.vs.length = t.recs.length
 e : w.cell? ⟨b, 0, none⟩ = some (.pointer (some ⟨be, 0, none⟩))
 level : w.cell? ⟨b, 1, none⟩ = some k.lv
 snap : w.cell? ⟨b, 2, none⟩ = some k.sv
 own : w.cell? ⟨b, 3, none⟩ = some k.ov
 reads : w.cell? ⟨b, 4, none⟩ = some k.rv
 begun : w.cell? ⟨b, 5, none⟩ = some k.bv
 over : w.cell? ⟨b, 6, none⟩ = some k.wv
 steps : w.cell? ⟨b, 7, none⟩ = some (.int .i64 t.steps)
 n : w.cell? ⟨b, 8, none⟩ = some (.int .i64 t.n)
 broken : w.cell? ⟨b, 9, none⟩ = some (.bool t.broken)
 free : ∀ j, w.frozen? ⟨b, j, none⟩ = false
def RowAt (w : World) (v : Value) (n : Nat) (f : Nat → Value) : Prop := ∃ a cap, v = .slice a n cap ∧ n ≤ cap ∧ cap ≤ maxLen ∧ ∀ i, i < n → ∃ g o, a = some ⟨g, o, none⟩ ∧ w.cell? ⟨g, o + i, none⟩ = some (f i) ∧ w.frozen? ⟨g, o + i, none⟩ = false
theorem row_at {T n : Nat} {v : Value} {xs : List Value} {f : Nat → Value} (h : S w0 w (sl T 1 v n xs :: L)) (hf : ∀ i, i < n → xs[i]? = some (f i)) : RowAt w v n f := by
 obtain ⟨a, cap, h1, h2, h3, h4⟩ := h.sl_val
 exact ⟨a, cap, h1, h2, h3, fun i hi => h4 i _ (hf i hi)⟩
theorem _root_.Go.Sep.S.tale_parts (h : S w0 w (taleB b be k t :: L)) : k.vs.length = t.recs.length ∧ S w0 w (blk b 35 (taleF be k t) :: sl 3 1 k.lv t.recs.length (icells (t.recs.map (·.level))) :: sl 37 1 k.sv t.recs.length (k.vs.map (·.sv)) :: sl 57 1 k.ov t.recs.length (k.vs.map mapV) ::
  sl 65 1 k.rv t.recs.length (k.vs.map (·.rv)) :: sl 3 1 k.bv t.recs.length (icells (t.recs.map (·.begun))) :: sl 3 1 k.wv t.recs.length (icells (t.recs.map (·.over))) :: L) := by
 obtain ⟨h1, h2⟩ := h.sep_elim.pur_elim
 exact ⟨h1, h2.conv (by simp only [all]; ac_rfl)⟩
theorem _root_.Go.Sep.S.tale_join (hl : k.vs.length = t.recs.length) (h : S w0 w (blk b 35 (taleF be k t) :: sl 3 1 k.lv t.recs.length (icells (t.recs.map (·.level))) :: sl 37 1 k.sv t.recs.length (k.vs.map (·.sv)) :: sl 57 1 k.ov t.recs.length (k.vs.map mapV) ::
  sl 65 1 k.rv t.recs.length (k.vs.map (·.rv)) :: sl 3 1 k.bv t.recs.length (icells (t.recs.map (·.begun))) :: sl 3 1 k.wv t.recs.length (icells (t.recs.map (·.over))) :: L)) : S w0 w (taleB b be k t :: L) :=
 .sep_intro (.pur_intro hl (h.conv (by simp only [all]; ac_rfl)))
theorem rec_icell {g : Rec → Int} (hi : i < t.recs.length) : (icells (t.recs.map g))[i]? = some (.int .i64 (g (t.one i))) := by
 unfold Tale.one icells
 simp [hi]
theorem vs_get {α : Type} {g : RecV → α} (hl : k.vs.length = t.recs.length) (hi : i < t.recs.length) : (k.vs.map g)[i]? = some (g (k.v i)) := by
 have : i < k.vs.length := by omega
 unfold TaleV.v
 simp [this]
theorem _root_.Go.Sep.S.tale_see (h : S w0 w (taleB b be k t :: L)) : TaleC w b be k t ∧ RowAt w k.lv t.recs.length (fun i => .int .i64 (t.one i).level) ∧ RowAt w k.sv t.recs.length (fun i => (k.v i).sv) ∧ RowAt w k.ov t.recs.length (fun i => mapV (k.v i)) ∧ RowAt w k.rv t.recs.length (fun i => (k.v i).rv) ∧
  RowAt w k.bv t.recs.length (fun i => .int .i64 (t.one i).begun) ∧ RowAt w k.wv t.recs.length (fun i => .int .i64 (t.one i).over) := by
 obtain ⟨hl, h⟩ := h.tale_parts
 refine ⟨⟨hl, h.blk_cell 0 rfl, h.blk_cell 1 rfl, h.blk_cell 2 rfl, h.blk_cell 3 rfl, h.blk_cell 4 rfl, h.blk_cell 5 rfl, h.blk_cell 6 rfl, h.blk_cell 7 rfl, h.blk_cell 8 rfl, h.blk_cell 9 rfl, fun j => h.blk_free j⟩, ?_, ?_, ?_, ?_, ?_, ?_⟩
 ·exact row_at h.tail fun i hi => rec_icell hi
 ·exact row_at h.tail.tail fun i hi => vs_get hl hi
 ·exact row_at h.tail.tail.tail fun i hi => vs_get hl hi
 ·exact row_at h.tail.tail.tail.tail fun i hi => vs_get hl hi
 ·exact row_at h.tail.tail.tail.tail.tail fun i hi => rec_icell hi
 ·exact row_at h.tail.tail.tail.tail.tail.tail fun i hi => rec_icell hi
theorem _root_.Go.Sep.S.tale_set {j : Nat} {u : Value} {t' : Tale} (h : S w0 w (taleB b be k t :: L)) (hr : t'.recs = t.recs) (hj : j < 10) (hF : taleF be k t' = (taleF be k t).set j u) : S w0 (w.setCell ⟨b, j, none⟩ u) (taleB b be k t' :: L) := by
 obtain ⟨hl, h⟩ := h.tale_parts
 have h1 := h.blk_set j (by simpa [taleF] using hj) u
 rw [← hF] at h1
 refine S.tale_join (by rw [hr]; exact hl) ?_
 rw [hr]
 exact h1
theorem _root_.Go.Sep.S.rec_out (h : S w0 w (all (recPs k.vs t.recs) :: L)) (hi : i < t.recs.length) : S w0 w (recP (k.v i) (t.one i) :: all ((recPs k.vs t.recs).set i emp) :: L) := by
 have hl : i < (recPs k.vs t.recs).length := by rw [recPs_length]; exact hi
 refine h.conv ?_
 simp only [all]
 rw [all_set _ i hl emp, emp_sep, all_pick _ i hl, recPs_get hl, sep_assoc]
 rfl
theorem _root_.Go.Sep.S.rec_in {v : RecV} {r : Rec} (hl : k.vs.length = t.recs.length) (hi : i < t.recs.length) (h : S w0 w (recP v r :: all ((recPs k.vs t.recs).set i emp) :: L)) : S w0 w (all (recPs (k.vs.set i v) (t.recs.set i r)) :: L) := by
 have hll : i < (recPs k.vs t.recs).length := by rw [recPs_length]; exact hi
 rw [← recPs_set hi (by omega)]
 refine h.conv ?_
 simp only [all]
 rw [all_set _ i hll (recP v r), all_set _ i hll emp, emp_sep, sep_assoc]
end Go.Proofs.YtcbokjocahnlcaaGreatDoor
/- interleafkeep's tale: of, tells, committed. -/
namespace Go.Proofs.YtcbokjocahnlcaaGreatDoor
open Go Go.RowKit Go.Sep
theorem ofL_take {l : List (Int × Int)} {key : Int} {j : Nat} {p : Int × Int} (hp : l[j]? = some p) (hno : ∀ m < j, ∀ q, l[m]? = some q → q.1 ≠ key) (hk : p.1 = key) : ofL l key = p.2 := by
 have hl := List.getElem?_eq_some_iff.1 hp
 have h1 : l.find? (fun p => decide (p.1 = key)) = some p := by
  have e1 : l = l.take j ++ p :: l.drop (j + 1) := by
   rw [← hl.2, ← List.drop_eq_getElem_cons hl.1, List.take_append_drop]
  rw [e1, List.find?_append, List.find?_cons]
  have h2 : (l.take j).find? (fun p => decide (p.1 = key)) = none := by
   rw [List.find?_eq_none]
   intro q hq
   obtain ⟨m, hm⟩ := List.getElem?_of_mem hq
   have hml := (List.getElem?_eq_some_iff.1 hm).1
   rw [List.length_take] at hml
   rw [List.getElem?_take_of_lt (by omega)] at hm
   simpa using hno m (by omega) q hm
  rw [h2]
  simp [hk]
 unfold ofL
 rw [h1]
theorem ofL_none {l : List (Int × Int)} {key : Int} (hno : ∀ m < l.length, ∀ q, l[m]? = some q → q.1 ≠ key) : ofL l key = -1 := by
 unfold ofL
 have h2 : l.find? (fun p => decide (p.1 = key)) = none := by
  rw [List.find?_eq_none]
  intro q hq
  obtain ⟨m, hm⟩ := List.getElem?_of_mem hq
  simpa using hno m (List.getElem?_eq_some_iff.1 hm).1 q hm
 rw [h2]
theorem of_any (w0 w : World) (v : Value) (l : List (Int × Int)) (key : Int) (L : List HProp) (hs : S w0 w L) (hr : RdK w0 L v l.length (pcells l)) :
  Calls Tryz.prog 11 #[v, .int .i64 key] w fun r w' => r = .returned (.int .i64 (ofL l key)) ∧ w = w' := by
 obtain ⟨a, cap, rfl, hcap, hcap2, _⟩ := hr w hs
 unfold maxLen at hcap2
 have hp : ∀ j p, l[j]? = some p → ∃ g o, a = some ⟨g, o, none⟩ ∧ w.cell? ⟨g, o + j * 2, none⟩ = some (.int .i64 p.1) ∧ w.cell? ⟨g, o + j * 2 + 1, none⟩ = some (.int .i64 p.2) := fun j p hj => hr.pair hs hj
 have HP := hid hp
 clear hs hr hp
 go_enter Tryz.func11, Tryz.ntmps11
 go_wp2_with fail
 go_loopw [5] (fun c wr => ∃ j : Nat, j ≤ l.length ∧ c = .int .i64 j ∧ Hid (∀ m < j, ∀ q, l[m]? = some q → q.1 ≠ key) ∧ wr = w) (fun c _ => l.length - (intOf c).toNat)
 case atStart => exact ⟨0, Nat.zero_le _, rfl, hid (by omega), rfl⟩
 case round =>
  obtain ⟨j, hj, rfl, hno, rfl⟩ := hrel
  by_cases hlt : j < l.length
  ·have hp : l[j]? = some l[j] := by simp [hlt]
   generalize l[j] = p at hp
   obtain ⟨g, o, rfl, c0, c1⟩ := HP.out j p hp
   by_cases hk : p.1 = key
   ·have hv := ofL_take hp hno.out hk
    have hb1 : (p.1 == key) = true := by simpa using hk
    have HV := hid hv
    clear hv hno hp hk
    go_wp2_with fail
    go_ret
    exact ⟨by rw [HV.out]; rfl, rfl⟩
   ·have hb1 : (p.1 == key) = false := by simpa using hk
    have hno2 : ∀ m < j + 1, ∀ q, l[m]? = some q → q.1 ≠ key := fun m hm q hq => by
     rcases Nat.lt_or_ge m j with h | h
     ·exact hno.out m h q hq
     ·obtain rfl : m = j := by omega
      rw [hp] at hq; cases hq; exact hk
    have HN := hid hno2
    clear hno2 hno hp hk
    go_wp2_with fail
    go_roundw
    case rel => exact ⟨j + 1, by omega, by go_num, HN, by first | rfl | trivial⟩
    case measure => simp [intOf]; omega
  ·obtain rfl : j = l.length := by omega
   have hv := ofL_none hno.out
   have HV := hid hv
   clear hv hno
   go_wp2_with fail
   go_ret
   exact ⟨by rw [HV.out]; rfl, rfl⟩
def tale2 (b be : Nat) (t : Tale) : HProp := ex fun bs => sep (taleP b be t) (engP be bs t.e)
variable {w w0 : World} {L : List HProp} {b be : Nat} {t : Tale}
theorem _root_.Go.Sep.S.t2_open (h : S w0 w (tale2 b be t :: L)) : ∃ bs k, S w0 w (taleB b be k t :: all (recPs k.vs t.recs) :: engP be bs t.e :: L) := by
 obtain ⟨bs, h⟩ := h.ex_elim
 obtain ⟨k, h2⟩ := h.sep_elim.tale_open
 exact ⟨bs, k, h2⟩
theorem _root_.Go.Sep.S.t2_shut {bs : List Nat} {k : TaleV} (h : S w0 w (taleB b be k t :: all (recPs k.vs t.recs) :: engP be bs t.e :: L)) : S w0 w (tale2 b be t :: L) := .ex_intro bs (.sep_intro h.tale_shut)
theorem tells_any (w0 w : World) (L : List HProp) (hs : S w0 w L) :
  Calls Tryz.prog 7 #[] w fun r w' => ∃ b be, r = .returned (.pointer (some ⟨b, 0, none⟩)) ∧ S w0 w' (tale2 b be .start :: L) := by
 have hc := new_any w0 w L hs
 have HC := hid hc
 clear hc hs
 go_enter Tryz.func7, Tryz.ntmps7
 go_wp2_with fail
 with_reducible refine HC.out.mono ?_
 rintro r w1 ⟨rfl, hs1⟩
 have h2 := hs1.alloc #[.pointer (some ⟨w.heap.size + 1, 0, none⟩), .slice none 0 0, .slice none 0 0, .slice none 0 0, .slice none 0 0, .slice none 0 0, .slice none 0 0, .int .i64 0, .int .i64 0, .bool false] 35
 have h4 : ∀ W, S w0 W (blk w1.heap.size 35 [.pointer (some ⟨w.heap.size + 1, 0, none⟩), .slice none 0 0, .slice none 0 0, .slice none 0 0, .slice none 0 0, .slice none 0 0, .slice none 0 0, .int .i64 0, .int .i64 0, .bool false] :: engP (w.heap.size + 1) [] Eng.zero :: L) → S w0 W (taleB w1.heap.size (w.heap.size + 1) ⟨.slice none 0 0, .slice none 0 0, .slice none 0 0, .slice none 0 0, .slice none 0 0, .slice none 0 0, []⟩ .start :: engP (w.heap.size + 1) [] Eng.zero :: L) := fun W h2 => by
  have h3 := S.sl_nil (e := 3) (size := 1) (S.sl_nil (e := 3) (size := 1) (S.sl_nil (e := 65) (size := 1) (S.sl_nil (e := 57) (size := 1) (S.sl_nil (e := 37) (size := 1) (S.sl_nil (e := 3) (size := 1) h2)))))
  refine S.tale_join rfl (h3.conv ?_)
  simp only [all]
  show sep (sl 3 1 (.slice none 0 0) 0 []) (sep (sl 3 1 (.slice none 0 0) 0 []) (sep (sl 65 1 (.slice none 0 0) 0 []) (sep (sl 57 1 (.slice none 0 0) 0 []) (sep (sl 37 1 (.slice none 0 0) 0 []) (sep (sl 3 1 (.slice none 0 0) 0 []) _))))) = sep _ (sep (sl 3 1 (.slice none 0 0) 0 []) (sep (sl 37 1 (.slice none 0 0) 0 []) (sep (sl 57 1 (.slice none 0 0) 0 []) (sep (sl 65 1 (.slice none 0 0) 0 []) (sep (sl 3 1 (.slice none 0 0) 0 []) (sep (sl 3 1 (.slice none 0 0) 0 []) _))))))
  ac_rfl
 replace h4 := h4 _ h2
 have h5 := S.t2_shut (bs := []) (h4.conv (M := taleB w1.heap.size (w.heap.size + 1) ⟨.slice none 0 0, .slice none 0 0, .slice none 0 0, .slice none 0 0, .slice none 0 0, .slice none 0 0, []⟩ .start :: all (recPs [] []) :: engP (w.heap.size + 1) [] Eng.zero :: L) (by simp only [all, recPs, List.length_nil, List.range_zero, List.map_nil, emp_sep]))
 have H5 := hid h5
 clear h2 h4 h5 hs1
 go_wp2_with fail
 go_ret
 exact ⟨_, _, rfl, H5.out⟩
def Tale.committed (t : Tale) (i : Nat) : Bool := decide ((t.e.state ((i : Int) + 1)).2.2 = 0) && decide ((t.e.state ((i : Int) + 1)).1 = 2)
theorem state2_any (w0 w : World) (b : Nat) (bs : List Nat) (e : Eng) (n : Int) (L : List HProp) (hs : S w0 w (engP b bs e :: L)) :
  Calls Tryz.prog 14 #[.pointer (some ⟨b, 0, none⟩), .int .i64 n] w fun r w' => r = .returned (.tuple #[.int .i64 (e.state n).1, .int .i64 (e.state n).2.1, errV (e.state n).2.2]) ∧ S w0 w' (engP b bs e :: L) := by
 obtain ⟨k, h⟩ := hs.eng_open
 have hO : S w0 w (engO b bs k e :: storeP 105 b 0 e.V e.last :: tabP 3 b 11 e.t :: L) := h.conv (by simp only [all]; ac_rfl)
 exact (state_any w0 w b bs k e n _ hO).mono fun r w' ⟨h1, h2⟩ => ⟨h1, S.eng_shut (k := k) (h2.conv (by simp only [all]; ac_rfl))⟩
end Go.Proofs.YtcbokjocahnlcaaGreatDoor
/- interleafkeep's tale: what one act turns in the memory; Tell at the engine's errors. -/
namespace Go.Proofs.YtcbokjocahnlcaaGreatDoor
open Go Go.RowKit Go.Sep
theorem map_modify {α β : Type} {g : α → β} {f : α → α} (h : ∀ x, g (f x) = g x) (l : List α) (i : Nat) : (l.modify i f).map g = l.map g := by
 apply List.ext_getElem?
 intro j
 simp only [List.getElem?_map, List.getElem?_modify]
 cases l[j]? with
 | none => rfl
 | some x =>
  by_cases hij : i = j <;> simp [hij, h]
theorem map_modify_set {α β : Type} {g : α → β} {f : α → α} {u : β} (h : ∀ x, g (f x) = u) (l : List α) (i : Nat) : (l.modify i f).map g = (l.map g).set i u := by
 apply List.ext_getElem?
 intro j
 simp only [List.getElem?_map, List.getElem?_modify, List.getElem?_set, List.length_map]
 by_cases hij : i = j
 ·subst hij
  by_cases hl : i < l.length
  ·simp [hl, h]
  ·rw [if_pos rfl, if_neg hl]
   simp [List.getElem?_eq_none (Nat.le_of_not_lt hl)]
 ·simp [hij]
theorem modify_eq_set {α : Type} {f : α → α} {l : List α} {i : Nat} {d : α} (hi : i < l.length) : l.modify i f = l.set i (f ((l[i]?).getD d)) := by
 apply List.ext_getElem?
 intro j
 simp only [List.getElem?_modify, List.getElem?_set]
 by_cases hij : i = j
 ·subst hij; simp [hi]
 ·simp [hij]
section
variable {w w0 : World} {L : List HProp} {b be : Nat} {k : TaleV} {t : Tale} {i : Nat} {P : Program}
theorem updR_len (f : Rec → Rec) : (t.updR i f).recs.length = t.recs.length := by simp [Tale.updR]
theorem updR_recs (f : Rec → Rec) (hi : i < t.recs.length) : (t.updR i f).recs = t.recs.set i (f (t.one i)) := by
 unfold Tale.updR Tale.one
 exact modify_eq_set hi
theorem _root_.Go.Sep.S.tale_over (h : S w0 w (taleB b be k t :: all (recPs k.vs t.recs) :: L)) (hi : i < t.recs.length) {g o cap : Nat} (hv : k.wv = .slice (some ⟨g, o, none⟩) t.recs.length cap) (u : Int) :
  S w0 (w.setCell ⟨g, o + i, none⟩ (.int .i64 u)) (taleB b be k (t.updR i fun r => { r with over := u }) :: all (recPs k.vs (t.updR i fun r => { r with over := u }).recs) :: L) := by
 obtain ⟨hl, h⟩ := h.tale_parts
 have h2 := h.conv (M := sl 3 1 k.wv t.recs.length (icells (t.recs.map (·.over))) :: blk b 35 (taleF be k t) :: sl 3 1 k.lv t.recs.length (icells (t.recs.map (·.level))) :: sl 37 1 k.sv t.recs.length (k.vs.map (·.sv)) :: sl 57 1 k.ov t.recs.length (k.vs.map mapV) ::
  sl 65 1 k.rv t.recs.length (k.vs.map (·.rv)) :: sl 3 1 k.bv t.recs.length (icells (t.recs.map (·.begun))) :: all (recPs k.vs t.recs) :: L) (by simp only [all]; ac_rfl)
 have h3 := h2.sl_set hv i (by simp [icells]; exact hi) (.int .i64 u)
 have e1 : (icells (t.recs.map (·.over))).set i (.int .i64 u) = icells ((t.updR i fun r => { r with over := u }).recs.map (·.over)) := by
  unfold Tale.updR icells
  rw [map_modify_set (g := fun r : Rec => r.over) (u := u) (fun _ => rfl)]
  rw [List.map_set]
 have e2 : recPs k.vs (t.updR i fun r => { r with over := u }).recs = recPs k.vs t.recs := by
  rw [updR_recs _ hi]
  apply List.ext_getElem (by simp [recPs])
  intro j h1 h2
  simp only [recPs, List.getElem_map, List.getElem_range, List.getElem?_set]
  by_cases hij : i = j
  ·subst hij
   simp only [hi, if_true]
   unfold Tale.one
   rfl
  ·simp [hij]
 rw [e1] at h3
 rw [e2]
 refine S.tale_join (by rw [updR_len]; exact hl) ?_
 rw [updR_len]
 have f1 : (t.updR i fun r => { r with over := u }).recs.map (·.level) = t.recs.map (·.level) := by unfold Tale.updR; refine map_modify ?_ _ _; intro x; rfl
 have f2 : (t.updR i fun r => { r with over := u }).recs.map (·.begun) = t.recs.map (·.begun) := by unfold Tale.updR; refine map_modify ?_ _ _; intro x; rfl
 rw [f1, f2]
 exact h3.conv (by simp only [all]; show sep _ (sep (blk b _ (taleF be k t)) _) = sep (blk b _ (taleF be k t)) _; ac_rfl)
theorem _root_.Go.Sep.S.rec_see (h : S w0 w (all (recPs k.vs t.recs) :: L)) (hi : i < t.recs.length) : MapAt encI (fun _ => True) w (k.v i).mb (ienc (t.one i).own) := by
 have h1 := (h.rec_out hi).sep_elim
 exact (h1.tail.sep_elim).mapAt
theorem rec_snap (hi : i < t.recs.length) : RdK w0 (all (recPs k.vs t.recs) :: L) (k.v i).sv (t.one i).snap.length (pcells (t.one i).snap) := by
 intro W h
 exact RdK.own _ (h.rec_out hi).sep_elim
theorem _root_.Go.Sep.S.tale_own (h : S w0 w (taleB b be k t :: all (recPs k.vs t.recs) :: L)) (hi : i < t.recs.length) (key v : Int) :
  ∃ w', (Instr.mapUpdate 57 (.map (some (k.v i).mb)) (.int .i64 key) (.int .i64 v)).run Tryz.prog w = .ok () w' ∧
   S w0 w' (taleB b be k (t.updR i fun r => { r with own := mput r.own key v }) :: all (recPs k.vs (t.updR i fun r => { r with own := mput r.own key v }).recs) :: L) := by
 have hl := h.tale_see.1.len
 have h1 := (h.swap.rec_out hi).sep_elim
 have h2 := h1.conv (M := mp encI (fun _ => True) (k.v i).mb (ienc (t.one i).own) :: sl 44 2 (k.v i).sv (t.one i).snap.length (pcells (t.one i).snap) :: sl 67 2 (k.v i).rv (t.one i).reads.length (pcells (t.one i).reads) :: all ((recPs k.vs t.recs).set i emp) :: taleB b be k t :: L) (by simp only [all]; ac_rfl)
 obtain ⟨w', h3, h4⟩ := h2.put Tryz.keyInt Tryz.underlying57 key trivial (Sep.encI v)
 refine ⟨w', h3, ?_⟩
 rw [ienc_put] at h4
 have h5 : S w0 w' (recP (k.v i) { t.one i with own := mput (t.one i).own key v } :: all ((recPs k.vs t.recs).set i emp) :: taleB b be k t :: L) := .sep_intro (h4.conv (by simp only [all]; ac_rfl))
 have h6 := h5.rec_in hl hi
 have e0 : k.vs.set i (k.v i) = k.vs := by
  have hiv : i < k.vs.length := by omega
  unfold TaleV.v
  simp [hiv]
 rw [e0] at h6
 have e1 := updR_recs (t := t) (i := i) (fun r => { r with own := mput r.own key v }) hi
 rw [e1]
 refine S.swap (h6.conv ?_)
 have f1 : (t.updR i fun r => { r with own := mput r.own key v }).recs.map (·.level) = t.recs.map (·.level) := by unfold Tale.updR; refine map_modify ?_ _ _; intro x; rfl
 have f2 : (t.updR i fun r => { r with own := mput r.own key v }).recs.map (·.begun) = t.recs.map (·.begun) := by unfold Tale.updR; refine map_modify ?_ _ _; intro x; rfl
 have f3 : (t.updR i fun r => { r with own := mput r.own key v }).recs.map (·.over) = t.recs.map (·.over) := by unfold Tale.updR; refine map_modify ?_ _ _; intro x; rfl
 have e2 : taleB b be k (t.updR i fun r => { r with own := mput r.own key v }) = taleB b be k t := by
  unfold taleB
  rw [f1, f2, f3, updR_len]
  rfl
 rw [e2]
theorem _root_.Go.Sep.S.tale_reads {u : Value} {key v : Int} (h : S w0 w (sl 67 2 u ((t.one i).reads.length + 1) (pcells (t.one i).reads ++ [.int .i64 key, .int .i64 v]) :: sl 44 2 (k.v i).sv (t.one i).snap.length (pcells (t.one i).snap) :: mp encI (fun _ => True) (k.v i).mb (ienc (t.one i).own) :: all ((recPs k.vs t.recs).set i emp) :: taleB b be k t :: L))
  (hi : i < t.recs.length) {g o cap : Nat} (hv : k.rv = .slice (some ⟨g, o, none⟩) t.recs.length cap) :
  ∃ k', S w0 (w.setCell ⟨g, o + i, none⟩ u) (taleB b be k' (t.updR i fun r => { r with reads := r.reads ++ [(key, v)] }) :: all (recPs k'.vs (t.updR i fun r => { r with reads := r.reads ++ [(key, v)] }).recs) :: L) := by
 have hA := h.conv (M := taleB b be k t :: sl 67 2 u ((t.one i).reads.length + 1) (pcells (t.one i).reads ++ [.int .i64 key, .int .i64 v]) :: sl 44 2 (k.v i).sv (t.one i).snap.length (pcells (t.one i).snap) :: mp encI (fun _ => True) (k.v i).mb (ienc (t.one i).own) :: all ((recPs k.vs t.recs).set i emp) :: L) (by simp only [all]; ac_rfl)
 obtain ⟨hl, h1⟩ := hA.tale_parts
 have h2 := h1.conv (M := sl 65 1 k.rv t.recs.length (k.vs.map (·.rv)) :: blk b 35 (taleF be k t) :: sl 3 1 k.lv t.recs.length (icells (t.recs.map (·.level))) :: sl 37 1 k.sv t.recs.length (k.vs.map (·.sv)) :: sl 57 1 k.ov t.recs.length (k.vs.map mapV) ::
  sl 3 1 k.bv t.recs.length (icells (t.recs.map (·.begun))) :: sl 3 1 k.wv t.recs.length (icells (t.recs.map (·.over))) :: sl 67 2 u ((t.one i).reads.length + 1) (pcells (t.one i).reads ++ [.int .i64 key, .int .i64 v]) :: sl 44 2 (k.v i).sv (t.one i).snap.length (pcells (t.one i).snap) :: mp encI (fun _ => True) (k.v i).mb (ienc (t.one i).own) :: all ((recPs k.vs t.recs).set i emp) :: L) (by simp only [all]; ac_rfl)
 have h3 := h2.sl_set hv i (by simp; omega) u
 let v' : RecV := ⟨(k.v i).sv, (k.v i).mb, u⟩
 let r' : Rec := { t.one i with reads := (t.one i).reads ++ [(key, v)] }
 have hiv : i < k.vs.length := by omega
 have er : (t.updR i fun r => { r with reads := r.reads ++ [(key, v)] }).recs = t.recs.set i r' := updR_recs _ hi
 refine ⟨{ k with vs := k.vs.set i v' }, ?_⟩
 have e1 : (k.vs.map (·.rv)).set i u = (k.vs.set i v').map (·.rv) := by rw [List.map_set]
 have e2 : (k.vs.set i v').map (·.sv) = k.vs.map (·.sv) := by
  rw [List.map_set]
  have : v'.sv = (k.vs.map (·.sv))[i]'(by simpa using hiv) := by simp [v', TaleV.v, hiv]
  rw [this, List.set_getElem_self]
 have e3 : (k.vs.set i v').map mapV = k.vs.map mapV := by
  rw [List.map_set]
  have : mapV v' = (k.vs.map mapV)[i]'(by simpa using hiv) := by simp [v', TaleV.v, hiv, mapV]
  rw [this, List.set_getElem_self]
 have ep : pcells (t.one i).reads ++ [.int .i64 key, .int .i64 v] = pcells r'.reads := by simp [r', pcells]
 rw [e1, ep] at h3
 have h4 : S w0 (w.setCell ⟨g, o + i, none⟩ u) (recP v' r' :: all ((recPs k.vs t.recs).set i emp) :: blk b 35 (taleF be k t) :: sl 3 1 k.lv t.recs.length (icells (t.recs.map (·.level))) :: sl 37 1 k.sv t.recs.length (k.vs.map (·.sv)) :: sl 57 1 k.ov t.recs.length (k.vs.map mapV) ::
  sl 65 1 k.rv t.recs.length ((k.vs.set i v').map (·.rv)) :: sl 3 1 k.bv t.recs.length (icells (t.recs.map (·.begun))) :: sl 3 1 k.wv t.recs.length (icells (t.recs.map (·.over))) :: L) := by
  refine .sep_intro ?_
  refine h3.conv ?_
  simp only [all]
  have hr : r'.reads.length = (t.one i).reads.length + 1 := by simp [r']
  show _ = sep (sl _ 2 (k.v i).sv (t.one i).snap.length (pcells (t.one i).snap)) (sep (sep (mp encI (fun _ => True) (k.v i).mb (ienc (t.one i).own)) (sl _ 2 u r'.reads.length (pcells r'.reads))) _)
  rw [hr]
  ac_rfl
 have h5 := h4.rec_in hl hi
 have f1 : (t.updR i fun r => { r with reads := r.reads ++ [(key, v)] }).recs.map (·.level) = t.recs.map (·.level) := by unfold Tale.updR; refine map_modify ?_ _ _; intro x; rfl
 have f2 : (t.updR i fun r => { r with reads := r.reads ++ [(key, v)] }).recs.map (·.begun) = t.recs.map (·.begun) := by unfold Tale.updR; refine map_modify ?_ _ _; intro x; rfl
 have f3 : (t.updR i fun r => { r with reads := r.reads ++ [(key, v)] }).recs.map (·.over) = t.recs.map (·.over) := by unfold Tale.updR; refine map_modify ?_ _ _; intro x; rfl
 refine S.tale_join (by rw [updR_len]; simpa using hl) ?_
 rw [f1, f2, f3, updR_len, er]
 show S w0 _ (_ :: _ :: sl _ 1 k.sv _ ((k.vs.set i v').map (·.sv)) :: sl _ 1 k.ov _ ((k.vs.set i v').map mapV) :: _)
 rw [e2, e3]
 refine h5.conv ?_
 simp only [all]
 show _ = sep (blk b _ (taleF be k t)) _
 ac_rfl
end
def Tale.oversTo (t : Tale) (j : Nat) : Tale := { t with recs := t.recs.mapIdx fun i r => if i < j then overStep t.e t.steps i r else r }
theorem Tale.oversTo_zero (t : Tale) : t.oversTo 0 = t := by
 unfold Tale.oversTo
 have : t.recs.mapIdx (fun i r => if i < 0 then overStep t.e t.steps i r else r) = t.recs := by
  apply List.ext_getElem (by simp)
  intro i h1 h2
  simp
 rw [this]
theorem Tale.oversTo_len (t : Tale) (j : Nat) : (t.oversTo j).recs.length = t.recs.length := by simp [Tale.oversTo]
theorem Tale.oversTo_all (t : Tale) {n : Nat} (h : n = t.recs.length) : t.oversTo n = t.overs := by
 subst h
 unfold Tale.oversTo Tale.overs
 have : t.recs.mapIdx (fun i r => if i < t.recs.length then overStep t.e t.steps i r else r) = t.recs.mapIdx (overStep t.e t.steps) := by
  apply List.ext_getElem (by simp)
  intro i h1 h2
  have h3 : i < t.recs.length := by simpa using h1
  simp [h3]
 rw [this]
theorem Tale.oversTo_one (t : Tale) {j : Nat} (hj : j < t.recs.length) : (t.oversTo j).one j = t.one j := by
 unfold Tale.oversTo Tale.one
 simp [hj]
theorem Tale.oversTo_stay (t : Tale) {j : Nat} (hj : j < t.recs.length) (h : ¬((t.one j).over = 0 ∧ (t.e.state ((j : Int) + 1)).2.2 = 0 ∧ 2 ≤ (t.e.state ((j : Int) + 1)).1)) : t.oversTo (j + 1) = t.oversTo j := by
 unfold Tale.oversTo
 have : t.recs.mapIdx (fun i r => if i < j + 1 then overStep t.e t.steps i r else r) = t.recs.mapIdx (fun i r => if i < j then overStep t.e t.steps i r else r) := by
  apply List.ext_getElem (by simp)
  intro i h1 h2
  have h3 : i < t.recs.length := by simpa using h1
  simp only [List.getElem_mapIdx]
  by_cases hij : i < j
  ·rw [if_pos hij, if_pos (by omega)]
  ·rw [if_neg hij]
   by_cases he : i = j
   ·subst he
    rw [if_pos (by omega)]
    have : t.one i = t.recs[i] := by unfold Tale.one; simp [h3]
    rw [this] at h
    unfold overStep
    rw [if_neg h]
   ·rw [if_neg (by omega)]
 rw [this]
theorem Tale.oversTo_turn (t : Tale) {j : Nat} (hj : j < t.recs.length) (h : (t.one j).over = 0 ∧ (t.e.state ((j : Int) + 1)).2.2 = 0 ∧ 2 ≤ (t.e.state ((j : Int) + 1)).1) : t.oversTo (j + 1) = (t.oversTo j).updR j fun r => { r with over := t.steps } := by
 unfold Tale.oversTo Tale.updR
 have : t.recs.mapIdx (fun i r => if i < j + 1 then overStep t.e t.steps i r else r) = (t.recs.mapIdx (fun i r => if i < j then overStep t.e t.steps i r else r)).modify j fun r => { r with over := t.steps } := by
  apply List.ext_getElem (by simp)
  intro i h1 h2
  have h3 : i < t.recs.length := by simpa using h1
  simp only [List.getElem_mapIdx, List.getElem_modify]
  by_cases he : i = j
  ·subst he
   rw [if_pos (by omega), if_pos rfl, if_neg (by omega)]
   have : t.one i = t.recs[i] := by unfold Tale.one; simp [h3]
   rw [this] at h
   unfold overStep
   rw [if_pos h]
  ·rw [if_neg (Ne.symm he)]
   by_cases hij : i < j
   ·rw [if_pos hij, if_pos (by omega)]
   ·rw [if_neg hij, if_neg (by omega)]
 rw [this]
structure OverC (w : World) (b be : Nat) (n : Nat) (al : Option Addr) (cl gw ow cw : Nat) (t : Tale) : Prop where
 e : w.cell? ⟨b, 0, none⟩ = some (.pointer (some ⟨be, 0, none⟩))
 level : w.cell? ⟨b, 1, none⟩ = some (.slice al n cl)
 over : w.cell? ⟨b, 6, none⟩ = some (.slice (some ⟨gw, ow, none⟩) n cw)
 steps : w.cell? ⟨b, 7, none⟩ = some (.int .i64 t.steps)
 row : ∀ i, i < n → w.cell? ⟨gw, ow + i, none⟩ = some (.int .i64 (t.one i).over) ∧ w.frozen? ⟨gw, ow + i, none⟩ = false
theorem over_see {w w0 : World} {L : List HProp} {b be : Nat} {k : TaleV} {t : Tale} {n : Nat} (hn : t.recs.length = n) (hp : 0 < n) (h : S w0 w (taleB b be k t :: L)) :
  ∃ al cl gw ow cw, n ≤ cl ∧ cl ≤ maxLen ∧ n ≤ cw ∧ cw ≤ maxLen ∧ k.lv = .slice al n cl ∧ k.wv = .slice (some ⟨gw, ow, none⟩) n cw ∧ ∀ (W : World) (M : List HProp) (t' : Tale), t'.recs.length = n → S w0 W (taleB b be k t' :: M) → OverC W b be n al cl gw ow cw t' := by
 obtain ⟨hc, ⟨al, cl, h1, h2, h3, _⟩, _, _, _, _, ⟨aw, cw, h4, h5, h6, h7⟩⟩ := h.tale_see
 rw [hn] at h1 h2 h4 h5
 obtain ⟨gw, ow, rfl, _, _⟩ := h7 0 (by rw [hn]; exact hp)
 refine ⟨al, cl, gw, ow, cw, h2, h3, h5, h6, h1, h4, fun W M t' hl' h' => ?_⟩
 obtain ⟨hc', _, _, _, _, _, ⟨aw', cw', g4, _, _, g7⟩⟩ := h'.tale_see
 rw [hl'] at g4 g7
 rw [h4] at g4
 simp only [Value.slice.injEq] at g4
 obtain ⟨g4, _, _⟩ := g4
 refine ⟨hc'.e, by rw [← h1]; exact hc'.level, by rw [← h4]; exact hc'.over, hc'.steps, fun i hi => ?_⟩
 obtain ⟨g, o, q1, q2, q3⟩ := g7 i hi
 rw [← g4] at q1
 simp only [Option.some.injEq, Addr.mk.injEq] at q1
 obtain ⟨q1, q1', _⟩ := q1
 subst q1 q1'
 exact ⟨q2, q3⟩
structure ReadC (w : World) (b be n x : Nat) (gl ol cl gs os cs go oo co gr or_ cr : Nat) (k : TaleV) (t : Tale) : Prop where
 e : w.cell? ⟨b, 0, none⟩ = some (.pointer (some ⟨be, 0, none⟩))
 level : w.cell? ⟨b, 1, none⟩ = some (.slice (some ⟨gl, ol, none⟩) n cl)
 snap : w.cell? ⟨b, 2, none⟩ = some (.slice (some ⟨gs, os, none⟩) n cs)
 own : w.cell? ⟨b, 3, none⟩ = some (.slice (some ⟨go, oo, none⟩) n co)
 reads : w.cell? ⟨b, 4, none⟩ = some (.slice (some ⟨gr, or_, none⟩) n cr)
 num : w.cell? ⟨b, 8, none⟩ = some (.int .i64 t.n)
 broken : w.cell? ⟨b, 9, none⟩ = some (.bool t.broken)
 free : ∀ j, w.frozen? ⟨b, j, none⟩ = false
 xlevel : w.cell? ⟨gl, ol + x, none⟩ = some (.int .i64 (t.one x).level)
 xsnap : w.cell? ⟨gs, os + x, none⟩ = some (k.v x).sv
 xown : w.cell? ⟨go, oo + x, none⟩ = some (.map (some (k.v x).mb))
 xreads : w.cell? ⟨gr, or_ + x, none⟩ = some (k.v x).rv
 xfree : w.frozen? ⟨gr, or_ + x, none⟩ = false
theorem read_see {w w0 : World} {L : List HProp} {b be : Nat} {k : TaleV} {t : Tale} {n x : Nat} (hn : t.recs.length = n) (hx : x < n) (h : S w0 w (taleB b be k t :: L)) :
  ∃ gl ol cl gs os cs go oo co gr or_ cr, n ≤ cl ∧ cl ≤ maxLen ∧ n ≤ cs ∧ cs ≤ maxLen ∧ n ≤ co ∧ co ≤ maxLen ∧ n ≤ cr ∧ cr ≤ maxLen ∧ k.rv = .slice (some ⟨gr, or_, none⟩) n cr ∧ ∀ (W : World) (M : List HProp) (t' : Tale), t'.recs.length = n → S w0 W (taleB b be k t' :: M) → ReadC W b be n x gl ol cl gs os cs go oo co gr or_ cr k t' := by
 obtain ⟨hc, ⟨al, cl, h1, h2, h3, h4⟩, ⟨as_, cs, i1, i2, i3, i4⟩, ⟨ao, co, j1, j2, j3, j4⟩, ⟨ar, cr, l1, l2, l3, l4⟩, _, _⟩ := h.tale_see
 rw [hn] at h1 h2 h4 i1 i2 i4 j1 j2 j4 l1 l2 l4
 obtain ⟨gl, ol, rfl, _, _⟩ := h4 x hx
 obtain ⟨gs, os, rfl, _, _⟩ := i4 x hx
 obtain ⟨go, oo, rfl, _, _⟩ := j4 x hx
 obtain ⟨gr, or_, rfl, _, _⟩ := l4 x hx
 refine ⟨gl, ol, cl, gs, os, cs, go, oo, co, gr, or_, cr, h2, h3, i2, i3, j2, j3, l2, l3, l1, fun W M t' hl' h' => ?_⟩
 have pick : ∀ {v : Value} {g o c : Nat} {f : Nat → Value}, v = .slice (some ⟨g, o, none⟩) n c → RowAt W v t'.recs.length f → W.cell? ⟨g, o + x, none⟩ = some (f x) ∧ W.frozen? ⟨g, o + x, none⟩ = false := by
  intro v g o c f hv ⟨a, c', e1, _, _, e4⟩
  rw [hl'] at e1 e4
  rw [hv] at e1
  simp only [Value.slice.injEq] at e1
  obtain ⟨e1, _, _⟩ := e1
  obtain ⟨g2, o2, q1, q2, q3⟩ := e4 x hx
  rw [← e1] at q1
  simp only [Option.some.injEq, Addr.mk.injEq] at q1
  obtain ⟨q1, q1', _⟩ := q1
  subst q1 q1'
  exact ⟨q2, q3⟩
 obtain ⟨hc', r1, r2, r3, r4, _, _⟩ := h'.tale_see
 exact ⟨hc'.e, by rw [← h1]; exact hc'.level, by rw [← i1]; exact hc'.snap, by rw [← j1]; exact hc'.own, by rw [← l1]; exact hc'.reads, hc'.n, hc'.broken, hc'.free, (pick h1 r1).1, (pick i1 r2).1, (pick j1 r3).1, (pick l1 r4).1, (pick l1 r4).2⟩
theorem _root_.Go.Sep.S.tale_mark {w w0 : World} {L : List HProp} {b be : Nat} {k : TaleV} {t : Tale} (h : S w0 w (taleB b be k t :: L)) : S w0 (w.setCell ⟨b, 9, none⟩ (.bool true)) (taleB b be k (t.marked true) :: L) :=
 h.tale_set rfl (by decide) (by simp [taleF, Tale.marked])
theorem marked_false (t : Tale) : t.marked false = t := by unfold Tale.marked; simp
def errOf (x : Int) : Err := if x = 0 then .nil else .no x
theorem errno_of (x : Int) : Err.errno (errOf x) = x := by
 unfold errOf
 split
 ·rename_i h; rw [h]; rfl
 ·rfl
theorem errP_of {w w0 : World} {L : List HProp} (x : Int) (h : S w0 w L) : S w0 w (errP 47 118 116 (errV x) (errOf x) :: L) := by
 unfold errOf
 split
 ·rename_i hx; rw [hx]; exact S.pur_intro rfl h
 ·rename_i hx; exact S.pur_intro (errV_ne hx) h
theorem tellV_any (w0 w : World) (x : Int) (L : List HProp) (hE : ErrT w0) (hs : S w0 w L) :
  Calls Tryz.prog 27 #[errV x] w fun r w' => r = .returned (.int .i64 x) ∧ S w0 w' L :=
 (tell_any (errOf x) (errV x) w0 w L hE (errP_of x hs)).mono fun r w' ⟨h1, h2⟩ => ⟨by rw [h1, errno_of], h2.tail⟩
end Go.Proofs.YtcbokjocahnlcaaGreatDoor
namespace Go.Proofs.YtcbokjocahnlcaaGreatDoor
open Go Go.RowKit Go.Sep
theorem ok_1 : OkT 10 ran1 [] := by have := OkT.start.begun 2; rw [ran_1] at this; exact this
theorem ok_2 : OkT 10 ran2 [] := by have := ok_1.begun 2; rw [ran_2] at this; exact this
theorem ok_3 : OkT 1010 ran3 [] := by have := ok_2.red 1 1; rw [ran_3] at this; exact this
theorem ok_4 : OkT 2010 ran4 [] := by have := ok_3.red 2 2; rw [ran_4] at this; exact this
theorem ok_5 : OkT 3010 ran5 [] := by have := ok_4.wrote 1 2 5; rw [ran_5] at this; exact this
theorem ok_6 : OkT 4010 ran6 [] := by have := ok_5.wrote 2 1 6; rw [ran_6] at this; exact this
theorem ok_7 : OkT 4010 ran7 [] := by have := ok_6.committed 1; rw [ran_7] at this; exact this
set_option maxHeartbeats 4000000 in
set_option maxRecDepth 40000 in
theorem ran_any (w0 w : World) (L : List HProp) (hE : ErrT w0) (hs : S w0 w L) :
  Calls Tryz.prog 6 #[] w fun r w' => r = .returned (.bool true) ∧ S w0 w' L := by
 have hn := new_any w0 w L hs
 have HN := hid hn
 clear hn hs
 go_enter Tryz.func6, Tryz.ntmps6
 go_wp2_with fail
 with_reducible refine HN.out.mono ?_
 rintro r w1 ⟨rfl, hs1⟩
 have h1 := ebegin_any w0 w1 _ [] Eng.zero 2 L 10 OkT.start hs1
 rw [ran_1] at h1
 dsimp only at h1
 rw [errV_0] at h1
 have H1 := hid h1
 clear h1 hs1 HN
 go_wp2_with fail
 with_reducible refine H1.out.mono ?_
 rintro r w2 ⟨rfl, bs2, hs2⟩
 have h2 := ebegin_any w0 w2 _ bs2 ran1 2 L 10 ok_1 hs2
 rw [ran_2] at h2
 dsimp only at h2
 rw [errV_0] at h2
 have H2 := hid h2
 clear h2 hs2 H1
 go_wp2_with fail
 with_reducible refine H2.out.mono ?_
 rintro r w3 ⟨rfl, bs3, hs3⟩
 have h3 := eread_any w0 w3 _ bs3 ran2 1 1 L 10 hE ok_2 (by decide) hs3
 rw [ran_3] at h3
 dsimp only at h3
 have H3 := hid h3
 clear h3 hs3 H2
 go_wp2_with fail
 with_reducible refine H3.out.mono ?_
 rintro r w4 ⟨rfl, hs4⟩
 have h4 := eread_any w0 w4 _ bs3 ran3 2 2 L 1010 hE ok_3 (by decide) hs4
 rw [ran_4] at h4
 dsimp only at h4
 have H4 := hid h4
 clear h4 hs4 H3
 go_wp2_with fail
 with_reducible refine H4.out.mono ?_
 rintro r w5 ⟨rfl, hs5⟩
 have h5 := ewrite_any w0 w5 _ bs3 ran4 1 2 5 L 2010 ok_4 (by decide) hs5
 rw [ran_5] at h5
 dsimp only at h5
 rw [errV_0] at h5
 have H5 := hid h5
 clear h5 hs5 H4
 go_wp2_with fail
 with_reducible refine H5.out.mono ?_
 rintro r w6 ⟨rfl, hs6⟩
 have h6 := ewrite_any w0 w6 _ bs3 ran5 2 1 6 L 3010 ok_5 (by decide) hs6
 rw [ran_6] at h6
 dsimp only at h6
 rw [errV_0] at h6
 have H6 := hid h6
 clear h6 hs6 H5
 go_wp2_with fail
 with_reducible refine H6.out.mono ?_
 rintro r w7 ⟨rfl, hs7⟩
 have h8 := tellV_any w0 w7 8 _ hE hs7
 have H8 := hid h8
 clear h8 hs7 H6
 go_wp2_with fail
 with_reducible refine H8.out.mono ?_
 rintro r w8 ⟨rfl, hs8⟩
 have h9 := tellV_any w0 w8 8 _ hE hs8
 have H9 := hid h9
 clear h9 hs8 H8
 go_wp2_with fail
 with_reducible refine H9.out.mono ?_
 rintro r w9 ⟨rfl, hs9⟩
 have h10 := ecommit_any w0 w9 _ bs3 ran6 1 L 4010 hE ok_6 (by decide) hs9
 rw [ran_7] at h10
 dsimp only at h10
 have H10 := hid h10
 clear h10 hs9 H9
 go_wp2_with fail
 with_reducible refine H10.out.mono ?_
 rintro r w10 ⟨rfl, hs10⟩
 have h11 := ecommit_any w0 w10 _ bs3 ran7 2 L 4010 hE ok_7 (by decide) hs10
 rw [ran_8, errV_0] at h11
 have H11 := hid h11
 clear h11 hs10 H10
 go_wp2_with fail
 with_reducible refine H11.out.mono ?_
 rintro r w11 ⟨rfl, hs11⟩
 have h12 := tellV_any w0 w11 13 _ hE hs11
 have H12 := hid h12
 clear h12 hs11 H11
 go_wp2_with fail
 with_reducible refine H12.out.mono ?_
 rintro r w12 ⟨rfl, hs12⟩
 obtain ⟨k12, hk12⟩ := hs12.eng_open
 have h13 := elast_any w0 w12 _ (ran7.commit 2).1 _ hk12
 rw [last_8] at h13
 have H13 := hid h13
 have HS := hid hs12.tail
 clear h13 hs12 hk12 H12
 go_wp2_with fail
 with_reducible refine H13.out.mono ?_
 rintro r w13 ⟨rfl, rfl⟩
 go_wp2_with fail
 go_ret
 exact ⟨rfl, HS.out⟩
end Go.Proofs.YtcbokjocahnlcaaGreatDoor
