/- A map of slices by its keys; a variable that holds a slice of pairs: what stands in memory. -/
import Derived.Test.YthdiphfbjlooaaaDoorAc
namespace Go.Sep
open Go Go.RowKit
variable {w w0 : World} {L : List HProp} {T bl : Nat} {E : List (Int × (Value × List Int))} {M : List (Int × List Int)}

def mlM (T bl : Nat) (E : List (Int × (Value × List Int))) (M : List (Int × List Int)) : HProp :=
  sep (pur (E.map (fun p => (p.1, p.2.2)) = M)) (sep (mp encI (fun _ => True) bl (E.map fun p => (p.1, p.2.1))) (all (E.map (lrow T))))
/-- .. without the slice of one key. -/
def mlX (T bl : Nat) (E : List (Int × (Value × List Int))) (k : Int) (M : List (Int × List Int)) : HProp :=
  sep (pur (E.map (fun p => (p.1, p.2.2)) = M)) (sep (mp encI (fun _ => True) bl (E.map fun p => (p.1, p.2.1))) (all ((mdel E k).map (lrow T))))
theorem S.ml_parts (h : S w0 w (mlM T bl E M :: L)) : E.map (fun p => (p.1, p.2.2)) = M ∧ S w0 w (mp encI (fun _ => True) bl (E.map fun p => (p.1, p.2.1)) :: all (E.map (lrow T)) :: L) := by
  obtain ⟨hp, h⟩ := h.sep_elim.pur_elim
  exact ⟨hp, h.conv (by simp only [all, sep_assoc])⟩
theorem S.ml_join (hp : E.map (fun p => (p.1, p.2.2)) = M) (h : S w0 w (mp encI (fun _ => True) bl (E.map fun p => (p.1, p.2.1)) :: all (E.map (lrow T)) :: L)) : S w0 w (mlM T bl E M :: L) :=
  .sep_intro (.pur_intro hp (h.conv (by simp only [all, sep_assoc])))
theorem S.mlX_parts {k : Int} (h : S w0 w (mlX T bl E k M :: L)) : E.map (fun p => (p.1, p.2.2)) = M ∧ S w0 w (mp encI (fun _ => True) bl (E.map fun p => (p.1, p.2.1)) :: all ((mdel E k).map (lrow T)) :: L) := by
  obtain ⟨hp, h⟩ := h.sep_elim.pur_elim
  exact ⟨hp, h.conv (by simp only [all, sep_assoc])⟩
theorem S.ml_new (h : S w0 w L) : S w0 (w.alloc (.map #[] 0)) (mlM T w.heap.size [] [] :: L) :=
  S.ml_join rfl ((h.made (enc := encI) (ok := fun _ => True)).conv (by simp only [List.map_nil, all, emp_sep]))
theorem S.ml_see (h : S w0 w (mlM T bl E M :: L)) : MapAt encI (fun _ => True) w bl (E.map fun p => (p.1, p.2.1)) := h.ml_parts.2.mapAt
theorem S.mlX_see {k : Int} (h : S w0 w (mlX T bl E k M :: L)) : MapAt encI (fun _ => True) w bl (E.map fun p => (p.1, p.2.1)) := h.mlX_parts.2.mapAt
theorem S.ml_nodup (h : S w0 w (mlM T bl E M :: L)) : (E.map (·.1)).Nodup := by
  simpa [List.map_map, Function.comp_def] using h.ml_parts.2.nodup
theorem S.ml_keys (h : S w0 w (mlM T bl E M :: L)) : (M.map (·.1)).Nodup := by
  have h1 := h.ml_nodup
  rw [← h.ml_parts.1]
  simpa [List.map_map, Function.comp_def] using h1
theorem line_ofM (h : E.map (fun p => (p.1, p.2.2)) = M) (k : Int) : (lineOf E k).2 = (mget M k).getD [] := by
  rw [← h, mget_map (fun x : Value × List Int => x.2)]
  unfold lineOf
  cases mget E k <;> rfl
theorem S.ml_line (h : S w0 w (mlM T bl E M :: L)) (k : Int) : S w0 w (sl T 1 (lineOf E k).1 (lineOf E k).2.length (icells (lineOf E k).2) :: mlX T bl E k M :: L) := by
  have hk := h.ml_nodup
  obtain ⟨hp, h⟩ := h.ml_parts
  refine S.swap (.sep_intro (.pur_intro hp ?_))
  cases hg : mget E k with
  | none =>
    unfold lineOf
    rw [hg, mdel_none hg]
    exact (h.sl_nil (e := T) (size := 1)).conv (by simp only [all, Option.getD_none, List.length_nil]; unfold icells; simp only [List.map_nil]; ac_rfl)
  | some x =>
    unfold lineOf
    rw [hg]
    have hq := (perm_out hk hg).map (lrow T)
    refine h.conv ?_
    simp only [all]
    rw [all_perm hq]
    simp only [List.map_cons, all, lrow, Option.getD_some]
    ac_rfl
theorem S.mlX_put {P : Program} {kt mt e : TypeId} (K : KeyOk P kt encI (fun _ => True)) (ht : P.underlying mt = some (.map kt e)) {k : Int} {v : Value} {l : List Int} (h : S w0 w (sl T 1 v l.length (icells l) :: mlX T bl E k M :: L)) :
    ∃ w', (Instr.mapUpdate mt (.map (some bl)) (encI k) v).run P w = .ok () w' ∧ S w0 w' (mlM T bl (mput E k (v, l)) (mput M k l) :: L) := by
  obtain ⟨hp, h⟩ := h.swap.mlX_parts
  have hn : (E.map (·.1)).Nodup := by simpa [List.map_map, Function.comp_def] using h.nodup
  obtain ⟨w', hr, h'⟩ := h.put K ht k trivial v
  have hm : mput (E.map fun p => (p.1, p.2.1)) k v = (mput E k (v, l)).map fun p => (p.1, p.2.1) := mput_map (fun x : Value × List Int => x.1) E k (v, l)
  have hm2 : (mput E k (v, l)).map (fun p => (p.1, p.2.2)) = mput M k l := by rw [← hp]; exact (mput_map (fun x : Value × List Int => x.2) E k (v, l)).symm
  rw [hm] at h'
  refine ⟨w', hr, S.ml_join hm2 ?_⟩
  refine h'.conv ?_
  have hq := (perm_put hn k (v, l)).map (lrow T)
  simp only [all]
  rw [all_perm hq]
  simp only [List.map_cons, all, lrow]
  ac_rfl
theorem S.mlX_back {k : Int} (h : S w0 w (sl T 1 (lineOf E k).1 (lineOf E k).2.length (icells (lineOf E k).2) :: mlX T bl E k M :: L)) : S w0 w (mlM T bl E M :: L) := by
  obtain ⟨hp, h⟩ := h.swap.mlX_parts
  have hn : (E.map (·.1)).Nodup := by simpa [List.map_map, Function.comp_def] using h.nodup
  refine S.ml_join hp ?_
  cases hg : mget E k with
  | none =>
    rw [mdel_none hg] at h
    exact (h.conv (M := sl T 1 (lineOf E k).1 (lineOf E k).2.length (icells (lineOf E k).2) :: mp encI (fun _ => True) bl (E.map fun p => (p.1, p.2.1)) :: all (E.map (lrow T)) :: L) (by simp only [all]; ac_rfl)).tail
  | some x =>
    unfold lineOf at h
    rw [hg] at h
    have hq := (perm_out hn hg).map (lrow T)
    refine h.conv ?_
    simp only [all]
    rw [all_perm hq]
    simp only [List.map_cons, all, lrow, Option.getD_some]
    ac_rfl

/-- A variable that holds a slice of pairs. -/
def outP (tv te bx : Nat) (l : List (Int × Int)) : HProp := ex fun v => sep (blk bx tv [v]) (sl te 2 v l.length (pcells l))
theorem S.out_elim {tv te bx : Nat} {l : List (Int × Int)} (h : S w0 w (outP tv te bx l :: L)) : ∃ v, S w0 w (blk bx tv [v] :: sl te 2 v l.length (pcells l) :: L) := by
  obtain ⟨v, h⟩ := h.ex_elim
  exact ⟨v, h.sep_elim⟩
theorem S.out_intro {tv te bx : Nat} {v : Value} {l : List (Int × Int)} (h : S w0 w (blk bx tv [v] :: sl te 2 v l.length (pcells l) :: L)) : S w0 w (outP tv te bx l :: L) := .ex_intro v h.sep_intro
end Go.Sep
