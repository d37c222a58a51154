/- Lines of a text. No program in sight. -/
import Derived.Test.YtdlkjppppdminaaGreatDoorZ0
import Derived.Test.YtdlkjppppdminaaGreatDoorZ3
import Derived.Test.YtdlkjppppdminaaGreatDoorZ1
import Derived.Deep.RegionHeldLaw
import Derived.Deep.RegionHeld
import Derived.Test.YtdlkjppppdminaaGreatDoorZ2
import Derived.Shelf.Strings.Builder1
import Derived.Shelf.Small.Wraps
import Derived.Shelf.Strings.BuilderF
import Derived.Shelf.Strconv.Atoi
import Derived.Shelf.Strconv.AtoiErrFast
import Derived.Shelf.Strconv.ParseIntEmpty
import Derived.Shelf.Strconv.AtoiFail
import Derived.Shelf.LaysM
import Derived.Shelf.Strconv.Clone
import Derived.Shelf.Strconv.SyntaxError
import Derived.Shelf.LaysC
import Derived.Shelf.Strconv.ToError
import Derived.Shelf.Strconv.AtoiErr
import Derived.Shelf.Strconv.Lower
import Derived.Shelf.Strconv.ParseUint10
import Derived.Shelf.Strconv.ParseUint10Empty
import Derived.Shelf.Strconv.ParseUint10Any
import Derived.Shelf.Strconv.ParseInt10
import Derived.Shelf.Strconv.AtoiLong
import Derived.Shelf.Strconv.AtoiInnerAll
import Derived.Shelf.Strconv.RangeError
import Derived.Shelf.Strconv.ToErrorRange
import Derived.Shelf.Strconv.AtoiAll
import Derived.Shelf.Strings.Search1
import Derived.Shelf.Strings.Search2
import Derived.Shelf.Strings.Search3
import Derived.Shelf.Strings.Prefix
import Derived.Shelf.Strings.FieldsFuncAny
import Derived.Test.YtdlkjppppdminaaGreatDoorProg
import Derived.WalkKit
import Derived.Shelf.SlSortCmp.NoneTotal
import Derived.Ground.SlsfProg
import Derived.Shelf.SlicesQ.IndexFunc
import Derived.Ground.SlgfProg
import Derived.WideKeyRuns
import Derived.Lib.Bytealg
/- Maps on the model's heap: an entry that is found first, and written later (an assignment to several things). No program in sight. -/
namespace Go.Sep
open Go Go.RowKit
set_option linter.unusedSectionVars false
section
variable {κ : Type} [DecidableEq κ] {P : Program} {kt : TypeId} {enc : κ → Value} {ok : κ → Prop} {w w0 : World} {L : List HProp} {b r : Nat} {D : List (κ × Value)}
theorem setObjW_cell {o : Obj} {a : Addr} {v : Value} (h : ∀ c e f, w.heap[r]? ≠ some (.cells c e f)) (hc : w.cell? a = some v) : (setObjW w r o).cell? a = some v := by
 have hne : a.block ≠ r := by
  intro e
  unfold World.cell? at hc
  rw [e] at hc
  cases hh : w.heap[r]? with
  | none => rw [hh] at hc; simp at hc
  | some o' =>
   rw [hh] at hc
   cases o' with
   | cells c e' f => exact h c e' f hh
   | _ => simp at hc
 rw [← hc]
 exact World.cell?_of_block (by simp [setObjW, Array.getElem?_setIfInBounds_ne (fun e => hne e.symm)])
theorem mput_mput {κ ν : Type} [DecidableEq κ] (D : List (κ × ν)) (k : κ) (u v : ν) : mput (mput D k u) k v = mput D k v := by
 have h1 : (mget (mput D k u) k).isSome := by rw [mget_put]; simp
 unfold mput at h1 ⊢
 rw [if_pos h1]
 by_cases h : (mget D k).isSome
 ·rw [if_pos h, if_pos h, List.map_map]
  apply List.map_congr_left
  intro d _
  simp only [Function.comp]
  by_cases e : d.1 = k <;> simp [e]
 ·rw [if_neg h, if_neg h, List.map_append]
  congr 1
  ·have hn : k ∉ D.map (·.1) := mget_none.1 (by simpa using h)
   conv => rhs; rw [← List.map_id D]
   apply List.map_congr_left
   intro d hd
   have : d.1 ≠ k := fun e => hn (by rw [← e]; exact List.mem_map_of_mem hd)
   simp [this]
  ·simp
def entP (enc : κ → Value) (ok : κ → Prop) (b : Nat) (D : List (κ × Value)) (k : κ) (st : Nat) : HProp :=
 ex fun es : Array MapEntry => ex fun clock : Nat => sep (pur (MapObj enc ok D es clock ∧ ∃ (i : Nat) (e : MapEntry), es.toList[i]? = some e ∧ e.born = st ∧ (D.map (·.1))[i]? = some k)) (ob b (.map es clock))
theorem S.entry_find (K : KeyOk P kt enc ok) {t e : TypeId} (ht : P.underlying t = some (.map kt e)) {z : Value} (hz : (zeroValue e).run P w = .ok z w) (h : S w0 w (mp enc ok b D :: L)) (k : κ) (hk : ok k) :
  ∃ (st : Nat) (w' : World), (Instr.mapEntry t (.map (some b)) (enc k)).run P w = .ok (.tuple #[(mget D k).getD z, .int .i64 (st : Int)]) w' ∧ S w0 w' (entP enc ok b (mput D k ((mget D k).getD z)) k st :: L) ∧ ∀ a v, w.cell? a = some v → w'.cell? a = some v := by
 obtain ⟨es, h⟩ := h.ex_elim
 obtain ⟨clock, h⟩ := h.ex_elim
 obtain ⟨hm, h⟩ := h.sep_elim.pur_elim
 have hb := h.obj
 have hnc : ∀ c e f, w.heap[b]? ≠ some (.cells c e f) := by intro c e f; rw [hb]; simp
 have hf := K.find k es.toList (D.map (·.1)) w hk (by intro x hx; obtain ⟨d, hd, rfl⟩ := List.mem_map.1 hx; exact hm.2.2.2.2 d hd) (keys_of hm)
 have hg := find_zip D es.toList k 0 hm.1
 have hlen : es.size = D.length := by have := congrArg List.length hm.1; simpa using this
 cases hx : ((D.map (·.1)).zip es.toList).zipIdx.find? (fun x => decide (x.1.1 = k)) with
 | none =>
  rw [hx] at hg
  simp at hg
  have hp : mput D k z = D ++ [(k, z)] := by unfold mput; rw [← hg]; simp
  have hnd := keys_put_nodup hm.2.2.2.1 k z
  refine ⟨clock, setObjW w b (.map (es.push { key := enc k, val := z, born := clock }) (clock + 1)), ?_, ?_, fun a v hc => setObjW_cell hnc hc⟩
  ·simp only [Instr.mapEntry, Sem.run_bind, run_underlying ht, Result.andThen_ok, run_getObj_map hb, K.check, hf, hx, Option.map_none, hz, run_setObj_map hb, Sem.run_pure, ← hg, Option.getD_none]
   rfl
  ·rw [← hg, Option.getD_none]
   refine .ex_intro _ (.ex_intro _ (.sep_intro (.pur_intro ?_ (h.set_obj (by simp) (by simp)))))
   refine ⟨⟨by rw [hp]; simp [hm.1], ?_, ?_, hnd, ?_⟩, D.length, { key := enc k, val := z, born := clock }, ?_, rfl, ?_⟩
   ·simp only [Array.toList_push, List.map_append, List.map_cons, List.map_nil]
    rw [List.nodup_append]
    refine ⟨hm.2.1, by simp, ?_⟩
    intro a ha c hc
    simp at hc; subst hc
    obtain ⟨e', he', rfl⟩ := List.mem_map.1 ha
    have := hm.2.2.1 e' he'; omega
   ·intro e' he'
    simp only [Array.toList_push, List.mem_append, List.mem_singleton] at he'
    rcases he' with he' | rfl
    ·have := hm.2.2.1 e' he'; omega
    ·simp
   ·intro d hd
    rw [hp] at hd
    rcases List.mem_append.1 hd with h1 | h1
    ·exact hm.2.2.2.2 d h1
    ·simp at h1; subst h1; exact hk
   ·rw [Array.toList_push, List.getElem?_append_right (by simp [hlen])]; simp [hlen]
   ·rw [hp]; simp
 | some x =>
  obtain ⟨i, h1, h2, h3, h4⟩ := find_zip_idx (enc := enc) D es.toList k 0 x hm.1 hm.2.2.2.1 hx
  simp only [Nat.zero_add] at h1
  have hkey : x.1.2.key = enc k := by
   have e1 := congrArg (·[i]?) (keys_of hm)
   simp only [List.getElem?_map, h4] at e1
   have e2 := (h3 i).2 rfl
   simp only [List.getElem?_map] at e2
   cases hd : D[i]? with
   | none => rw [hd] at e2; simp at e2
   | some d => rw [hd] at e1 e2; simp at e1 e2; rw [e1, e2]
  have hget : es[i]? = some x.1.2 := by simpa using h4
  rw [hx] at hg
  simp at hg
  have hmod : es.modify i (fun e => { e with key := enc k }) = es := by
   apply Array.ext_getElem?
   intro j
   rw [Array.getElem?_modify]
   by_cases hij : i = j
   ·subst hij; rw [if_pos rfl, hget]; simp [← hkey]
   ·rw [if_neg hij]
  have hpp : mput D k x.1.2.val = D := by
   unfold mput
   rw [← hg, Option.isSome_some, if_pos rfl]
   conv => rhs; rw [← List.map_id D]
   apply List.map_congr_left
   intro d hd
   by_cases e : d.1 = k
   ·have := mget_mem hm.2.2.2.1 (show (d.1, d.2) ∈ D from hd)
    rw [e, ← hg] at this
    simp only [e, if_true, id]
    have := Option.some.inj this
    rw [this, ← e]
   ·simp [e]
  refine ⟨x.1.2.born, setObjW w b (.map es clock), ?_, ?_, fun a v hc => setObjW_cell hnc hc⟩
  ·simp only [Instr.mapEntry, Sem.run_bind, run_underlying ht, Result.andThen_ok, run_getObj_map hb, K.check, hf, hx, Option.map_some, h1, hget, Option.getD_some, hkey, K.stays, run_setObj_map hb, Sem.run_pure, hmod, ← hg]
   rfl
  ·rw [← hg, Option.getD_some, hpp]
   refine .ex_intro es (.ex_intro clock (.sep_intro (.pur_intro ⟨hm, i, x.1.2, h4, rfl, (h3 i).2 rfl⟩ (h.set_obj (by simp) (by simp)))))
theorem S.entry_store {D : List (κ × Value)} {k : κ} {st : Nat} (h : S w0 w (entP enc ok b D k st :: L)) (t : TypeId) (v : Value) :
  ∃ w', (Instr.entryStore t (.map (some b)) (.int .i64 (st : Int)) v).run P w = .ok () w' ∧ S w0 w' (mp enc ok b (mput D k v) :: L) ∧ ∀ a u, w.cell? a = some u → w'.cell? a = some u := by
 obtain ⟨es, h⟩ := h.ex_elim
 obtain ⟨clock, h⟩ := h.ex_elim
 obtain ⟨⟨hm, i, e, hi, hst, hki⟩, h⟩ := h.sep_elim.pur_elim
 have hb := h.obj
 have hnc : ∀ c e f, w.heap[b]? ≠ some (.cells c e f) := by intro c e f; rw [hb]; simp
 have hidx : es.findIdx? (fun e => (e.born : Int) == (st : Int)) = some i := by
  have hlt : i < es.size := by have := (List.getElem?_eq_some_iff.1 hi).1; simpa using this
  rw [Array.findIdx?_eq_some_iff_getElem]
  have hei : es[i] = e := by have := (List.getElem?_eq_some_iff.1 hi).2; simpa using this
  refine ⟨hlt, by rw [hei]; simp [hst], fun j hj => ?_⟩
  have hjl : j < es.size := by omega
  have : es[j].born ≠ st := by
   intro ej
   have q1 : (es.toList.map (·.born))[j]? = some st := by simp [hjl, ej]
   have q2 : (es.toList.map (·.born))[i]? = some st := by rw [List.getElem?_map, hi]; simp [hst]
   have := (List.getElem?_inj (by simp; omega) hm.2.1).1 (q1.trans q2.symm)
   omega
  simp; omega
 have hki' : ∀ j, (D.map (·.1))[j]? = some k ↔ j = i := by
  intro j
  constructor
  ·intro hj; exact (List.getElem?_inj (List.getElem?_eq_some_iff.1 hj).1 hm.2.2.2.1).1 (hj.trans hki.symm)
  ·rintro rfl; exact hki
 have hkey : e.key = enc k := by
  have e1 := congrArg (·[i]?) (keys_of hm)
  simp only [List.getElem?_map, hi] at e1
  have e2 := hki
  simp only [List.getElem?_map] at e2
  cases hd : D[i]? with
  | none => rw [hd] at e2; simp at e2
  | some d => rw [hd] at e1 e2; simp at e1 e2; rw [e1, e2]
 have hsome : (mget D k).isSome := by
  cases hg : mget D k with
  | none => exact absurd (List.mem_of_getElem? hki) (mget_none.1 hg)
  | some _ => rfl
 have hp : mput D k v = D.map fun d => if d.1 = k then (k, v) else d := by unfold mput; rw [if_pos hsome]
 refine ⟨setObjW w b (.map (es.modify i fun e => { e with val := v }) clock), ?_, ?_, fun a u hc => setObjW_cell hnc hc⟩
 ·simp only [Instr.entryStore, Sem.run_bind, run_getObj_map hb, Result.andThen_ok, asInt, asIntOf, Sem.run_pure, hidx, run_setObj_map hb]
 ·have hmod : (es.modify i fun e => { e with val := v }) = es.modify i fun e => { e with key := enc k, val := v } := by
   apply Array.ext_getElem?
   intro j
   rw [Array.getElem?_modify, Array.getElem?_modify]
   by_cases hij : i = j
   ·subst hij
    have : es[i]? = some e := by simpa using hi
    rw [if_pos rfl, if_pos rfl, this]; simp [hkey]
   ·rw [if_neg hij, if_neg hij]
  rw [hmod]
  refine .mp_of ?_ (h.set_obj (by simp) (by simp))
  have hborn : (es.modify i fun e => { e with key := enc k, val := v }).toList.map (·.born) = es.toList.map (·.born) := by
   rw [Array.toList_modify]
   apply List.ext_getElem?
   intro j
   simp only [List.getElem?_map, List.getElem?_modify]
   cases es.toList[j]? with
   | none => simp
   | some e => by_cases hij : i = j <;> simp [hij]
  refine ⟨by rw [hp, Array.toList_modify]; exact map_modify_eq v hm.1 hki', by rw [hborn]; exact hm.2.1, ?_, keys_put_nodup hm.2.2.2.1 k v, ?_⟩
  ·intro e' he'
   have : e'.born ∈ (es.modify i fun e => { e with key := enc k, val := v }).toList.map (·.born) := List.mem_map_of_mem he'
   rw [hborn] at this
   obtain ⟨e'', he'', hbb⟩ := List.mem_map.1 this
   rw [← hbb]; exact hm.2.2.1 e'' he''
  ·intro d hd
   rw [hp] at hd
   obtain ⟨d', hd', rfl⟩ := List.mem_map.1 hd
   by_cases ek : d'.1 = k
   ·rw [if_pos ek]
    have h1 := hm.2.2.2.2 d' hd'
    rw [ek] at h1; exact h1
   ·rw [if_neg ek]; exact hm.2.2.2.2 d' hd'
theorem run_range_none {t e : TypeId} (ht : P.underlying t = some (.map kt e)) (w : World) : (Instr.range t (.map none)).run P w = .ok (.pointer (some ⟨w.heap.size, 0, none⟩)) (w.alloc (.mapIter none 0 #[] 0)) := by
 simp [Instr.range, run_underlying ht]
theorem run_next_none {ty : TypeId} (h : w.heap[r]? = some (.mapIter none 0 #[] 0)) : (Instr.next (.pointer (some ⟨r, 0, none⟩)) false ty).run P w = .ok (.tuple #[.bool false]) w := by
 simp [Instr.next, run_getObj_iter h]
end
end Go.Sep
/- The program's engine: two transactions at once, one of which is ahead of the other one. No walk in sight. -/
namespace Go.Proofs.YtdlkjppppdminaaGreatDoor
open Go Go.RowKit Go.Sep
variable {w w0 : World} {L : List HProp} {b : Nat} {bs : List Nat} {k : EngV} {e : Eng} {i j : Nat}
theorem txK_parts (bs : List Nat) (b : Nat) (v : TxV) (x : Tx) : txK bs b v x = sep (blk b 172 (txF v x)) (sep (sl 181 2 v.rv x.reads.length (pcells x.reads)) (sep (mp encI (fun _ => True) v.mb (ienc x.writes)) (sep (sl 167 1 v.fv x.fore.length (ptrs bs x.fore)) (sl 167 1 v.av x.aft.length (ptrs bs x.aft))))) := rfl
theorem Eng.note_txs (e : Eng) (hi : i < e.txs.length) (hj : j < e.txs.length) (hij : i ≠ j) : (e.note i j).txs = (e.txs.set i { e.tx i with aft := (e.tx i).aft ++ [j] }).set j { e.tx j with fore := (e.tx j).fore ++ [i] } := by
 unfold Eng.note
 rw [Eng.upd_set (by rw [Eng.upd_len]; exact hj), Eng.upd_ne hij, Eng.upd_set hi]
def twoX (b : Nat) (bs : List Nat) (k : EngV) (e : Eng) (i j : Nat) : HProp :=
 sep (blk (blkOf bs i) 172 (txF (k.v i) (e.tx i))) (sep (sl 181 2 (k.v i).rv (e.tx i).reads.length (pcells (e.tx i).reads)) (sep (mp encI (fun _ => True) (k.v i).mb (ienc (e.tx i).writes)) (sep (sl 167 1 (k.v i).fv (e.tx i).fore.length (ptrs bs (e.tx i).fore))
  (sep (blk (blkOf bs j) 172 (txF (k.v j) (e.tx j))) (sep (sl 181 2 (k.v j).rv (e.tx j).reads.length (pcells (e.tx j).reads)) (sep (mp encI (fun _ => True) (k.v j).mb (ienc (e.tx j).writes)) (sep (sl 167 1 (k.v j).av (e.tx j).aft.length (ptrs bs (e.tx j).aft))
  (sep (pur (k.tv.length = e.txs.length)) (engG b bs k.txv k.hv k.wb e.txs.length e.count e.wr e.hist (((txPs bs k.tv e.txs).set i emp).set j emp))))))))))
theorem _root_.Go.Sep.S.eng_two (h : S w0 w (engO b bs k e :: L)) (hi : i < e.txs.length) (hj : j < e.txs.length) (hij : i ≠ j) :
  S w0 w (sl 167 1 (k.v i).av (e.tx i).aft.length (ptrs bs (e.tx i).aft) :: sl 167 1 (k.v j).fv (e.tx j).fore.length (ptrs bs (e.tx j).fore) :: twoX b bs k e i j :: L) := by
 obtain ⟨hp, h⟩ := h.sep_elim.pur_elim
 have hli : i < (txPs bs k.tv e.txs).length := by rw [txPs_length]; exact hi
 have h1 := h.engG_out i hli
 rw [txPs_get hli] at h1
 have hlj : j < ((txPs bs k.tv e.txs).set i emp).length := by rw [List.length_set, txPs_length]; exact hj
 have h2 := h1.swap.engG_out j hlj
 rw [List.getElem_set_ne hij, txPs_get] at h2
 have h3 := S.pur_intro hp h2
 refine h3.conv ?_
 simp only [all, twoX]
 rw [show (k.tv[i]?).getD .none = k.v i from rfl, show (k.tv[j]?).getD .none = k.v j from rfl, show (e.txs[i]?).getD .zero = e.tx i from rfl, show (e.txs[j]?).getD .zero = e.tx j from rfl, txK_parts, txK_parts]
 ac_rfl
theorem two_blks (w0 : World) (b : Nat) (bs : List Nat) (k : EngV) (e : Eng) (i j : Nat) : ∃ Y, (∀ W M, S w0 W (twoX b bs k e i j :: M) → S w0 W (blk (blkOf bs i) 172 (txF (k.v i) (e.tx i)) :: blk (blkOf bs j) 172 (txF (k.v j) (e.tx j)) :: Y :: M)) ∧
  Y = sep (sl 181 2 (k.v i).rv (e.tx i).reads.length (pcells (e.tx i).reads)) (sep (mp encI (fun _ => True) (k.v i).mb (ienc (e.tx i).writes)) (sep (sl 167 1 (k.v i).fv (e.tx i).fore.length (ptrs bs (e.tx i).fore))
  (sep (sl 181 2 (k.v j).rv (e.tx j).reads.length (pcells (e.tx j).reads)) (sep (mp encI (fun _ => True) (k.v j).mb (ienc (e.tx j).writes)) (sep (sl 167 1 (k.v j).av (e.tx j).aft.length (ptrs bs (e.tx j).aft))
  (sep (pur (k.tv.length = e.txs.length)) (engG b bs k.txv k.hv k.wb e.txs.length e.count e.wr e.hist (((txPs bs k.tv e.txs).set i emp).set j emp)))))))) :=
 ⟨_, fun W M hW => hW.conv (by simp only [all, twoX]; ac_rfl), rfl⟩
theorem _root_.Go.Sep.S.two_cells (h : S w0 w (twoX b bs k e i j :: L)) : w.cell? ⟨blkOf bs i, 10, none⟩ = some (k.v i).av ∧ w.cell? ⟨blkOf bs j, 9, none⟩ = some (k.v j).fv ∧ w.frozen? ⟨blkOf bs i, 10, none⟩ = false ∧ w.frozen? ⟨blkOf bs j, 9, none⟩ = false := by
 obtain ⟨Y, hY, _⟩ := two_blks w0 b bs k e i j
 have h1 := hY w L h
 exact ⟨h1.blk_cell 10 rfl, h1.tail.blk_cell 9 rfl, h1.blk_free 10, h1.tail.blk_free 9⟩
theorem _root_.Go.Sep.S.two_close {av fv : Value} (hi : i < e.txs.length) (hj : j < e.txs.length) (hij : i ≠ j) (h : S w0 w (sl 167 1 av ((e.tx i).aft.length + 1) (ptrs bs (e.tx i).aft ++ [ptr bs j]) :: sl 167 1 fv ((e.tx j).fore.length + 1) (ptrs bs (e.tx j).fore ++ [ptr bs i]) :: twoX b bs k e i j :: L)) :
  ∃ k', k'.txv = k.txv ∧ S w0 ((w.setCell ⟨blkOf bs i, 10, none⟩ av).setCell ⟨blkOf bs j, 9, none⟩ fv) (engO b bs k' (e.note i j) :: L) := by
 have h0 : S w0 w (twoX b bs k e i j :: sl 167 1 av ((e.tx i).aft.length + 1) (ptrs bs (e.tx i).aft ++ [ptr bs j]) :: sl 167 1 fv ((e.tx j).fore.length + 1) (ptrs bs (e.tx j).fore ++ [ptr bs i]) :: L) := h.rot3
 obtain ⟨Y, hY, rfl⟩ := two_blks w0 b bs k e i j
 have h1 := (hY _ _ h0).blk_set 10 (by simp [txF]) av
 have h2 := h1.swap.blk_set 9 (by simp [txF]) fv
 let xi : Tx := { e.tx i with aft := (e.tx i).aft ++ [j] }
 let xj : Tx := { e.tx j with fore := (e.tx j).fore ++ [i] }
 let vi : TxV := { k.v i with av := av }
 let vj : TxV := { k.v j with fv := fv }
 have hp : k.tv.length = e.txs.length := by
  have h3 : S w0 _ (pur (k.tv.length = e.txs.length) :: _) := h2.conv (M := pur (k.tv.length = e.txs.length) :: blk (blkOf bs j) 172 ((txF (k.v j) (e.tx j)).set 9 fv) :: blk (blkOf bs i) 172 ((txF (k.v i) (e.tx i)).set 10 av) :: sl 181 2 (k.v i).rv (e.tx i).reads.length (pcells (e.tx i).reads) :: mp encI (fun _ => True) (k.v i).mb (ienc (e.tx i).writes) :: sl 167 1 (k.v i).fv (e.tx i).fore.length (ptrs bs (e.tx i).fore) ::
   sl 181 2 (k.v j).rv (e.tx j).reads.length (pcells (e.tx j).reads) :: mp encI (fun _ => True) (k.v j).mb (ienc (e.tx j).writes) :: sl 167 1 (k.v j).av (e.tx j).aft.length (ptrs bs (e.tx j).aft) :: engG b bs k.txv k.hv k.wb e.txs.length e.count e.wr e.hist (((txPs bs k.tv e.txs).set i emp).set j emp) ::
   sl 167 1 av ((e.tx i).aft.length + 1) (ptrs bs (e.tx i).aft ++ [ptr bs j]) :: sl 167 1 fv ((e.tx j).fore.length + 1) (ptrs bs (e.tx j).fore ++ [ptr bs i]) :: L) (by simp only [all]; ac_rfl)
  exact h3.pur_elim.1
 have h3 : S w0 ((w.setCell ⟨blkOf bs i, 10, none⟩ av).setCell ⟨blkOf bs j, 9, none⟩ fv) (txK bs (blkOf bs j) vj xj :: engG b bs k.txv k.hv k.wb e.txs.length e.count e.wr e.hist (((txPs bs k.tv e.txs).set i emp).set j emp) :: txK bs (blkOf bs i) vi xi :: pur (k.tv.length = e.txs.length) :: L) := by
  refine h2.conv ?_
  rw [txK_parts, txK_parts]
  have e1 : (txF (k.v i) (e.tx i)).set 10 av = txF vi xi := rfl
  have e2 : (txF (k.v j) (e.tx j)).set 9 fv = txF vj xj := rfl
  have e3 : ptrs bs (e.tx i).aft ++ [ptr bs j] = ptrs bs xi.aft := by simp [ptrs, xi]
  have e4 : ptrs bs (e.tx j).fore ++ [ptr bs i] = ptrs bs xj.fore := by simp [ptrs, xj]
  have e5 : (e.tx i).aft.length + 1 = xi.aft.length := by simp [xi]
  have e6 : (e.tx j).fore.length + 1 = xj.fore.length := by simp [xj]
  rw [e1, e2, e3, e4, e5, e6]
  simp only [all]
  show _ = sep (sep _ (sep (sl _ 2 (k.v j).rv (e.tx j).reads.length (pcells (e.tx j).reads)) (sep (mp encI (fun _ => True) (k.v j).mb (ienc (e.tx j).writes)) (sep (sl _ 1 fv _ _) (sl _ 1 (k.v j).av (e.tx j).aft.length (ptrs bs (e.tx j).aft)))))) (sep _ (sep (sep _ (sep (sl _ 2 (k.v i).rv (e.tx i).reads.length (pcells (e.tx i).reads)) (sep (mp encI (fun _ => True) (k.v i).mb (ienc (e.tx i).writes)) (sep (sl _ 1 (k.v i).fv (e.tx i).fore.length (ptrs bs (e.tx i).fore)) (sl _ 1 av _ _))))) _))
  ac_rfl
 have hlj : j < ((txPs bs k.tv e.txs).set i emp).length := by rw [List.length_set, txPs_length]; exact hj
 have h4 := S.engG_in hlj h3
 rw [List.set_comm _ _ hij] at h4
 have hli : i < ((txPs bs k.tv e.txs).set j (txK bs (blkOf bs j) vj xj)).length := by rw [List.length_set, txPs_length]; exact hi
 have h5 := S.engG_in hli h4.swap
 rw [txPs_set hj (by omega), txPs_set (by simpa using hi) (by simp; omega)] at h5
 obtain ⟨_, h6⟩ := h5.swap.pur_elim
 refine ⟨(k.set j vj).set i vi, rfl, ?_⟩
 have hnt := Eng.note_txs e hi hj hij
 rw [List.set_comm _ _ hij] at hnt
 refine .sep_intro (.pur_intro ?_ ?_)
 ·rw [Eng.note_len]; simpa [EngV.set] using hp
 ·have e7 : engG b bs k.txv k.hv k.wb e.txs.length e.count e.wr e.hist (txPs bs ((k.tv.set j vj).set i vi) ((e.txs.set j xj).set i xi)) = engG b bs ((k.set j vj).set i vi).txv ((k.set j vj).set i vi).hv ((k.set j vj).set i vi).wb (e.note i j).txs.length (e.note i j).count (e.note i j).wr (e.note i j).hist (txPs bs ((k.set j vj).set i vi).tv (e.note i j).txs) := by
   rw [hnt]
   simp only [EngV.set, List.length_set]
   rfl
  rw [← e7]; exact h6
end Go.Proofs.YtdlkjppppdminaaGreatDoor
/- Regions in which several slices are made: what each step leaves, whatever the order. -/
namespace Go.Sep
open Go Go.RowKit
variable {w w0 w' : World} {L M : List HProp} {A : HProp}
theorem S.join (h : S w0 w L) (hM : S w w' M) : S w0 w' (M ++ L) := S.unpack (h.add hM.1 hM.2)
theorem S.nth (h : S w0 w L) (i : Nat) (hi : L[i]? = some A) : S w0 w (A :: L.eraseIdx i) := by
 obtain ⟨hl, rfl⟩ := List.getElem?_eq_some_iff.1 hi
 exact h.conv (by rw [all_pick L i hl]; rfl)
def SB (w0 w : World) (n : Nat) (L : List HProp) : Prop := S w0 w L ∧ w.heap.size = n
theorem SB.base (h : S w0 w L) : SB w0 w w.heap.size L := ⟨h, rfl⟩
theorem SB.getD {n : Nat} (h : SB w0 w n L) : S w0 w.drew L := h.1.drew
variable {P : Program}
end Go.Sep
namespace Go.Proofs.YtdlkjppppdminaaGreatDoor
open Go Go.RowKit Go.Sep
end Go.Proofs.YtdlkjppppdminaaGreatDoor
/- Regions in which slices of structs are made: what each step leaves, whatever the order. -/
namespace Go.Sep
open Go Go.RowKit
variable {w w0 : World} {L : List HProp}
theorem S.news_slK {e size : Nat} {ad : Option Addr} {m c : Nat} {xs : List Value} (h : S w0 w L) (k : Nat) (hk : L[k]? = some (sl e size (.slice ad m c) m xs)) : ∀ j u, xs[j]? = some u → ∃ b, ad = some b ∧ w.cell? (b.add j) = some u := by
 intro j u hj
 obtain ⟨a, cap, hv, _, _, hc⟩ := (h.nth k hk).sl_val
 obtain ⟨g, o, ha, hcell, _⟩ := hc j u hj
 simp only [Value.slice.injEq] at hv
 refine ⟨⟨g, o, none⟩, by rw [hv.1, ha], ?_⟩
 have e1 : (⟨g, o, none⟩ : Addr).add j = ⟨g, o + j, none⟩ := by unfold Addr.add; split <;> simp_all
 rw [e1]; exact hcell
theorem S.rest {M N : List HProp} (h : S w0 w (M ++ N)) : S w0 w N := (S.pack M N h).tail
variable {P : Program}
end Go.Sep
/- Regions that draw their order and whose last stores turn what their loads read: what is held is asked only till the first of those stores has come up. No program in sight. -/
namespace Go.Sep
open Go
section
open Go.RowKit
variable {P : Program} {w w0 : World} {L : List HProp}
theorem S.alloc_slU {e size : Nat} (h : S w0 w L) (xs : List Value) (n : Nat) (hl : xs.length = n * size) (hm : n ≤ maxLen) :
  S w0 (w.alloc (.cells xs.toArray e)) (sl e size (.slice (some ⟨w.heap.size, 0, none⟩) n n) n xs :: L) := (h.alloc xs.toArray e).sl_blk (by simpa using hl) hm
theorem step_appU {ops : Array Oper} {o : Oper} {a : Act} {K : Act → World → Prop} {Q : Exit → Act → World → Prop} {E : Prop} (hg : o.guard = none) (s x : Operand) (t : TypeId)
  (hop : o.op = .call { callee := .builtin .append, args := #[s, x], argTypes := #[t, t] })
  (e : TypeId) (i : TypeInfo) (z : Value) (size bytes : Nat) (ht : P.underlying t = some (.slice e)) (hi : P.info? e = some i) (hz : i.zero = some z)
  (hsize : i.size = size) (hby : i.bytes = bytes) (hzs : z.cells.size = size) (hsz : 0 < size) (hW : S w0 w L) (ix : Nat) {v : Value} {n : Nat} {xs : List Value} (hix : L[ix]? = some (sl e size v n xs)) (hv : a.eval s = v)
  (ad : Option Addr) (m c : Nat) (news : List Value) (hx : a.eval x = .slice ad m c) (hl : news.length = m * size) (hnews : ∀ j u, news[j]? = some u → ∃ b, ad = some b ∧ w.cell? (b.add j) = some u) (h1 : ∀ u ∈ news, u.oneCell' = true)
  (h63 : n + m ≤ 1000000000000) (hb8 : bytes ≤ 100)
  (h : ∀ v' w', S w0 w' (sl e size v' (n + m) (xs ++ news) :: L.eraseIdx ix) → K (a.put o.dst v') w') : if Region.wanted o (yielded ops a.tmps) = true then Oper.wp P o a w K Q else E :=
 step_append hg s x t hop e i z size bytes ht hi hz hsize hby hzs hsz (hW.nth ix hix) hv ad m c news hx hl hnews h1 (by unfold maxLen; omega)
  (by have := Nat.mul_le_mul h63 hb8; omega) h
end
variable {P : Program} {md : Region.Mode} {ops : Array Oper} {Q : Exit → Act → World → Prop} {S : World → Prop} {u : Nat}
def anyU (P : Program) (md : Region.Mode) (ops : Array Oper) (Q : Exit → Act → World → Prop) (S : World → Prop) (u : Nat) : Nat → Array Bool → Act → World → Prop
 | 0, listed, a, w => Region.ready md ops listed = [] ∧ Q .normal a w
 | n + 1, listed, a, w => (Region.ready md ops listed = [] → Q .normal a w) ∧
  ∀ i ∈ Region.ready md ops listed, wpOp P ops Q i (fun a' w' => ((listed.setIfInBounds i true).getD u true = false → S w') ∧ anyU P md ops Q S u n (listed.setIfInBounds i true) a' w') a w
theorem any_of_U : ∀ (n : Nat) (listed : Array Bool) (a : Act) (w : World), anyU P md ops Q S u n listed a w → wpAny P md ops Q n listed a w
 | 0, _, _, _, h => h
 | n + 1, _, _, _, h => ⟨h.1, fun i hi => wpOp_mono (fun a' w' g => any_of_U n _ a' w' g.2) (h.2 i hi)⟩
theorem region_U {id : Nat} {a : Act} {w : World} (hm : P.follows .mixedOrders = true) (hS : S w.drew)
  (h : S w.drew → anyU P .any ops Q S u ops.size (Array.replicate ops.size false) a w.drew) : (Code.region id ops true).wp P Q a w :=
 wp_region_any hm (any_of_U _ _ _ _ (h hS))
def waitsFor (md : Region.Mode) (ops : Array Oper) (u i : Nat) : Bool := match ops[u]? with
 | some o => o.after.any fun e => Region.binds md e && e.on == i
 | none => false
theorem not_listed {listed : Array Bool} {i : Nat} (h : listed.getD i true = false) : listed.getD i false = false := by
 rcases Nat.lt_or_ge i listed.size with h' | h'
 ·simp [h'] at h ⊢; exact h
 ·simp [Array.getElem?_eq_none h'] at h
theorem waits_not_ready {listed : Array Bool} {i : Nat} (hw : waitsFor md ops u i = true) (hi : listed.getD i true = false) : u ∉ Region.ready md ops listed := by
 intro hu
 obtain ⟨_, o, ho, hall⟩ := mem_ready.1 hu
 unfold waitsFor at hw
 rw [ho] at hw
 simp only [Array.any_eq_true, Bool.and_eq_true, beq_iff_eq] at hw
 obtain ⟨j, hj, hb, he⟩ := hw
 have := hall _ (Array.getElem_mem hj) hb
 rw [he, not_listed hi] at this
 cases this
theorem anyU_first {i : Nat} {oi : Oper} {v : Value} {c : Bool} (hi : ops[i]? = some oi) (hsel : Region.noSelect ops = true) (hQ : ∀ d a w, Q (.panic d) (a.put oi.dst v) w → Q (.panic d) a w) (hiu : i ≠ u) (hc : c = true → waitsFor md ops u i = true) :
  ∀ (n : Nat) (listed : Array Bool) (a : Act) (w : World), (c = true → listed.getD u true = false) → Region.free md ops listed i = true → i ∈ Region.ready md ops listed → YieldsIf P ops (fun w => c = true → S w) oi v a → (c = true → S w) → (listed.getD u true = false → S w) →
   anyU P md ops Q S u n (listed.setIfInBounds i true) (a.put oi.dst v) w → anyU P md ops Q S u (n + 1) listed a w := by
 have fr : ∀ (listed : Array Bool) (j : Nat), j ≠ i → Region.free md ops listed i = true → Region.free md ops (listed.setIfInBounds j true) i = true := by
  intro listed j hji h
  unfold Region.free at h ⊢
  rw [hi] at h ⊢
  simp only [List.all_eq_true, List.mem_range] at h ⊢
  intro k hk
  have hk' := h k hk
  by_cases hjk : j = k
  ·subst hjk
   rcases Nat.lt_or_ge j listed.size with hl | hl
   ·simp [hl]
   ·rw [Array.setIfInBounds_eq_of_size_le hl]; exact hk'
  ·rw [getD_set_ne true hjk]; exact hk'
 intro n
 induction n with
 | zero =>
  intro listed a w _ _ hr hy hS hU H
  refine ⟨fun h => (by rw [h] at hr; cases hr), fun j hj => ?_⟩
  by_cases hji : j = i
  ·subst hji
   exact hy.wpOp hi hS ⟨fun hu => hU (by rw [getD_set_ne true hiu] at hu; exact hu), H⟩
  ·have := ready_mono hj hji
   rw [H.1] at this
   cases this
 | succ n ih =>
  intro listed a w hcu hfree hr hy hS hU H
  refine ⟨fun h => (by rw [h] at hr; cases hr), fun j hj => ?_⟩
  by_cases hji : j = i
  ·subst hji
   exact hy.wpOp hi hS ⟨fun hu => hU (by rw [getD_set_ne true hiu] at hu; exact hu), H⟩
  ·have h1 := H.2 j (ready_mono hj hji)
   obtain ⟨hjun, oj, hoj, hall⟩ := mem_ready.1 hj
   have hir := (mem_ready.1 hr).1
   have hnot : ∀ e ∈ oj.after, Region.binds md e = true → e.on ≠ i := fun e he hb heq => by
    have g := hall e he hb
    rw [heq, not_listed hir] at g; cases g
   have hap := Region.free_spec hi hfree j oj hoj hji hjun hnot
   have h2 := wpOp_putIf hoj hap (fun cs b => Region.noSelect_spec hsel i oi cs b hi) (fun cs b => Region.noSelect_spec hsel j oj cs b hoj) hQ hy h1
   have hcomm : ((listed.setIfInBounds i true).setIfInBounds j true) = ((listed.setIfInBounds j true).setIfInBounds i true) := Array.setIfInBounds_comm _ _ (Ne.symm hji)
   rw [hcomm] at h2
   refine wpOp_mono (fun a' w' h3 => ?_) h2
   obtain ⟨hy', hS', H'⟩ := h3
   have hS1 : (listed.setIfInBounds j true).getD u true = false → S w' := fun hu => hS' (by rw [getD_set_ne true hiu]; exact hu)
   have hcu' : c = true → (listed.setIfInBounds j true).getD u true = false := fun hcc => by
    have hju : j ≠ u := fun e => by subst e; exact waits_not_ready (hc hcc) hir hj
    rw [getD_set_ne true hju]; exact hcu hcc
   exact ⟨hS1, ih _ a' w' hcu' (fr _ _ hji hfree) (ready_mono hr (Ne.symm hji)) hy' (fun hcc => hS1 (hcu' hcc)) hS1 H'⟩
theorem anyU_take {i : Nat} {oi : Oper} {v : Value} {n : Nat} {listed : Array Bool} {a : Act} {w : World} (hi : ops[i]? = some oi)
  (hs : (Region.noSelect ops && waitsFor md ops u i && !(i == u) && !(listed.getD u true) && Region.free md ops listed i && (Region.ready md ops listed).contains i) = true)
  (hQ : ∀ c a w, Q (.panic c) (a.put oi.dst v) w → Q (.panic c) a w) (hy : YieldsIf P ops S oi v a) (hS : S w)
  (h : anyU P md ops Q S u n (listed.setIfInBounds i true) (a.put oi.dst v) w) : anyU P md ops Q S u (n + 1) listed a w := by
 simp only [Bool.and_eq_true, Bool.not_eq_true', beq_eq_false_iff_ne, ne_eq] at hs
 obtain ⟨⟨⟨⟨⟨h1, h2⟩, h3⟩, h4⟩, h5⟩, h6⟩ := hs
 exact anyU_first (c := true) hi h1 hQ h3 (fun _ => h2) n listed a w (fun _ => h4) h5 (by simpa using h6) (by unfold YieldsIf at hy ⊢; exact hy.imp (fun ⟨a, b⟩ => ⟨a, fun w hw => b w (hw rfl)⟩) id) (fun _ => hS) (fun _ => hS) h
theorem anyU_pure {i : Nat} {oi : Oper} {v : Value} {n : Nat} {listed : Array Bool} {a : Act} {w : World} (hi : ops[i]? = some oi)
  (hs : (Region.noSelect ops && !(i == u) && Region.free md ops listed i && (Region.ready md ops listed).contains i) = true)
  (hQ : ∀ c a w, Q (.panic c) (a.put oi.dst v) w → Q (.panic c) a w) (hy : YieldsIf P ops (fun _ => True) oi v a) (hS : listed.getD u true = false → S w)
  (h : anyU P md ops Q S u n (listed.setIfInBounds i true) (a.put oi.dst v) w) : anyU P md ops Q S u (n + 1) listed a w := by
 simp only [Bool.and_eq_true, Bool.not_eq_true', beq_eq_false_iff_ne, ne_eq] at hs
 obtain ⟨⟨⟨h1, h3⟩, h5⟩, h6⟩ := hs
 exact anyU_first (c := false) hi h1 hQ h3 (by simp) n listed a w (by simp) h5 (by simpa using h6) (by unfold YieldsIf at hy ⊢; exact hy.imp (fun ⟨a, b⟩ => ⟨a, fun w _ => b w trivial⟩) id) (by simp) hS h
def NextU (P : Program) (md : Region.Mode) (ops : Array Oper) (Q : Exit → Act → World → Prop) (S : World → Prop) (u : Nat) (n : Nat) (listed : Array Bool) (a : Act) (w : World) (rs : List Nat) : Prop :=
 ∀ i ∈ rs, wpOp P ops Q i (fun a' w' => ((listed.setIfInBounds i true).getD u true = false → S w') ∧ anyU P md ops Q S u n (listed.setIfInBounds i true) a' w') a w
theorem NextU.nil {n : Nat} {listed : Array Bool} {a : Act} {w : World} : NextU P md ops Q S u n listed a w [] := fun _ h => by cases h
theorem NextU.cons {n : Nat} {listed : Array Bool} {a : Act} {w : World} {i : Nat} {o : Oper} {rs : List Nat} (ho : ops[i]? = some o)
  (h : ∀ K' : Act → World → Prop, Shut (∀ a w, ((listed.setIfInBounds i true).getD u true = false → S w) → anyU P md ops Q S u n (listed.setIfInBounds i true) a w → K' a w) → if Region.wanted o (yielded ops a.tmps) = true then Oper.wp P o a w K' Q else K' (a.put o.dst undef) w)
  (hs : NextU P md ops Q S u n listed a w rs) : NextU P md ops Q S u n listed a w (i :: rs) := fun j hj => by
 rcases List.mem_cons.1 hj with rfl | hj
 ·exact wpOp_step ho (fun K' hK => h K' (fun a w hS hW => hK a w ⟨hS, hW⟩))
 ·exact hs j hj
theorem anyU_next {rs : List Nat} {n : Nat} {listed : Array Bool} {a : Act} {w : World} (hr : Region.ready md ops listed = rs) (hne : rs ≠ [])
  (h : NextU P md ops Q S u n listed a w rs) : anyU P md ops Q S u (n + 1) listed a w :=
 ⟨fun h0 => absurd (hr ▸ h0) hne, hr ▸ h⟩
theorem anyU_done {listed : Array Bool} {a : Act} {w : World} (hr : Region.ready md ops listed = []) (h : Q .normal a w) : ∀ n, anyU P md ops Q S u n listed a w
 | 0 => ⟨hr, h⟩
 | _ + 1 => ⟨fun _ => h, by rw [hr]; simp⟩
theorem anyU_world {n : Nat} {listed : Array Bool} {a : Act} {w : World} (q : World → Prop) (hq : q w) (h : ∀ w', q w' → anyU P md ops Q S u n listed a w') : anyU P md ops Q S u n listed a w := h w hq
theorem anyH_world {n : Nat} {listed : Array Bool} {a : Act} {w : World} (q : World → Prop) (hq : q w) (h : ∀ w', q w' → wpAnyH P md ops Q S n listed a w') : wpAnyH P md ops Q S n listed a w := h w hq
theorem step_mapu {ops : Array Oper} {o : Oper} {a : Act} {w w' : World} {K : Act → World → Prop} {Q : Exit → Act → World → Prop} {E : Prop} (hg : o.guard = none) (t : TypeId) (m k v : Operand) (hop : o.op = .mapUpdate t m k v)
  {M Kv V : Value} (hm : a.eval m = M) (hk : a.eval k = Kv) (hv : a.eval v = V) (hr : (Instr.mapUpdate t M Kv V).run P w = .ok () w') (h : K (a.put o.dst undef) w') : if Region.wanted o (yielded ops a.tmps) = true then Oper.wp P o a w K Q else E := by
 rw [if_pos (by simp [Region.wanted, hg])]
 unfold Oper.wp execOp
 simp only [hop, hm, hk, hv, Sem.run_bind, hr, Result.andThen_ok, Sem.run_pure]
 exact h
theorem step_mapuE {ops : Array Oper} {o : Oper} {a : Act} {w : World} {R : World → Prop} {K : Act → World → Prop} {Q : Exit → Act → World → Prop} {E : Prop} (hg : o.guard = none) (t : TypeId) (m k v : Operand) (hop : o.op = .mapUpdate t m k v)
  {M Kv V : Value} (hm : a.eval m = M) (hk : a.eval k = Kv) (hv : a.eval v = V) (hr : ∃ w', (Instr.mapUpdate t M Kv V).run P w = .ok () w' ∧ R w') (h : ∀ w', R w' → K (a.put o.dst undef) w') : if Region.wanted o (yielded ops a.tmps) = true then Oper.wp P o a w K Q else E := by
 obtain ⟨w', h1, h2⟩ := hr
 exact step_mapu hg t m k v hop hm hk hv h1 (h w' h2)
theorem act_any {K : Act → World → Prop} {a : Act} {w : World} (q : World → Prop) (hq : q w) (h : ∀ w', q w' → K a w') : K a w := h w hq
end Go.Sep
/- Transactions at the same time: no two things happen at one step. No walk in sight. -/
namespace Go.Proofs.YtdlkjppppdminaaGreatDoor
open Go Go.RowKit Go.Sep
variable {e : Eng} {i j : Nat}
structure Times (e : Eng) : Prop where
 begun : ∀ j, j < e.txs.length → (e.tx j).begun ≤ e.count
 ended : ∀ j, j < e.txs.length → (e.tx j).ended ≤ e.count
 apart : ∀ i j, i < e.txs.length → j < e.txs.length → 2 ≤ (e.tx i).state → (e.tx i).ended ≠ (e.tx j).begun
theorem Times.start : Times Eng.zero := by
 refine ⟨fun j h => ?_, fun j h => ?_, fun i j h => ?_⟩ <;> simp [Eng.zero] at h
theorem Times.upd {f : Tx → Tx} (h : Times e) (hb : (f (e.tx i)).begun = (e.tx i).begun) (he : (f (e.tx i)).ended = (e.tx i).ended) (hs : 2 ≤ (f (e.tx i)).state → 2 ≤ (e.tx i).state) : Times (e.upd i f) := by
 have hbb : ∀ j, ((e.upd i f).tx j).begun = (e.tx j).begun := fun j => by
  rw [Eng.upd_tx]; split
  ·rename_i hc; rw [← hc.1]; exact hb
  ·rfl
 have hee : ∀ j, ((e.upd i f).tx j).ended = (e.tx j).ended := fun j => by
  rw [Eng.upd_tx]; split
  ·rename_i hc; rw [← hc.1]; exact he
  ·rfl
 have hss : ∀ j, 2 ≤ ((e.upd i f).tx j).state → 2 ≤ (e.tx j).state := fun j => by
  rw [Eng.upd_tx]; split
  ·rename_i hc; rw [← hc.1]; exact hs
  ·exact id
 refine ⟨fun j hj => ?_, fun j hj => ?_, fun m j hm hj hst => ?_⟩
 ·rw [Eng.upd_len] at hj; rw [hbb]; exact h.begun j hj
 ·rw [Eng.upd_len] at hj; rw [hee]; exact h.ended j hj
 ·rw [Eng.upd_len] at hm hj; rw [hbb, hee]; exact h.apart m j hm hj (hss m hst)
theorem Times.note (h : Times e) (a b : Nat) : Times (e.note a b) := (h.upd rfl rfl id).upd rfl rfl id
theorem Times.opens (h : Times e) (i : Nat) : Times (e.opens i) := h.upd rfl rfl (by simp)
theorem Times.wput (h : Times e) (i : Nat) (w : Int × Int) : Times (e.wput i w) := h.upd rfl rfl id
theorem Times.lets (h : Times e) (i : Nat) : Times (e.lets i) := ⟨h.begun, h.ended, h.apart⟩
theorem Times.over {f : Tx → Tx} (h : Times e) (hb : (f (e.tx i)).begun = (e.tx i).begun) (he : (f (e.tx i)).ended = e.count + 1) : Times { e.upd i f with count := e.count + 1 } := by
 have hbb : ∀ j, ((e.upd i f).tx j).begun = (e.tx j).begun := fun j => by
  rw [Eng.upd_tx]; split
  ·rename_i hc; rw [← hc.1]; exact hb
  ·rfl
 refine ⟨fun j hj => ?_, fun j hj => ?_, fun m j hm hj hst => ?_⟩
 ·have hj2 : j < e.txs.length := by rw [← Eng.upd_len e i f]; exact hj
  have := h.begun j hj2
  show ((e.upd i f).tx j).begun ≤ e.count + 1
  rw [hbb]; omega
 ·have hj2 : j < e.txs.length := by rw [← Eng.upd_len e i f]; exact hj
  have := h.ended j hj2
  show ((e.upd i f).tx j).ended ≤ e.count + 1
  rw [Eng.upd_tx]; split
  ·rename_i hc; rw [← hc.1, he]; omega
  ·omega
 ·have hj2 : j < e.txs.length := by rw [← Eng.upd_len e i f]; exact hj
  have hm2 : m < e.txs.length := by rw [← Eng.upd_len e i f]; exact hm
  have h1 := h.begun j hj2
  show ((e.upd i f).tx m).ended ≠ ((e.upd i f).tx j).begun
  have hst2 : 2 ≤ ((e.upd i f).tx m).state := hst
  rw [hbb]
  rw [Eng.upd_tx] at hst2 ⊢
  split
  ·rename_i hc; rw [← hc.1, he]; omega
  ·rename_i hc
   rw [if_neg hc] at hst2
   exact h.apart m j hm2 hj2 hst2
theorem Times.mark (h : Times e) (i : Nat) (why : Int) : Times (e.mark i why) := h.over rfl rfl
theorem Times.left (h : Times e) (i : Nat) (why : Int) : Times (e.left i why) := (h.mark i why).lets i
theorem Times.putsL {g : Eng → Nat → Int → Eng} (hg : ∀ e i why, Times e → Times (g e i why)) (i : Nat) (key : Int) : ∀ (l : List Nat) (e : Eng), Times e → Times (Go.Proofs.YtdlkjppppdminaaGreatDoor.putsL g i key l e)
 | [], e, h => h
 | j :: l, e, h => by
  unfold Go.Proofs.YtdlkjppppdminaaGreatDoor.putsL
  split
  ·exact Times.putsL hg i key l e h
  ·dsimp only
   split
   ·exact hg _ _ _ (h.note j i)
   ·exact Times.putsL hg i key l _ (h.note j i)
theorem Times.putsG {g : Eng → Nat → Int → Eng} (hg : ∀ e i why, Times e → Times (g e i why)) (h : Times e) (i : Nat) (w : Int × Int) : Times (Go.Proofs.YtdlkjppppdminaaGreatDoor.putsG g e i w) := by
 unfold Go.Proofs.YtdlkjppppdminaaGreatDoor.putsG
 split
 ·exact hg _ _ _ h
 ·split
  ·exact Times.putsL hg i w.1 _ _ (h.wput i w)
  ·exact h.wput i w
theorem Times.freesL {g : Eng → Nat → Int → Eng} (hg : ∀ e i why, Times e → Times (g e i why)) : ∀ (l : List (Int × Int)) (e : Eng), Times e → Times (Go.Proofs.YtdlkjppppdminaaGreatDoor.freesL g l e)
 | [], e, h => h
 | w :: l, e, h => by
  unfold Go.Proofs.YtdlkjppppdminaaGreatDoor.freesL
  exact Times.freesL hg l _ (Times.putsG hg (h.opens _) _ _)
theorem Times.goesN : ∀ (n : Nat) (e : Eng) (i : Nat) (why : Int), Times e → Times (Go.Proofs.YtdlkjppppdminaaGreatDoor.goesN n e i why)
 | 0, e, i, why, h => h
 | n + 1, e, i, why, h => by
  unfold Go.Proofs.YtdlkjppppdminaaGreatDoor.goesN freesG
  exact Times.freesL (Times.goesN n) _ _ ((h.mark i why).lets i)
end Go.Proofs.YtdlkjppppdminaaGreatDoor
/- A slice of structs among the arguments, of which a fact is known: the store's moves. -/
namespace Go.Proofs.YtdlkjppppdminaaGreatDoor
open Go Go.RowKit Go.Sep Go.ChangeShapes Go.WideShapes Go.ChangeAt Go.Deep
end Go.Proofs.YtdlkjppppdminaaGreatDoor
/- The store: Install, with its answer as one value. -/
namespace Go.Proofs.YtdlkjppppdminaaGreatDoor
open Go Go.RowKit Go.Sep
theorem _root_.Go.Sep.S.store_new2 {w0 w : World} {L : List HProp} {b T T' : Nat} (h : S w0 w (blk b T (List.replicate 10 (.slice none 0 0) ++ [.int .i64 0]) :: L)) : S w0 w (storeP T' b 0 (List.replicate 10 []) 0 :: L) := by
 refine .ex_intro (List.replicate 10 (.slice none 0 0)) (.sep_intro (.pur_intro ⟨rfl, rfl⟩ (.sep_intro ?_)))
 have h1 := h.blk_cells
 have h2 : ∀ n, S w0 w (cells b 0 (List.replicate 10 (.slice none 0 0) ++ [.int .i64 0]) :: all (List.replicate n (sl T' 2 (.slice none 0 0) 0 [])) :: L) := by
  intro n
  induction n with
  | zero => exact h1.conv (by simp [all, emp_sep])
  | succ n ih => exact (S.sl_nil (e := T') (size := 2) ih).conv (by simp only [all, List.replicate_succ]; rw [sep_left_comm]; simp only [sep_assoc])
 exact h2 10
def instErr (last at_ : Int) (l : Vers) : Err := if last < at_ ∧ at_ ≤ 1099511627776 then (match badAt 0 l with | none => .nil | some (x, p) => .at_ x p) else .no 10
def instOk (last at_ : Int) (l : Vers) : Bool := decide (last < at_ ∧ at_ ≤ 1099511627776) && (badAt 0 l).isNone
theorem install2 (w0 w : World) (b o : Nat) (V : List Vers) (last at_ : Int) (v : Value) (l : Vers) (L : List HProp) (N : Nat)
  (hs : S w0 w (storeP 99 b o V last :: L)) (hr : RdK w0 L v l.length (pcells l)) (hN : ∀ vs ∈ V, vs.length ≤ N) (hb : N + l.length ≤ 1000000) :
  Calls Tryz.prog 25 #[.pointer (some ⟨b, o, none⟩), .int .i64 at_, v] w fun e w' => ∃ u, e = .returned u ∧
   S w0 w' (errP 54 97 95 u (instErr last at_ l) :: storeP 99 b o (if instOk last at_ l then putAll at_ V l else V) (if instOk last at_ l then at_ else last) :: L) := by
 refine (install_any w0 w b o V last at_ v l L N hs hr hN hb).mono fun e w' h => ?_
 unfold InstPost at h
 unfold instErr instOk
 by_cases hc : last < at_ ∧ at_ ≤ 1099511627776
 ·rw [if_pos hc] at h
  cases hba : badAt 0 l with
  | none =>
   rw [hba] at h
   obtain ⟨rfl, h⟩ := h
   simp only [hc, and_self, decide_true, Option.isNone_none, Bool.and_self, ↓reduceIte]
   exact ⟨_, rfl, S.pur_intro rfl h⟩
  | some x =>
   obtain ⟨x, p⟩ := x
   rw [hba] at h
   obtain ⟨u, rfl, h⟩ := h
   simp only [hc, and_self, decide_true, Option.isNone_some, Bool.and_false, Bool.false_eq_true, ↓reduceIte]
   exact ⟨_, rfl, h⟩
 ·rw [if_neg hc] at h
  obtain ⟨rfl, h⟩ := h
  simp only [hc, decide_false, Bool.false_and, Bool.false_eq_true, ↓reduceIte]
  exact ⟨_, rfl, S.pur_intro rfl h⟩
end Go.Proofs.YtdlkjppppdminaaGreatDoor
/- errors.As at an error with a place; what Tell answers then. -/
namespace Go.Proofs.YtdlkjppppdminaaGreatDoor
open Go Go.RowKit Go.Sep Go.Extern.Stop Go.Stop Go.Extern
theorem Tryz.noAs (v : Value) (w : World) : (Instr.typeAssert (.iface 95 v) 42 198 true).run Tryz.prog w = .ok (.tuple #[.nilIface, .bool false]) w :=
 run_typeAssert_lacksB Tryz.underlying198 (by kernel_rfl) (by kernel_rfl) v 42 w
theorem Tryz.hasUnwrap (v : Value) (w : World) : (Instr.typeAssert (.iface 95 v) 42 201 true).run Tryz.prog w = .ok (.tuple #[.iface 95 v, .bool true]) w :=
 run_typeAssert_hasB Tryz.underlying201 (by kernel_rfl) v 42 w
theorem Tryz.methodUnwrap (p : Option Addr) (w : World) : (Go.method 400 95 (.pointer p) "Unwrap").run Tryz.prog w = .ok (227, .pointer p) w := by kernel_rfl
set_option maxRecDepth 20000 in
set_option maxHeartbeats 4000000 in
theorem as_at (e p : Int) (ga t : Nat) (old : Value) (w0 w : World) (L : List HProp) (hE : ErrT w0) (hs : S w0 w (blk t 54 [old] :: blk ga 97 [.int .i64 e, .int .i64 p] :: L)) :
  Calls Tryz.prog 56 #[.iface 95 (.pointer (some ⟨ga, 0, none⟩)), .iface 112 (.pointer (some ⟨t, 0, none⟩))] w fun ev w' => ev = .returned (.bool true) ∧ S w0 w' (blk t 54 [.int .i64 e] :: blk ga 97 [.int .i64 e, .int .i64 p] :: L) := by
 have hg := hE.of hs
 unfold ErrT at hg
 have hlt := (hE.of hs).lt
 have hs1 := hs.alloc #[.pointer (some ⟨t, 0, none⟩)] 112
 have hs2 := hs1.alloc #[.pointer (some ⟨9, 112, none⟩), .pointer (some ⟨w.heap.size, 0, none⟩), .int .u64 150] 147
 have hs3 := hs2.alloc #[.pointer (some ⟨9, 112, none⟩), .pointer (some ⟨w.heap.size, 0, none⟩), .int .u64 150] 147
 have hs4 := hs3.alloc #[.int .i64 e] 54
 simp only [World.size_alloc] at hs2 hs3 hs4
 have hfin := hs4.tail.tail.tail.tail.blk_set 0 (by simp) (.int .i64 e)
 have h6 := @run_callFunc_extern Tryz.prog 89 _ (fun args => ReflectliteValue.unpack (args.getD 0 (.tuple #[]))) Tryz.func89 (by kernel_rfl) (by kernel_rfl) (by kernel_rfl) (by kernel_rfl)
 have h7 := @run_callFunc_extern Tryz.prog 90 _ (ReflectliteValue.methodAny (ReflectliteValue.valueError "reflectlite.Value.Type" 0) (fun t _ _ _ => ReflectliteType.toType t)) Tryz.func90 (by kernel_rfl) (by kernel_rfl) (by kernel_rfl) (by kernel_rfl)
 have h8 := @run_callFunc_extern Tryz.prog 91 _ (ReflectliteValue.method (ReflectliteValue.valueError "reflectlite.Value.IsNil" 0) ReflectliteValue.isNil) Tryz.func91 (by kernel_rfl) (by kernel_rfl) (by kernel_rfl) (by kernel_rfl)
 have h27 := @run_callFunc_extern Tryz.prog 221 _ (ReflectliteType.abiMethod fun t => do pure (.int .u8 (← Rtype.kind t))) Tryz.func221 (by kernel_rfl) (by kernel_rfl) (by kernel_rfl) (by kernel_rfl)
 have h37 := @run_callFunc_extern Tryz.prog 237 _ (ReflectliteType.method ReflectliteType.elem) Tryz.func237 (by kernel_rfl) (by kernel_rfl) (by kernel_rfl) (by kernel_rfl)
 have h38 := @run_callFunc_extern Tryz.prog 238 _ (ReflectliteType.relation "Implements" ReflectliteType.implements_) Tryz.func238 (by kernel_rfl) (by kernel_rfl) (by kernel_rfl) (by kernel_rfl)
 have h10 := @run_callFunc_extern Tryz.prog 127 _ ReflectliteType.typeOf Tryz.func127 (by kernel_rfl) (by kernel_rfl) (by kernel_rfl) (by kernel_rfl)
 have h35 := @run_callFunc_extern Tryz.prog 235 _ (ReflectliteType.relation "AssignableTo" ReflectliteType.assignableTo) Tryz.func235 (by kernel_rfl) (by kernel_rfl) (by kernel_rfl) (by kernel_rfl)
 have h11 := @run_callFunc_extern Tryz.prog 128 _ (ReflectliteValue.method (ReflectliteValue.valueError "reflectlite.Value.Elem" 0) ReflectliteValue.elem) Tryz.func128 (by kernel_rfl) (by kernel_rfl) (by kernel_rfl) (by kernel_rfl)
 have h12 := @run_callFunc_extern Tryz.prog 129 _ ReflectliteValue.set Tryz.func129 (by kernel_rfl) (by kernel_rfl) (by kernel_rfl) (by kernel_rfl)
 have tO := Tryz.typeOfE
 have tA := Tryz.typeOfA
 have nA := Tryz.noAs
 have hU := Tryz.hasUnwrap
 have mU := Tryz.methodUnwrap
 have a26 := Tryz.assignableA
 have ca := (hs3.tail.tail.tail.swap.blk_cell 0 rfl)
 have mA := Tryz.methodAssignableTo
 have a25 := Tryz.assignableE
 have v25 := Tryz.valueOfE
 have f6 := Tryz.valueOfT
 have f7 := Tryz.typeT
 have mK := Tryz.methodKind
 have mE := Tryz.methodElem
 have mI := Tryz.methodImplements
 have k27 := Tryz.kindT
 have k25 := Tryz.kindE
 have e27 := Tryz.elemT
 have i25 := Tryz.implementsE
 have n8 := Tryz.isNilT ⟨w.heap.size, 0, none⟩ ⟨t, 0, none⟩ _ (hs2.tail.blk_cell 0 rfl)
 have el := Tryz.elemVT ⟨w.heap.size, 0, none⟩ ⟨t, 0, none⟩ _ (hs3.tail.tail.blk_cell 0 rfl)
 have st := Tryz.setE ⟨t, 0, none⟩ ⟨w.heap.size + 1 + 1 + 1, 0, none⟩ e old _ (hs4.blk_cell 0 rfl) (hs4.tail.tail.tail.tail.blk_cell 0 rfl) (hs4.tail.tail.tail.tail.blk_free 0)
 have hg2 : ((w.alloc (.cells #[.pointer (some ⟨t, 0, none⟩)] 112)).alloc (.cells #[.pointer (some ⟨9, 112, none⟩), .pointer (some ⟨w.heap.size, 0, none⟩), .int .u64 150] 147)).cell? ⟨0, 0, none⟩ = some (.iface 193 (.agg #[.pointer (some ⟨9, 42, none⟩)])) := hE.of hs2
 have HF := hid hfin
 clear hs1 hs2 hs3 hs4 hfin hs
 go_enter Tryz.func56, Tryz.ntmps56
 go_wp2
 refine wp_loop_rounds 2 ?_
 rw [rounds_succ]
 go_wp2
 rw [rounds_succ]
 go_wp2
 go_ret
 exact ⟨rfl, HF.out⟩
set_option maxHeartbeats 1000000 in
theorem tell_at (e p : Int) (g : Nat) (w0 w : World) (L : List HProp) (hE : ErrT w0) (hs : S w0 w (blk g 97 [.int .i64 e, .int .i64 p] :: L)) :
  Calls Tryz.prog 28 #[.iface 95 (.pointer (some ⟨g, 0, none⟩))] w fun ev w' => ev = .returned (.int .i64 e) ∧ S w0 w' (blk g 97 [.int .i64 e, .int .i64 p] :: L) := by
 have hs1 := hs.alloc #[.int .i64 0] 54
 have H1 := hid hs1
 clear hs1 hs
 go_enter Tryz.func28, Tryz.ntmps28
 go_wp2_with (go_at_call 56; refine (as_at _ _ _ _ _ w0 _ L hE H1.out).mono ?_; rintro ev w' ⟨rfl, hs2⟩; have d1 := hs2.blk_cell 0 rfl; have H2 := hid hs2; clear hs2)
 go_ret
 exact ⟨rfl, H2.out.tail⟩
theorem tell_any (x : Err) (v : Value) (w0 w : World) (L : List HProp) (hE : ErrT w0) (hs : S w0 w (errP 54 97 95 v x :: L)) :
  Calls Tryz.prog 28 #[v] w fun ev w' => ev = .returned (.int .i64 (Err.errno x)) ∧ S w0 w' (errP 54 97 95 v x :: L) := by
 cases x with
 | nil =>
  obtain ⟨rfl, h⟩ := S.pur_elim hs
  exact (tell_nil w).mono fun ev w' ⟨h1, h2⟩ => ⟨h1, by rw [← h2]; exact hs⟩
 | no e =>
  obtain ⟨rfl, h⟩ := S.pur_elim hs
  exact (tell_no e w0 w L hE h).mono fun ev w' ⟨h1, h2⟩ => ⟨h1, S.pur_intro rfl h2⟩
 | at_ e p =>
  obtain ⟨g, hs1⟩ := S.ex_elim hs
  obtain ⟨rfl, hs2⟩ := S.pur_elim (S.sep_elim hs1)
  exact (tell_at e p g w0 w L hE hs2).mono fun ev w' ⟨h1, h2⟩ => ⟨h1, .ex_intro g (.sep_intro (.pur_intro rfl h2))⟩
end Go.Proofs.YtdlkjppppdminaaGreatDoor
/- The sums over a place's first pairs are never the next key: checked by the kernel, for two and three pairs by meeting in the middle. No walk in sight. -/
namespace Go.Proofs.YtdlkjppppdminaaGreatDoor
open Go Go.RowKit Go.Sep
namespace Kern
noncomputable def fs (n b : Nat) : Nat := Nat.mod (Nat.mul (Nat.xor n b) 1099511628211) 18446744073709551616
noncomputable def ff (n : Nat) (s : List Nat) : Nat := List.rec (motive := fun _ => Nat → Nat) (fun n => n) (fun b _ ih n => ih (fs n b)) s n
noncomputable def bk (m b : Nat) : Nat := Nat.xor (Nat.mod (Nat.mul m 14886173955864302971) 18446744073709551616) b
noncomputable def bf (m : Nat) (s : List Nat) : Nat := List.rec (motive := fun _ => Nat) m (fun b _ ih => bk ih b) s
noncomputable def d2 (n : Nat) : List Nat := Bool.rec [Nat.add 48 (Nat.div n 10), Nat.add 48 (Nat.mod n 10)] [Nat.add 48 n] (Nat.ble n 9)
noncomputable def upto (f : Nat → Bool) (n : Nat) : Bool := Nat.rec true (fun m ih => Bool.rec false ih (f m)) n
noncomputable def orup (f : Nat → Nat) (n : Nat) : Nat := Nat.rec 0 (fun m ih => Nat.lor (f m) ih) n
noncomputable def startK (k : Nat) : Nat := ff 14695981039346656037 (d2 k)
noncomputable def force (n : Nat) (f : Nat → Bool) : Bool := Nat.rec (f 0) (fun m _ => f (Nat.succ m)) n
noncomputable def forceN (n : Nat) (f : Nat → Nat) : Nat := Nat.rec (f 0) (fun m _ => f (Nat.succ m)) n
noncomputable def win (s r : Nat) : Nat := Nat.mod (Nat.shiftRight r s) 262144
noncomputable def one2 (s r : Nat) : Nat := Nat.shiftLeft 1 (win s r)
noncomputable def bits (s : Nat) : Nat := Nat.lor
 (orup (fun z => forceN (bf 3 (32 :: 50 :: 32 :: d2 z)) fun t => orup (fun y => one2 s (bf t (32 :: 49 :: 32 :: d2 y))) 91) 91)
 (orup (fun y => Nat.lor (one2 s (bf 3 (32 :: 49 :: 32 :: d2 y))) (Nat.lor (one2 s (bf 3 (32 :: 50 :: 32 :: d2 y))) (one2 s (bf 2 (32 :: 49 :: 32 :: d2 y))))) 91)
noncomputable def has (S s r : Nat) : Bool := Nat.ble 1 (Nat.land 1 (Nat.shiftRight S (win s r)))
noncomputable def one : Bool := upto (fun k => force (startK k) fun s => upto (fun a => force (ff s [32, Nat.add 48 a, 32]) fun t => upto (fun x => Nat.ble 4 (ff t (d2 x))) 91) 3) 90
noncomputable def two : Bool := force (bits 0) fun S0 => force (bits 18) fun S1 => force (bits 36) fun S2 =>
 upto (fun k => force (startK k) fun s => upto (fun a => force (ff s [32, Nat.add 48 a, 32]) fun t => upto (fun x => force (ff t (d2 x)) fun r => Bool.rec true (Bool.rec true (Bool.rec true false (has S2 36 r)) (has S1 18 r)) (has S0 0 r)) 91) 2) 90
end Kern
open Kern
def Good (l : Vers) : Prop := l.Pairwise (fun p q => p.1 < q.1) ∧ ∀ p ∈ l, (0 ≤ p.1 ∧ p.1 < 4) ∧ (0 ≤ p.2 ∧ p.2 ≤ 90)
end Go.Proofs.YtdlkjppppdminaaGreatDoor
/- The library's contracts at this translation: laid by the kit's tool. -/
namespace Go.Proofs.Shd
open Go.Proofs
open Go.Shelf
def Tryz.lays169_ren : Go.Shelf.Ren := ⟨fun | 169 => 10 | n => n, fun | 70 => 33 | 9 => 9 | 0 => 0 | 72 => 36 | 37 => 34 | 127 => 62 | 3 => 3 | 5 => 5 | n => n, fun | n => n⟩
theorem Tryz.lays169 : Go.Proofs.Lays.n169 Tryz.prog Tryz.lays169_ren := {
 mixed := by kernel_rfl
 f169 := Tryz.func10.trans (congrArg some (by kernel_rfl))
 t0 := Tryz.underlying0
 a0 := Tryz.isAgg0
 z0 := Tryz.sizeOf0
 v0 := Tryz.zeroValue0
 t3 := Tryz.underlying3
 a3 := Tryz.isAgg3
 z3 := Tryz.sizeOf3
 v3 := Tryz.zeroValue3
 t9 := Tryz.underlying9
 a9 := Tryz.isAgg9
 z9 := Tryz.sizeOf9
 v9 := Tryz.zeroValue9
 t37 := Tryz.underlying34
 a37 := Tryz.isAgg34
 z37 := Tryz.sizeOf34
 v37 := Tryz.zeroValue34
 t70 := Tryz.underlying33
 a70 := Tryz.isAgg33
 z70 := Tryz.sizeOf33
 v70 := Tryz.zeroValue33
 t72 := Tryz.underlying36
 a72 := Tryz.isAgg36
 z72 := Tryz.sizeOf36
 v72 := Tryz.zeroValue36
 t127 := Tryz.underlying62
 a127 := Tryz.isAgg62
 z127 := Tryz.sizeOf62
 v127 := Tryz.zeroValue62 }
theorem Tryz.Builder_Extra_169 : Builder.Extra Tryz.prog Tryz.lays169_ren := {
 sizeBuilder := by kernel_rfl
 liesBuilder := by kernel_rfl
 t5 := Tryz.underlying5
 a5 := Tryz.isAgg5
 z5 := Tryz.sizeOf5
 v5 := Tryz.zeroValue5
 infoByte := by kernel_rfl
 cellsByte := by kernel_rfl
 sizeByte := by kernel_rfl
 neB5 := by decide }
def Tryz.lays121_ren : Go.Shelf.Ren := ⟨fun | 121 => 74 | 214 => 113 | n => n, fun | 4 => 4 | 9 => 9 | n => n, fun | n => n⟩
theorem Tryz.lays121 : Go.Proofs.Lays.n121 Tryz.prog Tryz.lays121_ren := {
 mixed := by kernel_rfl
 f121 := Tryz.func74.trans (congrArg some (by kernel_rfl))
 f214 := Tryz.func113.trans (congrArg some (by kernel_rfl))
 t4 := Tryz.underlying4
 a4 := Tryz.isAgg4
 z4 := Tryz.sizeOf4
 v4 := Tryz.zeroValue4
 t9 := Tryz.underlying9
 a9 := Tryz.isAgg9
 z9 := Tryz.sizeOf9
 v9 := Tryz.zeroValue9 }
open Go.RowKit in
theorem Tryz.strconv_FormatBool (b : Bool) (w : World) :
  Calls Tryz.prog 74 #[.bool b] w fun e w' => e = .returned (.string ⟨(Lib.formatBool b).toArray⟩) ∧ w' = w := Any.strconv_FormatBool Tryz.lays121 b w
def Tryz.laysC172_ren : Go.Shelf.Ren := ⟨fun | 172 => 23 | 244 => 49 | 245 => 50 | 247 => 81 | 279 => 82 | 280 => 83 | 281 => 84 | 282 => 85 | 287 => 120 | 316 => 121 | 171 => 19 | 205 => 122 | 321 => 156 | 322 => 157 | 243 => 34 | 246 => 59 | 283 => 97 | 284 => 98 | 285 => 99 | 286 => 100 | 129 => 133 | 317 => 132 | 318 => 134 | 319 => 135 | 320 => 136 | 337 => 160 | 338 => 161 | n => n, fun | 9 => 9 | 3 => 3 | 75 => 42 | 76 => 43 | 4 => 4 | 5 => 5 | 167 => 133 | 37 => 34 | 0 => 0 | 85 => 134 | 2 => 2 | 168 => 136 | 53 => 140 | 175 => 185 | 46 => 157 | 210 => 188 | 127 => 62 | 145 => 233 | 143 => 231 | 21 => 21 | 171 => 162 | 173 => 165 | 212 => 210 | 51 => 206 | 20 => 20 | 213 => 211 | 232 => 242 | 233 => 243 | 80 => 45 | n => n, fun | 15 => 4 | 16 => 5 | 17 => 6 | 18 => 7 | 19 => 8 | n => n⟩
theorem Tryz.laysC172 : Go.Proofs.LaysC.n172 Tryz.prog Tryz.laysC172_ren := {
 mixed := by kernel_rfl
 f129 := Tryz.func133.trans (congrArg some (by kernel_rfl))
 f171 := Tryz.func19.trans (congrArg some (by kernel_rfl))
 f172 := Tryz.func23.trans (congrArg some (by kernel_rfl))
 f205 := Tryz.func122.trans (congrArg some (by kernel_rfl))
 f243 := Tryz.func34.trans (congrArg some (by kernel_rfl))
 f244 := Tryz.func49.trans (congrArg some (by kernel_rfl))
 f245 := Tryz.func50.trans (congrArg some (by kernel_rfl))
 f246 := Tryz.func59.trans (congrArg some (by kernel_rfl))
 f247 := Tryz.func81.trans (congrArg some (by kernel_rfl))
 f279 := Tryz.func82.trans (congrArg some (by kernel_rfl))
 f280 := Tryz.func83.trans (congrArg some (by kernel_rfl))
 f281 := Tryz.func84.trans (congrArg some (by kernel_rfl))
 f282 := Tryz.func85.trans (congrArg some (by kernel_rfl))
 f283 := Tryz.func97.trans (congrArg some (by kernel_rfl))
 f284 := Tryz.func98.trans (congrArg some (by kernel_rfl))
 f285 := Tryz.func99.trans (congrArg some (by kernel_rfl))
 f286 := Tryz.func100.trans (congrArg some (by kernel_rfl))
 f287 := Tryz.func120.trans (congrArg some (by kernel_rfl))
 f316 := Tryz.func121.trans (congrArg some (by kernel_rfl))
 f317 := Tryz.func132.trans (congrArg some (by kernel_rfl))
 f318 := Tryz.func134.trans (congrArg some (by kernel_rfl))
 f319 := Tryz.func135.trans (congrArg some (by kernel_rfl))
 f320 := Tryz.func136.trans (congrArg some (by kernel_rfl))
 f321 := Tryz.func156.trans (congrArg some (by kernel_rfl))
 f322 := Tryz.func157.trans (congrArg some (by kernel_rfl))
 f337 := Tryz.func160.trans (congrArg some (by kernel_rfl))
 f338 := Tryz.func161.trans (congrArg some (by kernel_rfl))
 t0 := Tryz.underlying0
 a0 := Tryz.isAgg0
 z0 := Tryz.sizeOf0
 v0 := Tryz.zeroValue0
 t2 := Tryz.underlying2
 a2 := Tryz.isAgg2
 z2 := Tryz.sizeOf2
 v2 := Tryz.zeroValue2
 t3 := Tryz.underlying3
 a3 := Tryz.isAgg3
 z3 := Tryz.sizeOf3
 v3 := Tryz.zeroValue3
 t4 := Tryz.underlying4
 a4 := Tryz.isAgg4
 z4 := Tryz.sizeOf4
 v4 := Tryz.zeroValue4
 t5 := Tryz.underlying5
 a5 := Tryz.isAgg5
 z5 := Tryz.sizeOf5
 v5 := Tryz.zeroValue5
 t9 := Tryz.underlying9
 a9 := Tryz.isAgg9
 z9 := Tryz.sizeOf9
 v9 := Tryz.zeroValue9
 t20 := Tryz.underlying20
 a20 := Tryz.isAgg20
 z20 := Tryz.sizeOf20
 v20 := Tryz.zeroValue20
 t21 := Tryz.underlying21
 a21 := Tryz.isAgg21
 z21 := Tryz.sizeOf21
 v21 := Tryz.zeroValue21
 t37 := Tryz.underlying34
 a37 := Tryz.isAgg34
 z37 := Tryz.sizeOf34
 v37 := Tryz.zeroValue34
 t46 := Tryz.underlying157
 a46 := Tryz.isAgg157
 z46 := Tryz.sizeOf157
 v46 := Tryz.zeroValue157
 t51 := Tryz.underlying206
 a51 := Tryz.isAgg206
 z51 := Tryz.sizeOf206
 v51 := Tryz.zeroValue206
 t53 := Tryz.underlying140
 a53 := Tryz.isAgg140
 z53 := Tryz.sizeOf140
 v53 := Tryz.zeroValue140
 t75 := Tryz.underlying42
 a75 := Tryz.isAgg42
 z75 := Tryz.sizeOf42
 v75 := Tryz.zeroValue42
 t76 := Tryz.underlying43
 a76 := Tryz.isAgg43
 z76 := Tryz.sizeOf43
 v76 := Tryz.zeroValue43
 t85 := Tryz.underlying134
 a85 := Tryz.isAgg134
 z85 := Tryz.sizeOf134
 v85 := Tryz.zeroValue134
 t127 := Tryz.underlying62
 a127 := Tryz.isAgg62
 z127 := Tryz.sizeOf62
 v127 := Tryz.zeroValue62
 t143 := Tryz.underlying231
 a143 := Tryz.isAgg231
 z143 := Tryz.sizeOf231
 v143 := Tryz.zeroValue231
 t145 := Tryz.underlying233
 a145 := Tryz.isAgg233
 z145 := Tryz.sizeOf233
 v145 := Tryz.zeroValue233
 t167 := Tryz.underlying133
 a167 := Tryz.isAgg133
 z167 := Tryz.sizeOf133
 v167 := Tryz.zeroValue133
 t168 := Tryz.underlying136
 a168 := Tryz.isAgg136
 z168 := Tryz.sizeOf136
 v168 := Tryz.zeroValue136
 t171 := Tryz.underlying162
 a171 := Tryz.isAgg162
 z171 := Tryz.sizeOf162
 v171 := Tryz.zeroValue162
 t173 := Tryz.underlying165
 a173 := Tryz.isAgg165
 z173 := Tryz.sizeOf165
 v173 := Tryz.zeroValue165
 t175 := Tryz.underlying185
 a175 := Tryz.isAgg185
 z175 := Tryz.sizeOf185
 v175 := Tryz.zeroValue185
 t210 := Tryz.underlying188
 a210 := Tryz.isAgg188
 z210 := Tryz.sizeOf188
 v210 := Tryz.zeroValue188
 t212 := Tryz.underlying210
 a212 := Tryz.isAgg210
 z212 := Tryz.sizeOf210
 v212 := Tryz.zeroValue210
 t213 := Tryz.underlying211
 a213 := Tryz.isAgg211
 z213 := Tryz.sizeOf211
 t232 := Tryz.underlying242
 a232 := Tryz.isAgg242
 z232 := Tryz.sizeOf242
 v232 := Tryz.zeroValue242
 t233 := Tryz.underlying243
 a233 := Tryz.isAgg243
 z233 := Tryz.sizeOf243
 v233 := Tryz.zeroValue243
 g15 := by kernel_rfl
 g16 := by kernel_rfl
 g17 := by kernel_rfl
 g18 := by kernel_rfl
 g19 := by kernel_rfl
 t80 := Tryz.underlying45
 a80 := Tryz.isAgg45
 z80 := Tryz.sizeOf45
 v80 := Tryz.zeroValue45
 i0 := by kernel_rfl
 i2 := by kernel_rfl
 i3 := by kernel_rfl
 i4 := by kernel_rfl
 i5 := by kernel_rfl
 i9 := by kernel_rfl
 i20 := by kernel_rfl
 i21 := by kernel_rfl
 i37 := by kernel_rfl
 i46 := by kernel_rfl
 i51 := by kernel_rfl
 i53 := by kernel_rfl
 i75 := by kernel_rfl
 i76 := by kernel_rfl
 i80 := by kernel_rfl
 i85 := by kernel_rfl
 i127 := by kernel_rfl
 i143 := by kernel_rfl
 i145 := by kernel_rfl
 i167 := by kernel_rfl
 i168 := by kernel_rfl
 i171 := by kernel_rfl
 i173 := by kernel_rfl
 i175 := by kernel_rfl
 i210 := by kernel_rfl
 i212 := by kernel_rfl
 i232 := by kernel_rfl
 i233 := by kernel_rfl
 m15 := by kernel_rfl
 m16 := by kernel_rfl
 m17 := by kernel_rfl
 m18 := by kernel_rfl
 m19 := by kernel_rfl
 c0 := by kernel_rfl
 c2 := by kernel_rfl
 c3 := by kernel_rfl
 c4 := by kernel_rfl
 c5 := by kernel_rfl
 c9 := by kernel_rfl
 c20 := by kernel_rfl
 c21 := by kernel_rfl
 c37 := by kernel_rfl
 c46 := by kernel_rfl
 c51 := by kernel_rfl
 c53 := by kernel_rfl
 c75 := by kernel_rfl
 c76 := by kernel_rfl
 c80 := by kernel_rfl
 c85 := by kernel_rfl
 c127 := by kernel_rfl
 c143 := by kernel_rfl
 c145 := by kernel_rfl
 c167 := by kernel_rfl
 c168 := by kernel_rfl
 c171 := by kernel_rfl
 c173 := by kernel_rfl
 c175 := by kernel_rfl
 c210 := by kernel_rfl
 c212 := by kernel_rfl
 c213 := by kernel_rfl
 c232 := by kernel_rfl
 c233 := by kernel_rfl }
open Go.RowKit in
theorem Tryz.strconv_Atoi_ok (s : ByteArray) (hmax : s.size ≤ 9223372036854775806) (v : Int) (h : Lib.atoiAll s.data.toList = .ok v) (w : World) :
  Calls Tryz.prog 23 #[.string s] w fun e w' => e = .returned (.tuple #[.int .i64 v, .nilIface]) ∧ (w' = w ∨ ∃ t, w' = Lib.bytesWorld w 5 t) := Any.strconv_Atoi_ok Tryz.laysC172 s hmax v h w
open Go.RowKit in
theorem Tryz.strconv_Atoi_range (s : ByteArray) (hlim : s.size ≤ 281474976710656) (h : Lib.atoiAll s.data.toList = .range) (ev : Value) (w : World) (hv : w.cell? ⟨5, 0, none⟩ = some ev) (hev : ev = .nilIface ∨ ∃ te pe, ev = .iface te pe) :
  Calls Tryz.prog 23 #[.string s] w fun e w' => ∃ N, e = .returned (.tuple #[.int .i64 (Lib.atoiSat s.data.toList), .iface 136 (.pointer (some ⟨N, 0, none⟩))]) ∧ w.heap.size ≤ N ∧ w'.heap[N]? = some (.cells #[.string ⟨#[65, 116, 111, 105]⟩, .string s, ev] 188 (0, 0)) ∧ Below w.heap.size w w' := Any.strconv_Atoi_range Tryz.laysC172 s hlim h ev w hv hev
def Tryz.lays143_ren : Go.Shelf.Ren := ⟨fun | 143 => 31 | 219 => 58 | 217 => 93 | 225 => 94 | 224 => 95 | 267 => 96 | 266 => 130 | 314 => 131 | n => n, fun | 9 => 9 | 3 => 3 | 4 => 4 | 5 => 5 | 46 => 157 | 146 => 207 | 51 => 206 | n => n, fun | 1 => 3 | n => n⟩
theorem Tryz.lays143 : Go.Proofs.Lays.n143 Tryz.prog Tryz.lays143_ren := {
 mixed := by kernel_rfl
 f143 := Tryz.func31.trans (congrArg some (by kernel_rfl))
 f217 := Tryz.func93.trans (congrArg some (by kernel_rfl))
 f219 := Tryz.func58.trans (congrArg some (by kernel_rfl))
 f224 := Tryz.func95.trans (congrArg some (by kernel_rfl))
 f225 := Tryz.func94.trans (congrArg some (by kernel_rfl))
 f266 := Tryz.func130.trans (congrArg some (by kernel_rfl))
 f267 := Tryz.func96.trans (congrArg some (by kernel_rfl))
 f314 := Tryz.func131.trans (congrArg some (by kernel_rfl))
 t3 := Tryz.underlying3
 a3 := Tryz.isAgg3
 z3 := Tryz.sizeOf3
 v3 := Tryz.zeroValue3
 t4 := Tryz.underlying4
 a4 := Tryz.isAgg4
 z4 := Tryz.sizeOf4
 v4 := Tryz.zeroValue4
 t5 := Tryz.underlying5
 a5 := Tryz.isAgg5
 z5 := Tryz.sizeOf5
 v5 := Tryz.zeroValue5
 t9 := Tryz.underlying9
 a9 := Tryz.isAgg9
 z9 := Tryz.sizeOf9
 v9 := Tryz.zeroValue9
 t46 := Tryz.underlying157
 a46 := Tryz.isAgg157
 z46 := Tryz.sizeOf157
 v46 := Tryz.zeroValue157
 t51 := Tryz.underlying206
 a51 := Tryz.isAgg206
 z51 := Tryz.sizeOf206
 v51 := Tryz.zeroValue206
 t146 := Tryz.underlying207
 a146 := Tryz.isAgg207
 z146 := Tryz.sizeOf207
 v146 := Tryz.zeroValue207
 g1 := by kernel_rfl }
open Go.RowKit Go.Lib in
theorem Tryz.strings_Index_one (s : ByteArray) (c : UInt8) (w : World) :
  Calls Tryz.prog 31 #[.string s, .string ⟨#[c]⟩] w fun e w' => e = .returned (.int .i64 (Lib.indexByte s.data.toList c)) ∧ w' = w := Any.strings_Index_one Tryz.lays143 s c w
def Tryz.lays102_ren : Go.Shelf.Ren := ⟨fun | 102 => 7 | 209 => 16 | 207 => 32 | n => n, fun | 9 => 9 | 4 => 4 | 3 => 3 | n => n, fun | n => n⟩
theorem Tryz.lays102 : Go.Proofs.Lays.n102 Tryz.prog Tryz.lays102_ren := {
 mixed := by kernel_rfl
 f102 := Tryz.func7.trans (congrArg some (by kernel_rfl))
 f207 := Tryz.func32.trans (congrArg some (by kernel_rfl))
 f209 := Tryz.func16.trans (congrArg some (by kernel_rfl))
 t3 := Tryz.underlying3
 a3 := Tryz.isAgg3
 z3 := Tryz.sizeOf3
 v3 := Tryz.zeroValue3
 t4 := Tryz.underlying4
 a4 := Tryz.isAgg4
 z4 := Tryz.sizeOf4
 v4 := Tryz.zeroValue4
 t9 := Tryz.underlying9
 a9 := Tryz.isAgg9
 z9 := Tryz.sizeOf9
 v9 := Tryz.zeroValue9 }
open Go.RowKit Go.Lib in
theorem Tryz.strings_TrimSuffix (s p : ByteArray) (w : World) (hs : s.size ≤ 9223372036854775807) :
  Calls Tryz.prog 7 #[.string s, .string p] w fun e w' => e = .returned (.string ⟨(Lib.trimSuffix s.data.toList p.data.toList).toArray⟩) ∧ w' = w := Any.strings_TrimSuffix Tryz.lays102 s p w hs
def Tryz.lays229_ren : Go.Shelf.Ren := ⟨fun | 229 => 20 | n => n, fun | 9 => 9 | 40 => 60 | 31 => 46 | 152 => 84 | 3 => 3 | 0 => 0 | 4 => 4 | 21 => 21 | 154 => 86 | n => n, fun | n => n⟩
theorem Tryz.lays229 : Go.Proofs.Lays.n229 Tryz.prog Tryz.lays229_ren := {
 mixed := by kernel_rfl
 f229 := Tryz.func20.trans (congrArg some (by kernel_rfl))
 t0 := Tryz.underlying0
 a0 := Tryz.isAgg0
 z0 := Tryz.sizeOf0
 v0 := Tryz.zeroValue0
 t3 := Tryz.underlying3
 a3 := Tryz.isAgg3
 z3 := Tryz.sizeOf3
 v3 := Tryz.zeroValue3
 t4 := Tryz.underlying4
 a4 := Tryz.isAgg4
 z4 := Tryz.sizeOf4
 v4 := Tryz.zeroValue4
 t9 := Tryz.underlying9
 a9 := Tryz.isAgg9
 z9 := Tryz.sizeOf9
 v9 := Tryz.zeroValue9
 t21 := Tryz.underlying21
 a21 := Tryz.isAgg21
 z21 := Tryz.sizeOf21
 v21 := Tryz.zeroValue21
 t31 := Tryz.underlying46
 a31 := Tryz.isAgg46
 z31 := Tryz.sizeOf46
 v31 := Tryz.zeroValue46
 t40 := Tryz.underlying60
 a40 := Tryz.isAgg60
 z40 := Tryz.sizeOf60
 v40 := Tryz.zeroValue60
 t152 := Tryz.underlying84
 a152 := Tryz.isAgg84
 z152 := Tryz.sizeOf84
 v152 := Tryz.zeroValue84
 t154 := Tryz.underlying86
 a154 := Tryz.isAgg86
 z154 := Tryz.sizeOf86
 v154 := Tryz.zeroValue86 }
open Go.RowKit Go.Lib in
theorem Tryz.strings_FieldsFunc (g : Nat) (lb : Array Value) (eg : ∀ args w, (callFunc g args).run Tryz.prog w = .ok (.enter g args) w) (p : Nat → Bool) (s : ByteArray) (w : World) (hs : s.size ≤ 4294967296) (hp : PredAt Tryz.prog g lb encR p w) :
  Calls Tryz.prog 20 #[.string s, .func (.func g) #[] lb] w fun e w' => ∃ A, e = .returned (.slice (some ⟨A, 0, none⟩) (Lib.goFieldsP p s).length (Lib.goFieldsP p s).length) ∧ w.heap.size ≤ A ∧
   w'.ownsRow w.heap.size 9 1 (.slice (some ⟨A, 0, none⟩) (Lib.goFieldsP p s).length (Lib.goFieldsP p s).length) (Lib.goFieldsP p s).length ((Lib.goFieldsP p s).map Value.string) ∧ Below w.heap.size w w' := Any.strings_FieldsFunc Tryz.lays229 g lb eg p s w hs hp (by kernel_rfl) (by kernel_rfl)
end Go.Proofs.Shd
/- The program's store: Many. -/
namespace Go.Proofs.YtdlkjppppdminaaGreatDoor
open Go Go.RowKit Go.Sep
set_option maxHeartbeats 1000000 in
set_option maxRecDepth 20000 in
theorem many_any (w0 w : World) (b o : Nat) (V : List Vers) (last : Int) (L : List HProp) (hs : S w0 w (storeP 99 b o V last :: L)) (hN : ∀ vs ∈ V, vs.length ≤ 2000000) :
  Calls Tryz.prog 112 #[.pointer (some ⟨b, o, none⟩)] w fun e w' => e = .returned (.int .i64 (manyV V)) ∧ w = w' := by
 obtain ⟨kv, hs⟩ := hs.ex_elim
 have hlen := hs.storeK_len
 have harr := hs.storeK_arr
 have hvals := hs.storeK_vals
 have hb : ∀ i, i ≤ 10 → manyV (V.take i) ≤ 20000000 := by
  intro i hi
  have h1 := manyV_le (V := V.take i) (fun vs hv => hN vs (List.mem_of_mem_take hv))
  have h2 : (V.take i).length ≤ 10 := by rw [List.length_take]; omega
  have h3 : 2000000 * (V.take i).length ≤ 2000000 * 10 := Nat.mul_le_mul_left _ h2
  omega
 have hadd : ∀ j u, kv[j]? = some u → w.cell? ((⟨b, o, none⟩ : Addr).add j) = some u := by
  intro j u hj
  have e1 : (⟨b, o, none⟩ : Addr).add j = ⟨b, o + j, none⟩ := by unfold Addr.add; split <;> simp_all
  rw [e1]; exact harr j u hj
 have hkl := hlen.1
 have HA := hid hadd; have HV := hid hvals; have HB := hid hb; have HL := hid hlen; have HK := hid hkl
 clear hadd hvals hb harr hN hs hlen hkl
 go_enter Tryz.func112, Tryz.ntmps112
 go_wp2_with (refine wpList_load_arr rfl 67 (.tmp 8) rfl ⟨b, o, none⟩ rfl 10 66 Tryz.underlying67 kv (by rw [HK.out]; exact Tryz.size67) HA.out ?_)
 go_loop [3, 10] (fun r c => ∃ i : Nat, i ≤ 10 ∧ c = .int .i64 i ∧ r = .int .i64 (manyV (V.take i))) (fun _ c => 10 - (intOf c).toNat)
 case atStart => exact ⟨0, Nat.zero_le _, rfl, by simp [manyV]⟩
 case round =>
  obtain ⟨i, hi, rfl, rfl⟩ := hrel
  have hbi := HB.out i hi
  by_cases hlt : i < 10
  ·obtain ⟨vs, hvs⟩ : ∃ vs, V[i]? = some vs := ⟨V[i]'(by have := HL.out.2; omega), by simp⟩
   obtain ⟨a, cp, hkv, h1, h2⟩ := HV.out i vs hvs
   have hbs := HB.out (i + 1) (by omega)
   have hm := manyV_take hvs
   have HM := hid hm; clear hm
   have hvl : manyV (V.take i) + vs.length ≤ 20000000 := by rw [← HM.out]; exact hbs
   clear hbs hvs
   have hix := run_index_arr Tryz.underlying67 Tryz.underlying66 rfl Tryz.size66 hlt hkv
   clear hkv
   go_wp2_with fail
   go_round
   case rel => exact ⟨i + 1, by omega, by go_num, by rw [HM.out]; go_num⟩
   case measure => simp [intOf]; omega
  ·have hil : i = 10 := by omega
   subst hil
   go_wp2
   go_ret
   exact ⟨retI (by rw [List.take_of_length_le (by have := HL.out.2; omega)]), rfl⟩
end Go.Proofs.YtdlkjppppdminaaGreatDoor
/- Short words for printed walks. No program in sight. -/
namespace Go.Sep
open Go Go.RowKit
end Go.Sep
/- The edges as they are found, sorted and struck of doubles: what must be ahead of what. -/
namespace Go.Proofs.YtdlkjppppdminaaGreatDoor
open Go Go.Sep
def addE (a b : Int) : List (Int × Int) := if a ≠ b ∧ a ≠ 0 then [(a, b)] else []
theorem addE_mem {a b : Int} {p : Int × Int} : p ∈ addE a b ↔ p = (a, b) ∧ a ≠ b ∧ a ≠ 0 := by
 unfold addE
 split
 ·rename_i h
  simp only [List.mem_singleton]
  exact ⟨fun e => ⟨e, h⟩, fun e => e.1⟩
 ·rename_i h
  simp only [List.not_mem_nil, false_iff]
  exact fun e => h e.2
theorem addE_le (a b : Int) : (addE a b).length ≤ 1 := by unfold addE; split <;> simp
def wEdges (w : List Int) : Nat → List (Int × Int)
 | 0 => []
 | n + 1 => wEdges w n ++ (match w[n]?, w[n + 1]? with | some a, some b => addE a b | _, _ => [])
theorem wEdges_mem (w : List Int) (p : Int × Int) : ∀ n : Nat, p ∈ wEdges w n ↔ ∃ i : Nat, i < n ∧ w[i]? = some p.1 ∧ w[i + 1]? = some p.2 ∧ p.1 ≠ p.2 ∧ p.1 ≠ 0
 | 0 => by simp [wEdges]
 | n + 1 => by
  simp only [wEdges, List.mem_append, wEdges_mem w p n]
  constructor
  ·rintro (⟨i, h1, h2⟩ | h)
   ·exact ⟨i, by omega, h2⟩
   ·split at h
    ·rename_i a b ha hb
     rw [addE_mem] at h
     obtain ⟨rfl, h⟩ := h
     exact ⟨n, by omega, ha, hb, h⟩
    ·simp at h
  ·rintro ⟨i, h1, h2, h3, h4⟩
   rcases Nat.lt_or_ge i n with h | h
   ·exact .inl ⟨i, h, h2, h3, h4⟩
   ·obtain rfl : i = n := by omega
    refine .inr ?_
    rw [h2, h3]
    exact addE_mem.2 ⟨rfl, h4⟩
theorem wEdges_le (w : List Int) : ∀ n : Nat, (wEdges w n).length ≤ n
 | 0 => by simp [wEdges]
 | n + 1 => by
  have := wEdges_le w n
  simp only [wEdges, List.length_append]
  split
  ·have := addE_le; rename_i a b _ _; have := this a b; omega
  ·simp; omega
def rEdge (w : List Int) (o : Op1) : List (Int × Int) := if o.wr then [] else addE o.fr o.tx ++ (match nextOf w o.fr with | some b => addE o.tx b | none => [])
theorem rEdge_le (w : List Int) (o : Op1) : (rEdge w o).length ≤ 2 := by
 unfold rEdge
 split
 ·simp
 ·have := addE_le o.fr o.tx
  split
  ·rename_i b _; have := addE_le o.tx b; simp; omega
  ·simp; omega
def rEdges (l : List Op1) (m : List Op1) : List (Int × Int) := m.flatMap fun o => rEdge (writers l o.key) o
theorem rEdges_snoc (l m : List Op1) (o : Op1) : rEdges l (m ++ [o]) = rEdges l m ++ rEdge (writers l o.key) o := by simp [rEdges]
theorem rEdges_le (l : List Op1) : ∀ m : List Op1, (rEdges l m).length ≤ 2 * m.length
 | [] => by simp [rEdges]
 | o :: m => by
  have := rEdges_le l m
  have h2 := rEdge_le (writers l o.key) o
  simp only [rEdges, List.flatMap_cons, List.length_append, List.length_cons] at *
  omega
theorem rEdges_mem (l m : List Op1) (p : Int × Int) : p ∈ rEdges l m ↔ ∃ o ∈ m, o.wr = false ∧ p.1 ≠ p.2 ∧ p.1 ≠ 0 ∧ ((p.1 = o.fr ∧ p.2 = o.tx) ∨ (p.1 = o.tx ∧ nextOf (writers l o.key) o.fr = some p.2)) := by
 unfold rEdges
 rw [List.mem_flatMap]
 refine exists_congr fun o => and_congr_right fun _ => ?_
 unfold rEdge
 cases o.wr with
 | true => simp
 | false =>
  simp only [Bool.false_eq_true, ↓reduceIte, List.mem_append, addE_mem, true_and]
  constructor
  ·rintro (⟨rfl, h1, h2⟩ | h)
   ·exact ⟨h1, h2, .inl ⟨rfl, rfl⟩⟩
   ·split at h
    ·rename_i b hb
     rw [addE_mem] at h
     obtain ⟨rfl, h1, h2⟩ := h
     exact ⟨h1, h2, .inr ⟨rfl, hb⟩⟩
    ·simp at h
  ·rintro ⟨h1, h2, ⟨h3, h4⟩ | ⟨h3, h4⟩⟩
   ·exact .inl ⟨Prod.ext h3 h4, by rwa [← h3, ← h4], by rwa [← h3]⟩
   ·right
    rw [h4]
    exact addE_mem.2 ⟨Prod.ext h3 rfl, by rwa [← h3], by rwa [← h3]⟩
theorem Edge.found {l : List Op1} {out : List (Int × Int)} {D : List (Int × List Int)} (hD : ∀ k, (mget D k).getD [] = writers l k) (hn : (D.map (·.1)).Nodup)
  (ho : ∀ p, p ∈ out ↔ (∃ d ∈ D, p ∈ wEdges d.2 (d.2.length - 1)) ∨ p ∈ rEdges l l) (p : Int × Int) : p ∈ out ↔ Edge l p := by
 rw [ho, rEdges_mem]
 unfold Edge
 constructor
 ·rintro (⟨d, hd, h⟩ | ⟨o, h1, h2, h3, h4, h5⟩)
  ·rw [wEdges_mem] at h
   obtain ⟨i, h1, h2, h3, h4, h5⟩ := h
   refine ⟨h4, h5, .inl ⟨d.1, i, ?_⟩⟩
   have := hD d.1
   rw [mget_mem hn hd] at this
   simp only [Option.getD_some] at this
   rw [← this]
   exact ⟨h2, h3⟩
  ·exact ⟨h3, h4, .inr ⟨o, h1, h2, h5⟩⟩
 ·rintro ⟨h4, h5, ⟨k, i, h2, h3⟩ | ⟨o, h1, h2, h6⟩⟩
  ·left
   have hk := hD k
   cases hm : mget D k with
   | none => rw [hm] at hk; simp only [Option.getD_none] at hk; rw [← hk] at h2; simp at h2
   | some w =>
    rw [hm] at hk
    simp only [Option.getD_some] at hk
    refine ⟨(k, w), mget_some hm, ?_⟩
    rw [wEdges_mem]
    rw [← hk] at h2 h3
    have := (List.getElem?_eq_some_iff.1 h3).1
    exact ⟨i, by simp only; omega, h2, h3, h4, h5⟩
  ·exact .inr ⟨o, h1, h2, h4, h5, h6⟩
def leP (a b : Int × Int) : Prop := a.1 < b.1 ∨ (a.1 = b.1 ∧ a.2 ≤ b.2)
def compactFrom (x : Int × Int) : List (Int × Int) → List (Int × Int)
 | [] => []
 | y :: l => if y = x then compactFrom y l else y :: compactFrom y l
def compactP : List (Int × Int) → List (Int × Int)
 | [] => []
 | x :: l => x :: compactFrom x l
theorem compactFrom_mem : ∀ (l : List (Int × Int)) (x p : Int × Int), p ∈ x :: compactFrom x l ↔ p ∈ x :: l
 | [], x, p => by simp [compactFrom]
 | y :: l, x, p => by
  have ih := compactFrom_mem l y p
  simp only [compactFrom]
  split
  ·rename_i e
   subst e
   simp only [List.mem_cons] at ih ⊢
   rw [ih]; simp
  ·simp only [List.mem_cons] at ih ⊢
   rw [ih]
theorem compactFrom_sorted : ∀ (l : List (Int × Int)) (x : Int × Int), (x :: l).Pairwise leP → (x :: compactFrom x l).Pairwise ltP
 | [], x, _ => by simp [compactFrom]
 | y :: l, x, h => by
  have h' := List.pairwise_cons.1 h
  have ih := compactFrom_sorted l y h'.2
  simp only [compactFrom]
  split
  ·rename_i e; subst e; exact ih
  ·rename_i hne
   refine List.pairwise_cons.2 ⟨fun z hz => ?_, ih⟩
   have hxy : ltP x y := by
    have := h'.1 y (by simp)
    unfold leP at this
    unfold ltP
    rcases this with h1 | ⟨h1, h2⟩
    ·exact .inl h1
    ·refine .inr ⟨h1, ?_⟩
     rcases Int.lt_or_eq_of_le h2 with h3 | h3
     ·exact h3
     ·exact absurd (Prod.ext h1 h3).symm hne
   rcases List.mem_cons.1 hz with rfl | hz
   ·exact hxy
   ·exact hxy.trans ((List.pairwise_cons.1 ih).1 z hz)
theorem compactP_mem (l : List (Int × Int)) (p : Int × Int) : p ∈ compactP l ↔ p ∈ l := by
 cases l with
 | nil => simp [compactP]
 | cons x l => exact compactFrom_mem l x p
theorem compactP_sorted {l : List (Int × Int)} (h : l.Pairwise leP) : (compactP l).Pairwise ltP := by
 cases l with
 | nil => simp [compactP]
 | cons x l => exact compactFrom_sorted l x h
theorem compactFrom_snoc : ∀ (l : List (Int × Int)) (x p : Int × Int), compactFrom x (l ++ [p]) = if (x :: l).getLast? = some p then compactFrom x l else compactFrom x l ++ [p]
 | [], x, p => by
  simp only [List.nil_append, compactFrom, List.getLast?_singleton, Option.some.injEq]
  by_cases h : p = x
  ·simp [h]
  ·have : ¬ x = p := fun e => h e.symm
   simp [h, this]
 | y :: l, x, p => by
  have ih := compactFrom_snoc l y p
  simp only [List.cons_append, compactFrom, List.getLast?_cons_cons]
  rw [ih]
  split
  ·rfl
  ·split <;> simp
theorem compactP_snoc {l : List (Int × Int)} {p : Int × Int} (hl : l ≠ []) : compactP (l ++ [p]) = if l.getLast? = some p then compactP l else compactP l ++ [p] := by
 cases l with
 | nil => exact absurd rfl hl
 | cons x l =>
  simp only [List.cons_append, compactP]
  rw [compactFrom_snoc]
  split <;> simp
theorem compactP_take {l : List (Int × Int)} {j : Nat} {p q : Int × Int} (hq : l[j]? = some q) (hp : l[j + 1]? = some p) : compactP (l.take (j + 2)) = if p = q then compactP (l.take (j + 1)) else compactP (l.take (j + 1)) ++ [p] := by
 have h1 : l.take (j + 2) = l.take (j + 1) ++ [p] := by rw [List.take_add_one, hp]; rfl
 have h2 : l.take (j + 1) = l.take j ++ [q] := by rw [List.take_add_one, hq]; rfl
 rw [h1, compactP_snoc (by rw [h2]; simp)]
 have h3 : (l.take (j + 1)).getLast? = some q := by rw [h2]; simp
 rw [h3]
 by_cases h : p = q
 ·simp [h]
 ·have : ¬ q = p := fun e => h e.symm
  simp [h, this]
theorem compactP_le (l : List (Int × Int)) : (compactP l).length ≤ l.length := by
 have : ∀ (l : List (Int × Int)) (x : Int × Int), (compactFrom x l).length ≤ l.length := by
  intro l
  induction l with
  | nil => intro x; simp [compactFrom]
  | cons y l ih => intro x; have := ih y; simp only [compactFrom]; split <;> simp <;> omega
 cases l with
 | nil => simp [compactP]
 | cons x l => have := this l x; simp [compactP]; exact this
theorem edgesOf_compact {l : List Op1} {out srt : List (Int × Int)} (ho : ∀ p, p ∈ out ↔ Edge l p) (hp : srt.Perm out) (hs : srt.Pairwise leP) : EdgesOf l (compactP srt) :=
 ⟨compactP_sorted hs, fun p => by rw [compactP_mem, hp.mem_iff, ho]⟩
end Go.Proofs.YtdlkjppppdminaaGreatDoor
/- The library's sort and search over structs at this translation: laid by the kit's tool. -/
namespace Go.Proofs
open Go.Shelf
def Tryz.sortW_ren : Go.Shelf.Ren := ⟨fun | 6 => 146 | 15 => 170 | 14 => 169 | 28 => 185 | 29 => 133 | 20 => 177 | 21 => 178 | 22 => 179 | 23 => 180 | 24 => 181 | 25 => 182 | 26 => 183 | 27 => 184 | 46 => 196 | 47 => 197 | 48 => 198 | 49 => 199 | 50 => 200 | 57 => 205 | n => n, fun | 22 => 70 | 24 => 91 | 25 => 222 | 3 => 3 | 39 => 157 | 0 => 0 | 53 => 206 | 55 => 140 | 4 => 4 | 46 => 250 | 45 => 249 | 50 => 179 | 5 => 5 | 9 => 9 | 66 => 262 | 70 => 266 | 76 => 270 | 77 => 271 | n => n, fun | n => n⟩
theorem Tryz.sortW : Go.Proofs.SlLaysF0.n6 Tryz.prog Tryz.sortW_ren := {
 mixed := by kernel_rfl
 f6 := ⟨Tryz.f146.name, by decide, Tryz.func146.trans (congrArg some (by kernel_rfl))⟩
 f14 := ⟨Tryz.f169.name, by decide, Tryz.func169.trans (congrArg some (by kernel_rfl))⟩
 f15 := Tryz.func170.trans (congrArg some (by kernel_rfl))
 f20 := ⟨Tryz.f177.name, by decide, Tryz.func177.trans (congrArg some (by kernel_rfl))⟩
 f21 := ⟨Tryz.f178.name, by decide, Tryz.func178.trans (congrArg some (by kernel_rfl))⟩
 f22 := ⟨Tryz.f179.name, by decide, Tryz.func179.trans (congrArg some (by kernel_rfl))⟩
 f23 := ⟨Tryz.f180.name, by decide, Tryz.func180.trans (congrArg some (by kernel_rfl))⟩
 f24 := ⟨Tryz.f181.name, by decide, Tryz.func181.trans (congrArg some (by kernel_rfl))⟩
 f25 := ⟨Tryz.f182.name, by decide, Tryz.func182.trans (congrArg some (by kernel_rfl))⟩
 f26 := ⟨Tryz.f183.name, by decide, Tryz.func183.trans (congrArg some (by kernel_rfl))⟩
 f27 := ⟨Tryz.f184.name, by decide, Tryz.func184.trans (congrArg some (by kernel_rfl))⟩
 f28 := Tryz.func185.trans (congrArg some (by kernel_rfl))
 f29 := Tryz.func133.trans (congrArg some (by kernel_rfl))
 f46 := ⟨Tryz.f196.name, by decide, Tryz.func196.trans (congrArg some (by kernel_rfl))⟩
 f47 := Tryz.func197.trans (congrArg some (by kernel_rfl))
 f48 := Tryz.func198.trans (congrArg some (by kernel_rfl))
 f49 := ⟨Tryz.f199.name, by decide, Tryz.func199.trans (congrArg some (by kernel_rfl))⟩
 f50 := ⟨Tryz.f200.name, by decide, Tryz.func200.trans (congrArg some (by kernel_rfl))⟩
 f57 := ⟨Tryz.f205.name, by decide, Tryz.func205.trans (congrArg some (by kernel_rfl))⟩
 t0 := Tryz.underlying0
 a0 := Tryz.isAgg0
 z0 := Tryz.sizeOf0
 v0 := Tryz.zeroValue0
 t3 := Tryz.underlying3
 a3 := Tryz.isAgg3
 z3 := Tryz.sizeOf3
 v3 := Tryz.zeroValue3
 t4 := Tryz.underlying4
 a4 := Tryz.isAgg4
 z4 := Tryz.sizeOf4
 v4 := Tryz.zeroValue4
 t5 := Tryz.underlying5
 a5 := Tryz.isAgg5
 z5 := Tryz.sizeOf5
 v5 := Tryz.zeroValue5
 t9 := Tryz.underlying9
 a9 := Tryz.isAgg9
 z9 := Tryz.sizeOf9
 v9 := Tryz.zeroValue9
 t22 := Tryz.underlying70
 a22 := Tryz.isAgg70
 z22 := Tryz.sizeOf70
 v22 := Tryz.zeroValue70
 t25 := Tryz.underlying222
 a25 := Tryz.isAgg222
 z25 := Tryz.sizeOf222
 v25 := Tryz.zeroValue222
 t39 := Tryz.underlying157
 a39 := Tryz.isAgg157
 z39 := Tryz.sizeOf157
 v39 := Tryz.zeroValue157
 t45 := Tryz.underlying249
 a45 := Tryz.isAgg249
 z45 := Tryz.sizeOf249
 v45 := Tryz.zeroValue249
 t46 := Tryz.underlying250
 a46 := Tryz.isAgg250
 z46 := Tryz.sizeOf250
 v46 := Tryz.zeroValue250
 t50 := Tryz.underlying179
 a50 := Tryz.isAgg179
 z50 := Tryz.sizeOf179
 v50 := Tryz.zeroValue179
 t53 := Tryz.underlying206
 a53 := Tryz.isAgg206
 z53 := Tryz.sizeOf206
 v53 := Tryz.zeroValue206
 t55 := Tryz.underlying140
 a55 := Tryz.isAgg140
 z55 := Tryz.sizeOf140
 v55 := Tryz.zeroValue140
 t66 := Tryz.underlying262
 a66 := Tryz.isAgg262
 z66 := Tryz.sizeOf262
 v66 := Tryz.zeroValue262
 t70 := Tryz.underlying266
 a70 := Tryz.isAgg266
 z70 := Tryz.sizeOf266
 v70 := Tryz.zeroValue266
 t76 := Tryz.underlying270
 a76 := Tryz.isAgg270
 z76 := Tryz.sizeOf270
 v76 := Tryz.zeroValue270
 t77 := Tryz.underlying271
 a77 := Tryz.isAgg271
 z77 := Tryz.sizeOf271
 v77 := Tryz.zeroValue271 }
def Tryz.ixOp_ren : Go.Shelf.Ren := ⟨fun | 6 => 142 | n => n, fun | 22 => 106 | 23 => 121 | 25 => 218 | 3 => 3 | 0 => 0 | 4 => 4 | n => n, fun | n => n⟩
theorem Tryz.ixOp : Go.Proofs.SlLaysH0.n6 Tryz.prog Tryz.ixOp_ren := {
 mixed := by kernel_rfl
 f6 := ⟨Tryz.f142.name, by decide, Tryz.func142.trans (congrArg some (by kernel_rfl))⟩
 t0 := Tryz.underlying0
 a0 := Tryz.isAgg0
 z0 := Tryz.sizeOf0
 v0 := Tryz.zeroValue0
 t3 := Tryz.underlying3
 a3 := Tryz.isAgg3
 z3 := Tryz.sizeOf3
 v3 := Tryz.zeroValue3
 t4 := Tryz.underlying4
 a4 := Tryz.isAgg4
 z4 := Tryz.sizeOf4
 v4 := Tryz.zeroValue4
 t22 := Tryz.underlying106
 a22 := Tryz.isAgg106
 z22 := Tryz.sizeOf106
 v22 := Tryz.zeroValue106
 t25 := Tryz.underlying218
 a25 := Tryz.isAgg218
 z25 := Tryz.sizeOf218
 v25 := Tryz.zeroValue218 }
end Go.Proofs
/- How a line comes of counts: in plain words. -/
namespace Go.Proofs.YtdlkjppppdminaaGreatDoor
open Go Go.Sep
def tabF (ts : List Int) (f : Int → Int) : List (Int × Int) := ts.map fun x => (x, f x)
theorem tabF_get (ts : List Int) (f : Int → Int) (k : Int) : mget (tabF ts f) k = if k ∈ ts then some (f k) else none := by
 induction ts with
 | nil => simp [tabF, mget_nil]
 | cons x ts ih =>
  simp only [tabF, List.map_cons, mget_cons] at ih ⊢
  rw [ih]
  by_cases h : x = k
  ·simp [h]
  ·have h' : ¬ k = x := fun e => h e.symm
   simp [h, h']
theorem tabF_put {ts : List Int} {k : Int} (f : Int → Int) (hk : k ∈ ts) (v : Int) : mput (tabF ts f) k v = tabF ts fun x => if x = k then v else f x := by
 unfold mput
 rw [tabF_get, if_pos hk]
 simp only [Option.isSome_some, ↓reduceIte]
 simp only [tabF, List.map_map]
 apply List.map_congr_left
 intro x _
 by_cases h : x = k <;> simp [h]
theorem tabF_put_new {ts : List Int} {k : Int} (f : Int → Int) (hk : k ∉ ts) : mput (tabF ts f) k (f k) = tabF (ts ++ [k]) f := by
 unfold mput
 rw [tabF_get, if_neg hk]
 simp [tabF]
theorem tabF_del (ts : List Int) (f : Int → Int) (k : Int) : mdel (tabF ts f) k = tabF (ts.filter fun x => decide (x ≠ k)) f := by
 unfold mdel tabF
 rw [List.filter_map]
 rfl
theorem tabF_congr {ts : List Int} {f g : Int → Int} (h : ∀ x ∈ ts, f x = g x) : tabF ts f = tabF ts g := by
 apply List.map_congr_left
 intro x hx; rw [h x hx]
theorem tab_zero (l : List Op1) (i : Nat) (o : Op1) (hp : l[i]? = some o) : mput (tabF (txsOf (l.take i)) fun _ => 0) o.tx 0 = tabF (txsOf (l.take (i + 1))) fun _ => 0 := by
 have e : l.take (i + 1) = l.take i ++ [o] := by rw [List.take_add_one, hp]; rfl
 rw [e, txsOf_snoc]
 unfold tstep
 by_cases h : o.tx ∈ txsOf (l.take i)
 ·rw [if_pos h, tabF_put _ h]
  apply tabF_congr
  intro x _; split <;> rfl
 ·rw [if_neg h]
  exact tabF_put_new (fun _ => 0) h
def into (es : List (Int × Int)) (x : Int) : Int := ((es.filter fun e => decide (e.2 = x)).length : Nat)
theorem into_snoc (es : List (Int × Int)) (e : Int × Int) (x : Int) : into (es ++ [e]) x = if x = e.2 then into es x + 1 else into es x := by
 unfold into
 rw [List.filter_append, List.length_append]
 by_cases h : x = e.2
 ·subst h; simp
 ·have h' : ¬ e.2 = x := fun e' => h e'.symm
  simp [h, h']
def indeg (es : List (Int × Int)) (rem : List Int) (x : Int) : Int := ((es.filter fun e => decide (e.2 = x) && decide (e.1 ∈ rem)).length : Nat)
theorem indeg_all {es : List (Int × Int)} {rem : List Int} (h : ∀ e ∈ es, e.1 ∈ rem) (x : Int) : indeg es rem x = into es x := by
 unfold indeg into
 congr 2
 apply List.filter_congr
 intro e he
 simp [h e he]
theorem indeg_zero (es : List (Int × Int)) (rem : List Int) (x : Int) : indeg es rem x = 0 ↔ free es rem x = true := by
 unfold indeg free
 rw [List.all_eq_true]
 constructor
 ·intro h e he
  have h1 : (es.filter fun e => decide (e.2 = x) && decide (e.1 ∈ rem)) = [] := List.eq_nil_of_length_eq_zero (by omega)
  have h2 := List.filter_eq_nil_iff.1 h1 e he
  rw [Bool.not_eq_true']
  exact Bool.eq_false_iff.2 h2
 ·intro h
  have : (es.filter fun e => decide (e.2 = x) && decide (e.1 ∈ rem)) = [] := List.filter_eq_nil_iff.2 fun e he => by
   have h3 := h e he
   rw [Bool.not_eq_true'] at h3
   rw [h3]; simp
  rw [this]; rfl
theorem indeg_nonneg (es : List (Int × Int)) (rem : List Int) (x : Int) : 0 ≤ indeg es rem x ∧ indeg es rem x ≤ es.length := by
 unfold indeg
 have := List.length_filter_le (fun e : Int × Int => decide (e.2 = x) && decide (e.1 ∈ rem)) es
 omega
def outOf (es : List (Int × Int)) (b x : Int) : Int := ((es.filter fun e => decide (e.1 = b) && decide (e.2 = x)).length : Nat)
theorem outOf_snoc (es : List (Int × Int)) (e : Int × Int) (b x : Int) : outOf (es ++ [e]) b x = if e.1 = b ∧ x = e.2 then outOf es b x + 1 else outOf es b x := by
 unfold outOf
 rw [List.filter_append, List.length_append]
 by_cases h : x = e.2
 ·subst h
  by_cases h2 : e.1 = b <;> simp [h2]
 ·have h' : ¬ e.2 = x := fun e' => h e'.symm
  simp [h, h']
theorem outOf_le (es : List (Int × Int)) (b x : Int) : 0 ≤ outOf es b x ∧ outOf es b x ≤ es.length := by
 unfold outOf
 have := List.length_filter_le (fun e : Int × Int => decide (e.1 = b) && decide (e.2 = x)) es
 omega
theorem indeg_step {rem : List Int} {b : Int} (hb : b ∈ rem) (x : Int) : ∀ es : List (Int × Int), indeg es rem x - outOf es b x = indeg es (rem.filter fun y => decide (y ≠ b)) x
 | [] => by simp [indeg, outOf]
 | e :: es => by
  have ih := indeg_step hb x es
  unfold indeg outOf at ih ⊢
  simp only [List.filter_cons]
  by_cases h1 : e.2 = x <;> by_cases h2 : e.1 = b
  ·have h3 : e.1 ∈ rem := h2 ▸ hb
   have h4 : e.1 ∉ rem.filter fun y => decide (y ≠ b) := by simp [h2]
   simp [h1, h2, hb] at ih ⊢
   omega
  ·by_cases h3 : e.1 ∈ rem <;> simp [h1, h2, h3] at ih ⊢ <;> omega
  ·simp [h1] at ih ⊢; omega
  ·simp [h1] at ih ⊢; omega
structure Left2 (es : List (Int × Int)) (l : List Op1) (rem out : List Int) : Prop where
 nodup : rem.Nodup
 down : ∀ e ∈ es, e.1 ∈ rem → e.2 ∈ rem
 sub : ∀ x ∈ rem, x ∈ txsOf l
 eq : ∃ n, rem.length ≤ n ∧ lineL es (txsOf l).length (txsOf l) = (lineL es n rem).map (out ++ ·)
theorem Left2.start {es : List (Int × Int)} {l : List Op1} (h : ∀ e ∈ es, e.2 ∈ txsOf l) : Left2 es l (txsOf l) [] :=
 ⟨txsOf_nodup l, fun e he _ => h e he, fun _ h => h, _, Nat.le_refl _, by simp⟩
theorem Left2.done {es : List (Int × Int)} {l : List Op1} {out : List Int} (h : Left2 es l [] out) : lineL es (txsOf l).length (txsOf l) = some out := by
 obtain ⟨n, _, hn⟩ := h.eq
 rw [hn]
 cases n <;> simp [lineL]
theorem Left2.stuck {es : List (Int × Int)} {l : List Op1} {rem out : List Int} (h : Left2 es l rem out) (hne : rem ≠ []) (hf : rem.filter (free es rem) = []) : lineL es (txsOf l).length (txsOf l) = none := by
 obtain ⟨n, hl, hn⟩ := h.eq
 rw [hn]
 cases n with
 | zero => exact absurd (List.eq_nil_of_length_eq_zero (by omega)) hne
 | succ n =>
  simp only [lineL]
  rw [if_neg hne, hf]
  simp [least]
theorem Left2.step {es : List (Int × Int)} {l : List Op1} {rem out : List Int} {b : Int} (h : Left2 es l rem out) (hb : b ∈ rem) (hfr : free es rem b = true) (hle : ∀ x ∈ rem, free es rem x = true → b ≤ x) :
  Left2 es l (rem.filter fun x => decide (x ≠ b)) (out ++ [b]) ∧ ∀ e ∈ es, e.1 = b → e.2 ∈ rem.filter fun x => decide (x ≠ b) := by
 obtain ⟨n, hl, hn⟩ := h.eq
 have hne : rem ≠ [] := fun e => by rw [e] at hb; simp at hb
 have hdown : ∀ e ∈ es, e.1 ∈ rem → e.2 ∈ rem ∧ e.2 ≠ b := fun e he h1 => ⟨h.down e he h1, fun e2 => by
  have := List.all_eq_true.1 hfr e he
  simp [e2, h1] at this⟩
 refine ⟨⟨h.nodup.filter _, fun e he h1 => ?_, fun x hx => h.sub x (List.mem_filter.1 hx).1, ?_⟩, fun e he h1 => ?_⟩
 ·obtain ⟨h2, h3⟩ := hdown e he (List.mem_filter.1 h1).1
  exact List.mem_filter.2 ⟨h2, by simpa using h3⟩
 ·cases n with
  | zero => exact absurd (List.eq_nil_of_length_eq_zero (by omega)) hne
  | succ n =>
   have hlt := filter_ne_length hb
   refine ⟨n, by omega, ?_⟩
   rw [hn]
   simp only [lineL]
   rw [if_neg hne]
   have : least (rem.filter (free es rem)) = some b := least_eq (List.mem_filter.2 ⟨hb, hfr⟩) fun x hx => hle x (List.mem_filter.1 hx).1 (List.mem_filter.1 hx).2
   rw [this]
   show ((lineL es n (rem.filter fun x => decide (x ≠ b))).map (b :: ·)).map (out ++ ·) = (lineL es n (rem.filter fun x => decide (x ≠ b))).map ((out ++ [b]) ++ ·)
   rw [Option.map_map]
   congr 1
   funext x
   simp
 ·obtain ⟨h2, h3⟩ := hdown e he (h1 ▸ hb)
  exact List.mem_filter.2 ⟨h2, by simpa using h3⟩
def Best (best : Int) (dn : List (Int × Int)) : Prop := (best = -1 ∧ ∀ p ∈ dn, p.2 ≠ 0) ∨ (0 ≤ best ∧ (best, 0) ∈ dn ∧ ∀ p ∈ dn, p.2 = 0 → best ≤ p.1)
theorem Best.start : Best (-1) [] := .inl ⟨rfl, by simp⟩
theorem Best.snoc {best : Int} {dn : List (Int × Int)} (h : Best best dn) (p : Int × Int) (hp : 0 ≤ p.1) : Best (if p.2 = 0 ∧ (best < 0 ∨ p.1 < best) then p.1 else best) (dn ++ [p]) := by
 obtain ⟨k, n⟩ := p
 simp only at hp ⊢
 by_cases h0 : n = 0
 ·subst h0
  rcases h with ⟨rfl, h1⟩ | ⟨h1, h2, h3⟩
  ·rw [if_pos ⟨rfl, .inl (by omega)⟩]
   refine .inr ⟨hp, by simp, fun q hq hq0 => ?_⟩
   rcases List.mem_append.1 hq with hq | hq
   ·exact absurd hq0 (h1 q hq)
   ·rw [List.mem_singleton] at hq; subst hq; exact Int.le_refl _
  ·by_cases hlt : k < best
   ·rw [if_pos ⟨rfl, .inr hlt⟩]
    refine .inr ⟨hp, by simp, fun q hq hq0 => ?_⟩
    rcases List.mem_append.1 hq with hq | hq
    ·have := h3 q hq hq0; omega
    ·rw [List.mem_singleton] at hq; subst hq; exact Int.le_refl _
   ·rw [if_neg (by omega)]
    refine .inr ⟨h1, by simp [h2], fun q hq hq0 => ?_⟩
    rcases List.mem_append.1 hq with hq | hq
    ·exact h3 q hq hq0
    ·rw [List.mem_singleton] at hq; subst hq; show best ≤ k; omega
 ·rw [if_neg (fun h => h0 h.1)]
  rcases h with ⟨rfl, h1⟩ | ⟨h1, h2, h3⟩
  ·refine .inl ⟨rfl, fun q hq => ?_⟩
   rcases List.mem_append.1 hq with hq | hq
   ·exact h1 q hq
   ·rw [List.mem_singleton] at hq; subst hq; exact h0
  ·refine .inr ⟨h1, by simp [h2], fun q hq hq0 => ?_⟩
   rcases List.mem_append.1 hq with hq | hq
   ·exact h3 q hq hq0
   ·rw [List.mem_singleton] at hq; subst hq; exact absurd hq0 h0
theorem Best.all {es : List (Int × Int)} {rem : List Int} {best : Int} {dn : List (Int × Int)} (h : Best best dn) (hp : dn.Perm (tabF rem (indeg es rem))) :
  (best = -1 ∧ rem.filter (free es rem) = []) ∨ (0 ≤ best ∧ best ∈ rem ∧ free es rem best = true ∧ ∀ x ∈ rem, free es rem x = true → best ≤ x) := by
 have hm : ∀ x, x ∈ rem → (x, indeg es rem x) ∈ dn := fun x hx => hp.mem_iff.2 (List.mem_map.2 ⟨x, hx, rfl⟩)
 rcases h with ⟨h1, h2⟩ | ⟨h1, h2, h3⟩
 ·refine .inl ⟨h1, List.filter_eq_nil_iff.2 fun x hx hf => ?_⟩
  exact h2 _ (hm x hx) ((indeg_zero _ _ _).2 hf)
 ·obtain ⟨x, hx, he⟩ := List.mem_map.1 (hp.mem_iff.1 h2)
  simp only [Prod.mk.injEq] at he
  obtain ⟨rfl, he⟩ := he
  exact .inr ⟨h1, hx, (indeg_zero _ _ _).1 he, fun y hy hf => h3 _ (hm y hy) ((indeg_zero _ _ _).2 hf)⟩
end Go.Proofs.YtdlkjppppdminaaGreatDoor
/- plain.Place, of whatever error; what the laws ask of two errors. -/
namespace Go.Sep
def Err.place : Err → Int
 | .nil => -1
 | .no _ => -1
 | .at_ _ p => p
end Go.Sep
namespace Go.Proofs.YtdlkjppppdminaaGreatDoor
open Go Go.RowKit Go.Sep Go.Stop
end Go.Proofs.YtdlkjppppdminaaGreatDoor
/- Maps whose keys are pairs of whole numbers. -/
namespace Go.Sep
open Go Go.RowKit
end Go.Sep
namespace Go.Sep
open Go Go.RowKit
def linesL : List UInt8 → List (List UInt8)
 | [] => [[]]
 | c :: r => if c = 10 then [] :: linesL r else match linesL r with
  | [] => [[c]]
  | x :: xs => (c :: x) :: xs
theorem linesL_cons (c : UInt8) (r : List UInt8) : linesL (c :: r) = if c = 10 then [] :: linesL r else match linesL r with | [] => [[c]] | x :: xs => (c :: x) :: xs := rfl
theorem linesL_ne : ∀ s, linesL s ≠ []
 | [] => by simp [linesL]
 | c :: r => by
  unfold linesL
  split
  ·simp
  ·split <;> simp
theorem linesL_append : ∀ a b, linesL (a ++ 10 :: b) = linesL a ++ linesL b
 | [], b => by simp [linesL]
 | c :: r, b => by
  rw [List.cons_append, linesL_cons, linesL_cons, linesL_append r b]
  by_cases h : c = 10
  ·simp [h]
  ·rw [if_neg h, if_neg h]
   cases e : linesL r with
   | nil => exact absurd e (linesL_ne r)
   | cons x xs => simp
theorem linesL_none : ∀ s, Lib.indexByte s 10 = -1 → linesL s = [s]
 | [], _ => rfl
 | c :: r, h => by
  unfold Lib.indexByte at h
  split at h
  ·exact absurd h (by decide)
  ·rename_i hc
   have hge := Lib.indexByte_ge r 10
   split at h
   ·rename_i h2
    have hc2 : ¬ c = 10 := by simpa using hc
    unfold linesL
    rw [if_neg hc2, linesL_none r (by simpa using h2)]
   ·omega
theorem linesL_some : ∀ (s : List UInt8) (i : Nat), Lib.indexByte s 10 = i → i < s.length ∧ linesL s = s.take i :: linesL (s.drop (i + 1))
 | [], i, h => by simp [Lib.indexByte] at h
 | c :: r, i, h => by
  unfold Lib.indexByte at h
  split at h
  ·rename_i hc
   obtain rfl : i = 0 := by omega
   have hc2 : c = 10 := by simpa using hc
   subst hc2
   refine ⟨by simp, ?_⟩
   conv => lhs; unfold linesL
   simp
  ·rename_i hc
   have hc2 : ¬ c = 10 := by simpa using hc
   split at h
   ·omega
   ·rename_i h2
    have hge := Lib.indexByte_ge r 10
    obtain ⟨k, rfl⟩ : ∃ k, i = k + 1 := ⟨i - 1, by
     have : Lib.indexByte r 10 ≠ -1 := by simpa using h2
     omega⟩
    obtain ⟨h3, h4⟩ := linesL_some r k (by omega)
    refine ⟨by simp; omega, ?_⟩
    conv => lhs; unfold linesL
    rw [if_neg hc2, h4]
    simp
theorem linesL_len : ∀ s, (linesL s).length ≤ s.length + 1 ∧ ∀ x ∈ linesL s, x.length ≤ s.length
 | [] => by simp [linesL]
 | c :: r => by
  obtain ⟨h1, h2⟩ := linesL_len r
  unfold linesL
  split
  ·refine ⟨by simp; omega, fun x hx => ?_⟩
   rcases List.mem_cons.1 hx with rfl | hx
   ·simp
   ·have := h2 x hx; simp; omega
  ·cases e : linesL r with
   | nil => exact absurd e (linesL_ne r)
   | cons y ys =>
    rw [e] at h1 h2
    refine ⟨by simp at h1 ⊢; omega, fun x hx => ?_⟩
    rcases List.mem_cons.1 hx with rfl | hx
    ·have := h2 y (by simp); simp; omega
    ·have := h2 x (by simp [hx]); simp; omega
end Go.Sep
