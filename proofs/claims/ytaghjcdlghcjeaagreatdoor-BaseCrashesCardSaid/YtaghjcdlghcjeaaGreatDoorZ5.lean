/- Short words for printed walks. No program in sight. -/
import Derived.Test.YtaghjcdlghcjeaaGreatDoorZ0
import Derived.Test.YtaghjcdlghcjeaaGreatDoorZ4
import Derived.Test.YtaghjcdlghcjeaaGreatDoorZ1
import Derived.Deep.RegionHeldLaw
import Derived.Deep.RegionHeld
import Derived.Test.YtaghjcdlghcjeaaGreatDoorZ2
import Derived.WalkKit
/- Maps on the model's heap: an entry that is found first, and written later (an assignment to several things). No program in sight. -/
namespace Go.Sep
open Go Go.RowKit
set_option linter.unusedSectionVars false
section
variable {κ : Type} [DecidableEq κ] {P : Program} {kt : TypeId} {enc : κ → Value} {ok : κ → Prop} {w w0 : World} {L : List HProp} {b r : Nat} {D : List (κ × Value)}

theorem setObjW_cell {o : Obj} {a : Addr} {v : Value} (h : ∀ c e f, w.heap[r]? ≠ some (.cells c e f)) (hc : w.cell? a = some v) : (setObjW w r o).cell? a = some v := by
  have hne : a.block ≠ r := by
    intro e
    unfold World.cell? at hc
    rw [e] at hc
    cases hh : w.heap[r]? with
    | none => rw [hh] at hc; simp at hc
    | some o' =>
      rw [hh] at hc
      cases o' with
      | cells c e' f => exact h c e' f hh
      | _ => simp at hc
  rw [← hc]
  exact World.cell?_of_block (by simp [setObjW, Array.getElem?_setIfInBounds_ne (fun e => hne e.symm)])
theorem mput_mput {κ ν : Type} [DecidableEq κ] (D : List (κ × ν)) (k : κ) (u v : ν) : mput (mput D k u) k v = mput D k v := by
  have h1 : (mget (mput D k u) k).isSome := by rw [mget_put]; simp
  unfold mput at h1 ⊢
  rw [if_pos h1]
  by_cases h : (mget D k).isSome
  · rw [if_pos h, if_pos h, List.map_map]
    apply List.map_congr_left
    intro d _
    simp only [Function.comp]
    by_cases e : d.1 = k <;> simp [e]
  · rw [if_neg h, if_neg h, List.map_append]
    congr 1
    · have hn : k ∉ D.map (·.1) := mget_none.1 (by simpa using h)
      conv => rhs; rw [← List.map_id D]
      apply List.map_congr_left
      intro d hd
      have : d.1 ≠ k := fun e => hn (by rw [← e]; exact List.mem_map_of_mem hd)
      simp [this]
    · simp

/-- A map with an entry for 'k' whose stamp is 'st'. -/
def entP (enc : κ → Value) (ok : κ → Prop) (b : Nat) (D : List (κ × Value)) (k : κ) (st : Nat) : HProp :=
  ex fun es : Array MapEntry => ex fun clock : Nat => sep (pur (MapObj enc ok D es clock ∧ ∃ (i : Nat) (e : MapEntry), es.toList[i]? = some e ∧ e.born = st ∧ (D.map (·.1))[i]? = some k)) (ob b (.map es clock))

theorem S.entry_find (K : KeyOk P kt enc ok) {t e : TypeId} (ht : P.underlying t = some (.map kt e)) {z : Value} (hz : (zeroValue e).run P w = .ok z w) (h : S w0 w (mp enc ok b D :: L)) (k : κ) (hk : ok k) :
    ∃ (st : Nat) (w' : World), (Instr.mapEntry t (.map (some b)) (enc k)).run P w = .ok (.tuple #[(mget D k).getD z, .int .i64 (st : Int)]) w' ∧ S w0 w' (entP enc ok b (mput D k ((mget D k).getD z)) k st :: L) ∧ ∀ a v, w.cell? a = some v → w'.cell? a = some v := by
  obtain ⟨es, h⟩ := h.ex_elim
  obtain ⟨clock, h⟩ := h.ex_elim
  obtain ⟨hm, h⟩ := h.sep_elim.pur_elim
  have hb := h.obj
  have hnc : ∀ c e f, w.heap[b]? ≠ some (.cells c e f) := by intro c e f; rw [hb]; simp
  have hf := K.find k es.toList (D.map (·.1)) w hk (by intro x hx; obtain ⟨d, hd, rfl⟩ := List.mem_map.1 hx; exact hm.2.2.2.2 d hd) (keys_of hm)
  have hg := find_zip D es.toList k 0 hm.1
  have hlen : es.size = D.length := by have := congrArg List.length hm.1; simpa using this
  cases hx : ((D.map (·.1)).zip es.toList).zipIdx.find? (fun x => decide (x.1.1 = k)) with
  | none =>
    rw [hx] at hg
    simp at hg
    have hp : mput D k z = D ++ [(k, z)] := by unfold mput; rw [← hg]; simp
    have hnd := keys_put_nodup hm.2.2.2.1 k z
    refine ⟨clock, setObjW w b (.map (es.push { key := enc k, val := z, born := clock }) (clock + 1)), ?_, ?_, fun a v hc => setObjW_cell hnc hc⟩
    · simp only [Instr.mapEntry, Sem.run_bind, run_underlying ht, Result.andThen_ok, run_getObj_map hb, K.check, hf, hx, Option.map_none, hz, run_setObj_map hb, Sem.run_pure, ← hg, Option.getD_none]
      rfl
    · rw [← hg, Option.getD_none]
      refine .ex_intro _ (.ex_intro _ (.sep_intro (.pur_intro ?_ (h.set_obj (by simp) (by simp)))))
      refine ⟨⟨by rw [hp]; simp [hm.1], ?_, ?_, hnd, ?_⟩, D.length, { key := enc k, val := z, born := clock }, ?_, rfl, ?_⟩
      · simp only [Array.toList_push, List.map_append, List.map_cons, List.map_nil]
        rw [List.nodup_append]
        refine ⟨hm.2.1, by simp, ?_⟩
        intro a ha c hc
        simp at hc; subst hc
        obtain ⟨e', he', rfl⟩ := List.mem_map.1 ha
        have := hm.2.2.1 e' he'; omega
      · intro e' he'
        simp only [Array.toList_push, List.mem_append, List.mem_singleton] at he'
        rcases he' with he' | rfl
        · have := hm.2.2.1 e' he'; omega
        · simp
      · intro d hd
        rw [hp] at hd
        rcases List.mem_append.1 hd with h1 | h1
        · exact hm.2.2.2.2 d h1
        · simp at h1; subst h1; exact hk
      · rw [Array.toList_push, List.getElem?_append_right (by simp [hlen])]; simp [hlen]
      · rw [hp]; simp
  | some x =>
    obtain ⟨i, h1, h2, h3, h4⟩ := find_zip_idx (enc := enc) D es.toList k 0 x hm.1 hm.2.2.2.1 hx
    simp only [Nat.zero_add] at h1
    have hkey : x.1.2.key = enc k := by
      have e1 := congrArg (·[i]?) (keys_of hm)
      simp only [List.getElem?_map, h4] at e1
      have e2 := (h3 i).2 rfl
      simp only [List.getElem?_map] at e2
      cases hd : D[i]? with
      | none => rw [hd] at e2; simp at e2
      | some d => rw [hd] at e1 e2; simp at e1 e2; rw [e1, e2]
    have hget : es[i]? = some x.1.2 := by simpa using h4
    rw [hx] at hg
    simp at hg
    have hmod : es.modify i (fun e => { e with key := enc k }) = es := by
      apply Array.ext_getElem?
      intro j
      rw [Array.getElem?_modify]
      by_cases hij : i = j
      · subst hij; rw [if_pos rfl, hget]; simp [← hkey]
      · rw [if_neg hij]
    have hpp : mput D k x.1.2.val = D := by
      unfold mput
      rw [← hg, Option.isSome_some, if_pos rfl]
      conv => rhs; rw [← List.map_id D]
      apply List.map_congr_left
      intro d hd
      by_cases e : d.1 = k
      · have := mget_mem hm.2.2.2.1 (show (d.1, d.2) ∈ D from hd)
        rw [e, ← hg] at this
        simp only [e, if_true, id]
        have := Option.some.inj this
        rw [this, ← e]
      · simp [e]
    refine ⟨x.1.2.born, setObjW w b (.map es clock), ?_, ?_, fun a v hc => setObjW_cell hnc hc⟩
    · simp only [Instr.mapEntry, Sem.run_bind, run_underlying ht, Result.andThen_ok, run_getObj_map hb, K.check, hf, hx, Option.map_some, h1, hget, Option.getD_some, hkey, K.stays, run_setObj_map hb, Sem.run_pure, hmod, ← hg]
      rfl
    · rw [← hg, Option.getD_some, hpp]
      refine .ex_intro es (.ex_intro clock (.sep_intro (.pur_intro ⟨hm, i, x.1.2, h4, rfl, (h3 i).2 rfl⟩ (h.set_obj (by simp) (by simp)))))
theorem S.entry_store {D : List (κ × Value)} {k : κ} {st : Nat} (h : S w0 w (entP enc ok b D k st :: L)) (t : TypeId) (v : Value) :
    ∃ w', (Instr.entryStore t (.map (some b)) (.int .i64 (st : Int)) v).run P w = .ok () w' ∧ S w0 w' (mp enc ok b (mput D k v) :: L) ∧ ∀ a u, w.cell? a = some u → w'.cell? a = some u := by
  obtain ⟨es, h⟩ := h.ex_elim
  obtain ⟨clock, h⟩ := h.ex_elim
  obtain ⟨⟨hm, i, e, hi, hst, hki⟩, h⟩ := h.sep_elim.pur_elim
  have hb := h.obj
  have hnc : ∀ c e f, w.heap[b]? ≠ some (.cells c e f) := by intro c e f; rw [hb]; simp
  have hidx : es.findIdx? (fun e => (e.born : Int) == (st : Int)) = some i := by
    have hlt : i < es.size := by have := (List.getElem?_eq_some_iff.1 hi).1; simpa using this
    rw [Array.findIdx?_eq_some_iff_getElem]
    have hei : es[i] = e := by have := (List.getElem?_eq_some_iff.1 hi).2; simpa using this
    refine ⟨hlt, by rw [hei]; simp [hst], fun j hj => ?_⟩
    have hjl : j < es.size := by omega
    have : es[j].born ≠ st := by
      intro ej
      have q1 : (es.toList.map (·.born))[j]? = some st := by simp [hjl, ej]
      have q2 : (es.toList.map (·.born))[i]? = some st := by rw [List.getElem?_map, hi]; simp [hst]
      have := (List.getElem?_inj (by simp; omega) hm.2.1).1 (q1.trans q2.symm)
      omega
    simp; omega
  have hki' : ∀ j, (D.map (·.1))[j]? = some k ↔ j = i := by
    intro j
    constructor
    · intro hj; exact (List.getElem?_inj (List.getElem?_eq_some_iff.1 hj).1 hm.2.2.2.1).1 (hj.trans hki.symm)
    · rintro rfl; exact hki
  have hkey : e.key = enc k := by
    have e1 := congrArg (·[i]?) (keys_of hm)
    simp only [List.getElem?_map, hi] at e1
    have e2 := hki
    simp only [List.getElem?_map] at e2
    cases hd : D[i]? with
    | none => rw [hd] at e2; simp at e2
    | some d => rw [hd] at e1 e2; simp at e1 e2; rw [e1, e2]
  have hsome : (mget D k).isSome := by
    cases hg : mget D k with
    | none => exact absurd (List.mem_of_getElem? hki) (mget_none.1 hg)
    | some _ => rfl
  have hp : mput D k v = D.map fun d => if d.1 = k then (k, v) else d := by unfold mput; rw [if_pos hsome]
  refine ⟨setObjW w b (.map (es.modify i fun e => { e with val := v }) clock), ?_, ?_, fun a u hc => setObjW_cell hnc hc⟩
  · simp only [Instr.entryStore, Sem.run_bind, run_getObj_map hb, Result.andThen_ok, asInt, asIntOf, Sem.run_pure, hidx, run_setObj_map hb]
  · have hmod : (es.modify i fun e => { e with val := v }) = es.modify i fun e => { e with key := enc k, val := v } := by
      apply Array.ext_getElem?
      intro j
      rw [Array.getElem?_modify, Array.getElem?_modify]
      by_cases hij : i = j
      · subst hij
        have : es[i]? = some e := by simpa using hi
        rw [if_pos rfl, if_pos rfl, this]; simp [hkey]
      · rw [if_neg hij, if_neg hij]
    rw [hmod]
    refine .mp_of ?_ (h.set_obj (by simp) (by simp))
    have hborn : (es.modify i fun e => { e with key := enc k, val := v }).toList.map (·.born) = es.toList.map (·.born) := by
      rw [Array.toList_modify]
      apply List.ext_getElem?
      intro j
      simp only [List.getElem?_map, List.getElem?_modify]
      cases es.toList[j]? with
      | none => simp
      | some e => by_cases hij : i = j <;> simp [hij]
    refine ⟨by rw [hp, Array.toList_modify]; exact map_modify_eq v hm.1 hki', by rw [hborn]; exact hm.2.1, ?_, keys_put_nodup hm.2.2.2.1 k v, ?_⟩
    · intro e' he'
      have : e'.born ∈ (es.modify i fun e => { e with key := enc k, val := v }).toList.map (·.born) := List.mem_map_of_mem he'
      rw [hborn] at this
      obtain ⟨e'', he'', hbb⟩ := List.mem_map.1 this
      rw [← hbb]; exact hm.2.2.1 e'' he''
    · intro d hd
      rw [hp] at hd
      obtain ⟨d', hd', rfl⟩ := List.mem_map.1 hd
      by_cases ek : d'.1 = k
      · rw [if_pos ek]
        have h1 := hm.2.2.2.2 d' hd'
        rw [ek] at h1; exact h1
      · rw [if_neg ek]; exact hm.2.2.2.2 d' hd'
/-- Ranging over no map. -/
theorem run_range_none {t e : TypeId} (ht : P.underlying t = some (.map kt e)) (w : World) : (Instr.range t (.map none)).run P w = .ok (.pointer (some ⟨w.heap.size, 0, none⟩)) (w.alloc (.mapIter none 0 #[] 0)) := by
  simp [Instr.range, run_underlying ht]
theorem run_next_none {ty : TypeId} (h : w.heap[r]? = some (.mapIter none 0 #[] 0)) : (Instr.next (.pointer (some ⟨r, 0, none⟩)) false ty).run P w = .ok (.tuple #[.bool false]) w := by
  simp [Instr.next, run_getObj_iter h]
end
end Go.Sep
/- The program's engine: two transactions at once, one of which is ahead of the other one. No walk in sight. -/
namespace Go.Proofs.YtaghjcdlghcjeaaGreatDoor
open Go Go.RowKit Go.Sep
variable {w w0 : World} {L : List HProp} {b : Nat} {bs : List Nat} {k : EngV} {e : Eng} {i j : Nat}

theorem txK_parts (bs : List Nat) (b : Nat) (v : TxV) (x : Tx) : txK bs b v x = sep (blk b 80 (txF v x)) (sep (sl 89 2 v.rv x.reads.length (pcells x.reads)) (sep (mp encI (fun _ => True) v.mb (ienc x.writes)) (sep (sl 77 1 v.fv x.fore.length (ptrs bs x.fore)) (sl 77 1 v.av x.aft.length (ptrs bs x.aft))))) := rfl
theorem Eng.note_txs (e : Eng) (hi : i < e.txs.length) (hj : j < e.txs.length) (hij : i ≠ j) : (e.note i j).txs = (e.txs.set i { e.tx i with aft := (e.tx i).aft ++ [j] }).set j { e.tx j with fore := (e.tx j).fore ++ [i] } := by
  unfold Eng.note
  rw [Eng.upd_set (by rw [Eng.upd_len]; exact hj), Eng.upd_ne hij, Eng.upd_set hi]
def twoX (b : Nat) (bs : List Nat) (k : EngV) (e : Eng) (i j : Nat) : HProp :=
  sep (blk (blkOf bs i) 80 (txF (k.v i) (e.tx i))) (sep (sl 89 2 (k.v i).rv (e.tx i).reads.length (pcells (e.tx i).reads)) (sep (mp encI (fun _ => True) (k.v i).mb (ienc (e.tx i).writes)) (sep (sl 77 1 (k.v i).fv (e.tx i).fore.length (ptrs bs (e.tx i).fore))
    (sep (blk (blkOf bs j) 80 (txF (k.v j) (e.tx j))) (sep (sl 89 2 (k.v j).rv (e.tx j).reads.length (pcells (e.tx j).reads)) (sep (mp encI (fun _ => True) (k.v j).mb (ienc (e.tx j).writes)) (sep (sl 77 1 (k.v j).av (e.tx j).aft.length (ptrs bs (e.tx j).aft))
    (sep (pur (k.tv.length = e.txs.length)) (engG b bs k.txv k.hv k.wb e.txs.length e.count e.wr e.hist (((txPs bs k.tv e.txs).set i emp).set j emp))))))))))
theorem _root_.Go.Sep.S.eng_two (h : S w0 w (engO b bs k e :: L)) (hi : i < e.txs.length) (hj : j < e.txs.length) (hij : i ≠ j) :
    S w0 w (sl 77 1 (k.v i).av (e.tx i).aft.length (ptrs bs (e.tx i).aft) :: sl 77 1 (k.v j).fv (e.tx j).fore.length (ptrs bs (e.tx j).fore) :: twoX b bs k e i j :: L) := by
  obtain ⟨hp, h⟩ := h.sep_elim.pur_elim
  have hli : i < (txPs bs k.tv e.txs).length := by rw [txPs_length]; exact hi
  have h1 := h.engG_out i hli
  rw [txPs_get hli] at h1
  have hlj : j < ((txPs bs k.tv e.txs).set i emp).length := by rw [List.length_set, txPs_length]; exact hj
  have h2 := h1.swap.engG_out j hlj
  rw [List.getElem_set_ne hij, txPs_get] at h2
  have h3 := S.pur_intro hp h2
  refine h3.conv ?_
  simp only [all, twoX]
  rw [show (k.tv[i]?).getD .none = k.v i from rfl, show (k.tv[j]?).getD .none = k.v j from rfl, show (e.txs[i]?).getD .zero = e.tx i from rfl, show (e.txs[j]?).getD .zero = e.tx j from rfl, txK_parts, txK_parts]
  ac_rfl
theorem two_blks (w0 : World) (b : Nat) (bs : List Nat) (k : EngV) (e : Eng) (i j : Nat) : ∃ Y, (∀ W M, S w0 W (twoX b bs k e i j :: M) → S w0 W (blk (blkOf bs i) 80 (txF (k.v i) (e.tx i)) :: blk (blkOf bs j) 80 (txF (k.v j) (e.tx j)) :: Y :: M)) ∧
    Y = sep (sl 89 2 (k.v i).rv (e.tx i).reads.length (pcells (e.tx i).reads)) (sep (mp encI (fun _ => True) (k.v i).mb (ienc (e.tx i).writes)) (sep (sl 77 1 (k.v i).fv (e.tx i).fore.length (ptrs bs (e.tx i).fore))
    (sep (sl 89 2 (k.v j).rv (e.tx j).reads.length (pcells (e.tx j).reads)) (sep (mp encI (fun _ => True) (k.v j).mb (ienc (e.tx j).writes)) (sep (sl 77 1 (k.v j).av (e.tx j).aft.length (ptrs bs (e.tx j).aft))
    (sep (pur (k.tv.length = e.txs.length)) (engG b bs k.txv k.hv k.wb e.txs.length e.count e.wr e.hist (((txPs bs k.tv e.txs).set i emp).set j emp)))))))) :=
  ⟨_, fun W M hW => hW.conv (by simp only [all, twoX]; ac_rfl), rfl⟩
/-- The two cells that are to be written. -/
theorem _root_.Go.Sep.S.two_cells (h : S w0 w (twoX b bs k e i j :: L)) : w.cell? ⟨blkOf bs i, 10, none⟩ = some (k.v i).av ∧ w.cell? ⟨blkOf bs j, 9, none⟩ = some (k.v j).fv ∧ w.frozen? ⟨blkOf bs i, 10, none⟩ = false ∧ w.frozen? ⟨blkOf bs j, 9, none⟩ = false := by
  obtain ⟨Y, hY, _⟩ := two_blks w0 b bs k e i j
  have h1 := hY w L h
  exact ⟨h1.blk_cell 10 rfl, h1.tail.blk_cell 9 rfl, h1.blk_free 10, h1.tail.blk_free 9⟩
theorem _root_.Go.Sep.S.two_close {av fv : Value} (hi : i < e.txs.length) (hj : j < e.txs.length) (hij : i ≠ j) (h : S w0 w (sl 77 1 av ((e.tx i).aft.length + 1) (ptrs bs (e.tx i).aft ++ [ptr bs j]) :: sl 77 1 fv ((e.tx j).fore.length + 1) (ptrs bs (e.tx j).fore ++ [ptr bs i]) :: twoX b bs k e i j :: L)) :
    ∃ k', k'.txv = k.txv ∧ S w0 ((w.setCell ⟨blkOf bs i, 10, none⟩ av).setCell ⟨blkOf bs j, 9, none⟩ fv) (engO b bs k' (e.note i j) :: L) := by
  have h0 : S w0 w (twoX b bs k e i j :: sl 77 1 av ((e.tx i).aft.length + 1) (ptrs bs (e.tx i).aft ++ [ptr bs j]) :: sl 77 1 fv ((e.tx j).fore.length + 1) (ptrs bs (e.tx j).fore ++ [ptr bs i]) :: L) := h.rot3
  obtain ⟨Y, hY, rfl⟩ := two_blks w0 b bs k e i j
  have h1 := (hY _ _ h0).blk_set 10 (by simp [txF]) av
  have h2 := h1.swap.blk_set 9 (by simp [txF]) fv
  let xi : Tx := { e.tx i with aft := (e.tx i).aft ++ [j] }
  let xj : Tx := { e.tx j with fore := (e.tx j).fore ++ [i] }
  let vi : TxV := { k.v i with av := av }
  let vj : TxV := { k.v j with fv := fv }
  have hp : k.tv.length = e.txs.length := by
    have h3 : S w0 _ (pur (k.tv.length = e.txs.length) :: _) := h2.conv (M := pur (k.tv.length = e.txs.length) :: blk (blkOf bs j) 80 ((txF (k.v j) (e.tx j)).set 9 fv) :: blk (blkOf bs i) 80 ((txF (k.v i) (e.tx i)).set 10 av) :: sl 89 2 (k.v i).rv (e.tx i).reads.length (pcells (e.tx i).reads) :: mp encI (fun _ => True) (k.v i).mb (ienc (e.tx i).writes) :: sl 77 1 (k.v i).fv (e.tx i).fore.length (ptrs bs (e.tx i).fore) ::
      sl 89 2 (k.v j).rv (e.tx j).reads.length (pcells (e.tx j).reads) :: mp encI (fun _ => True) (k.v j).mb (ienc (e.tx j).writes) :: sl 77 1 (k.v j).av (e.tx j).aft.length (ptrs bs (e.tx j).aft) :: engG b bs k.txv k.hv k.wb e.txs.length e.count e.wr e.hist (((txPs bs k.tv e.txs).set i emp).set j emp) ::
      sl 77 1 av ((e.tx i).aft.length + 1) (ptrs bs (e.tx i).aft ++ [ptr bs j]) :: sl 77 1 fv ((e.tx j).fore.length + 1) (ptrs bs (e.tx j).fore ++ [ptr bs i]) :: L) (by simp only [all]; ac_rfl)
    exact h3.pur_elim.1
  have h3 : S w0 ((w.setCell ⟨blkOf bs i, 10, none⟩ av).setCell ⟨blkOf bs j, 9, none⟩ fv) (txK bs (blkOf bs j) vj xj :: engG b bs k.txv k.hv k.wb e.txs.length e.count e.wr e.hist (((txPs bs k.tv e.txs).set i emp).set j emp) :: txK bs (blkOf bs i) vi xi :: pur (k.tv.length = e.txs.length) :: L) := by
    refine h2.conv ?_
    rw [txK_parts, txK_parts]
    have e1 : (txF (k.v i) (e.tx i)).set 10 av = txF vi xi := rfl
    have e2 : (txF (k.v j) (e.tx j)).set 9 fv = txF vj xj := rfl
    have e3 : ptrs bs (e.tx i).aft ++ [ptr bs j] = ptrs bs xi.aft := by simp [ptrs, xi]
    have e4 : ptrs bs (e.tx j).fore ++ [ptr bs i] = ptrs bs xj.fore := by simp [ptrs, xj]
    have e5 : (e.tx i).aft.length + 1 = xi.aft.length := by simp [xi]
    have e6 : (e.tx j).fore.length + 1 = xj.fore.length := by simp [xj]
    rw [e1, e2, e3, e4, e5, e6]
    simp only [all]
    show _ = sep (sep _ (sep (sl _ 2 (k.v j).rv (e.tx j).reads.length (pcells (e.tx j).reads)) (sep (mp encI (fun _ => True) (k.v j).mb (ienc (e.tx j).writes)) (sep (sl _ 1 fv _ _) (sl _ 1 (k.v j).av (e.tx j).aft.length (ptrs bs (e.tx j).aft)))))) (sep _ (sep (sep _ (sep (sl _ 2 (k.v i).rv (e.tx i).reads.length (pcells (e.tx i).reads)) (sep (mp encI (fun _ => True) (k.v i).mb (ienc (e.tx i).writes)) (sep (sl _ 1 (k.v i).fv (e.tx i).fore.length (ptrs bs (e.tx i).fore)) (sl _ 1 av _ _))))) _))
    ac_rfl
  have hlj : j < ((txPs bs k.tv e.txs).set i emp).length := by rw [List.length_set, txPs_length]; exact hj
  have h4 := S.engG_in hlj h3
  rw [List.set_comm _ _ hij] at h4
  have hli : i < ((txPs bs k.tv e.txs).set j (txK bs (blkOf bs j) vj xj)).length := by rw [List.length_set, txPs_length]; exact hi
  have h5 := S.engG_in hli h4.swap
  rw [txPs_set hj (by omega), txPs_set (by simpa using hi) (by simp; omega)] at h5
  obtain ⟨_, h6⟩ := h5.swap.pur_elim
  refine ⟨(k.set j vj).set i vi, rfl, ?_⟩
  have hnt := Eng.note_txs e hi hj hij
  rw [List.set_comm _ _ hij] at hnt
  refine .sep_intro (.pur_intro ?_ ?_)
  · rw [Eng.note_len]; simpa [EngV.set] using hp
  · have e7 : engG b bs k.txv k.hv k.wb e.txs.length e.count e.wr e.hist (txPs bs ((k.tv.set j vj).set i vi) ((e.txs.set j xj).set i xi)) = engG b bs ((k.set j vj).set i vi).txv ((k.set j vj).set i vi).hv ((k.set j vj).set i vi).wb (e.note i j).txs.length (e.note i j).count (e.note i j).wr (e.note i j).hist (txPs bs ((k.set j vj).set i vi).tv (e.note i j).txs) := by
      rw [hnt]
      simp only [EngV.set, List.length_set]
      rfl
    rw [← e7]; exact h6
end Go.Proofs.YtaghjcdlghcjeaaGreatDoor
/- Regions in which several slices are made: what each step leaves, whatever the order. -/
namespace Go.Sep
open Go Go.RowKit
variable {w w0 w' : World} {L M : List HProp} {A : HProp}
theorem S.join (h : S w0 w L) (hM : S w w' M) : S w0 w' (M ++ L) := S.unpack (h.add hM.1 hM.2)
theorem S.nth (h : S w0 w L) (i : Nat) (hi : L[i]? = some A) : S w0 w (A :: L.eraseIdx i) := by
  obtain ⟨hl, rfl⟩ := List.getElem?_eq_some_iff.1 hi
  exact h.conv (by rw [all_pick L i hl]; rfl)
theorem S.alloc_sl {e : TypeId} (h : S w0 w L) (xs : List Value) (b : Nat) (hb : w.heap.size = b) (hm : xs.length ≤ maxLen) :
    S w0 (w.alloc (.cells xs.toArray e)) (sl e 1 (.slice (some ⟨b, 0, none⟩) xs.length xs.length) xs.length xs :: L) := by
  subst hb
  exact (h.alloc xs.toArray e).sl_blk (by simp) hm

/-- .. and how many blocks there are. -/
def SB (w0 w : World) (n : Nat) (L : List HProp) : Prop := S w0 w L ∧ w.heap.size = n
theorem SB.base (h : S w0 w L) : SB w0 w w.heap.size L := ⟨h, rfl⟩
theorem SB.alloc_sl {e : TypeId} {n : Nat} (h : SB w0 w n L) (xs : List Value) (hm : xs.length ≤ maxLen) :
    SB w0 (w.alloc (.cells xs.toArray e)) (n + 1) (sl e 1 (.slice (some ⟨n, 0, none⟩) xs.length xs.length) xs.length xs :: L) := ⟨h.1.alloc_sl xs n h.2 hm, by rw [World.size_alloc, h.2]⟩
theorem SB.get {n : Nat} (h : SB w0 w n L) : S w0 w L := h.1
theorem SB.getD {n : Nat} (h : SB w0 w n L) : S w0 w.drew L := h.1.drew
theorem S.headTwo {B : HProp} {R : List HProp} (h : S w0 w (A :: B :: R)) : S w0 w [A, B] :=
  (h.conv (M := all R :: [A, B]) (by simp only [all, sep_emp]; rw [sep_comm (all R), sep_assoc])).tail
theorem S.news_sl {e : TypeId} {ad : Option Addr} {m c : Nat} {xs : List Value} (h : S w0 w L) (k : Nat) (hk : L[k]? = some (sl e 1 (.slice ad m c) m xs)) : ∀ j u, xs[j]? = some u → ∃ b, ad = some b ∧ w.cell? (b.add j) = some u := by
  intro j u hj
  obtain ⟨a, cap, hv, _, _, hc⟩ := (h.nth k hk).sl_val
  obtain ⟨g, o, ha, hcell, _⟩ := hc j u hj
  simp only [Value.slice.injEq] at hv
  refine ⟨⟨g, o, none⟩, by rw [hv.1, ha], ?_⟩
  have e1 : (⟨g, o, none⟩ : Addr).add j = ⟨g, o + j, none⟩ := by unfold Addr.add; split <;> simp_all
  rw [e1]; exact hcell
/-- Cells that were there are there. -/
theorem news_old {ad : Option Addr} {xs : List Value} (h : ∀ j u, xs[j]? = some u → ∃ g o, ad = some ⟨g, o, none⟩ ∧ g < w.heap.size ∧ w.cell? ⟨g, o + j, none⟩ = some u) :
    ∀ W M, S w W M → ∀ j u, xs[j]? = some u → ∃ b, ad = some b ∧ W.cell? (b.add j) = some u := by
  intro W M hW j u hj
  obtain ⟨g, o, ha, hlt, hc⟩ := h j u hj
  refine ⟨⟨g, o, none⟩, ha, ?_⟩
  have e1 : (⟨g, o, none⟩ : Addr).add j = ⟨g, o + j, none⟩ := by unfold Addr.add; split <;> simp_all
  rw [e1, hW.1.cell (p := ⟨g, o + j, none⟩) hlt]; exact hc

theorem S.norm0 {e : TypeId} {v : Value} {n : Nat} {xs : List Value} (h : S w0 w (sl e 1 v (0 + n) ([] ++ xs) :: L)) : S w0 w (sl e 1 v n xs :: L) := by
  rw [Nat.zero_add] at h; exact h
variable {P : Program}
/-- append, wherever its slice stands in the list. -/
theorem step_app {ops : Array Oper} {o : Oper} {a : Act} {K : Act → World → Prop} {Q : Exit → Act → World → Prop} {E : Prop} (hg : o.guard = none) (s x : Operand) (t : TypeId)
    (hop : o.op = .call { callee := .builtin .append, args := #[s, x], argTypes := #[t, t] })
    (e : TypeId) (i : TypeInfo) (z : Value) (bytes : Nat) (ht : P.underlying t = some (.slice e)) (hi : P.info? e = some i) (hz : i.zero = some z)
    (hsize : i.size = 1) (hby : i.bytes = bytes) (hzs : z.cells.size = 1) (hW : S w0 w L) (ix : Nat) {v : Value} {n : Nat} {xs : List Value} (hix : L[ix]? = some (sl e 1 v n xs)) (hv : a.eval s = v)
    (ad : Option Addr) (m c : Nat) (news : List Value) (hx : a.eval x = .slice ad m c) (hl : news.length = m) (hnews : ∀ j u, news[j]? = some u → ∃ b, ad = some b ∧ w.cell? (b.add j) = some u) (h1 : ∀ u ∈ news, u.oneCell' = true)
    (h63 : n + m ≤ 1000000) (hb8 : bytes ≤ 8)
    (h : ∀ v' w', S w0 w' (sl e 1 v' (n + m) (xs ++ news) :: L.eraseIdx ix) → K (a.put o.dst v') w') : if Region.wanted o (yielded ops a.tmps) = true then Oper.wp P o a w K Q else E :=
  step_append hg s x t hop e i z 1 bytes ht hi hz hsize hby hzs (by omega) (hW.nth ix hix) hv ad m c news hx (by rw [hl, Nat.mul_one]) hnews h1 (by unfold maxLen; omega)
    (by have := Nat.mul_le_mul h63 hb8; omega) h
end Go.Sep
namespace Go.Proofs.YtaghjcdlghcjeaaGreatDoor
open Go Go.RowKit Go.Sep

theorem nil_max : ([] : List Value).length ≤ maxLen := Nat.zero_le _
theorem one_max (x : Int) : ([Value.int .i64 x] : List Value).length ≤ maxLen := by simp only [List.length_cons, List.length_nil]; unfold maxLen; omega
theorem icells_one (l : List Int) : ∀ u ∈ icells l, u.oneCell' = true := fun u hu => by
  obtain ⟨x, _, rfl⟩ := List.mem_map.1 hu
  rfl
end Go.Proofs.YtaghjcdlghcjeaaGreatDoor
/- Regions in which slices of structs are made: what each step leaves, whatever the order. -/
namespace Go.Sep
open Go Go.RowKit
variable {w w0 : World} {L : List HProp}
theorem S.alloc_slK {e size : Nat} (h : S w0 w L) (xs : List Value) (n : Nat) (hl : xs.length = n * size) (hm : n ≤ maxLen) :
    S w0 (w.alloc (.cells xs.toArray e)) (sl e size (.slice (some ⟨w.heap.size, 0, none⟩) n n) n xs :: L) := (h.alloc xs.toArray e).sl_blk (by simpa using hl) hm
theorem S.news_slK {e size : Nat} {ad : Option Addr} {m c : Nat} {xs : List Value} (h : S w0 w L) (k : Nat) (hk : L[k]? = some (sl e size (.slice ad m c) m xs)) : ∀ j u, xs[j]? = some u → ∃ b, ad = some b ∧ w.cell? (b.add j) = some u := by
  intro j u hj
  obtain ⟨a, cap, hv, _, _, hc⟩ := (h.nth k hk).sl_val
  obtain ⟨g, o, ha, hcell, _⟩ := hc j u hj
  simp only [Value.slice.injEq] at hv
  refine ⟨⟨g, o, none⟩, by rw [hv.1, ha], ?_⟩
  have e1 : (⟨g, o, none⟩ : Addr).add j = ⟨g, o + j, none⟩ := by unfold Addr.add; split <;> simp_all
  rw [e1]; exact hcell
theorem S.norm0K {e size : Nat} {v : Value} {n : Nat} {xs : List Value} (h : S w0 w (sl e size v (0 + n) ([] ++ xs) :: L)) : S w0 w (sl e size v n xs :: L) := by
  rw [Nat.zero_add] at h; exact h
theorem S.rest {M N : List HProp} (h : S w0 w (M ++ N)) : S w0 w N := (S.pack M N h).tail
variable {P : Program}
theorem step_appK {ops : Array Oper} {o : Oper} {a : Act} {K : Act → World → Prop} {Q : Exit → Act → World → Prop} {E : Prop} (hg : o.guard = none) (s x : Operand) (t : TypeId)
    (hop : o.op = .call { callee := .builtin .append, args := #[s, x], argTypes := #[t, t] })
    (e : TypeId) (i : TypeInfo) (z : Value) (size bytes : Nat) (ht : P.underlying t = some (.slice e)) (hi : P.info? e = some i) (hz : i.zero = some z)
    (hsize : i.size = size) (hby : i.bytes = bytes) (hzs : z.cells.size = size) (hsz : 0 < size) (hW : S w0 w L) (ix : Nat) {v : Value} {n : Nat} {xs : List Value} (hix : L[ix]? = some (sl e size v n xs)) (hv : a.eval s = v)
    (ad : Option Addr) (m c : Nat) (news : List Value) (hx : a.eval x = .slice ad m c) (hl : news.length = m * size) (hnews : ∀ j u, news[j]? = some u → ∃ b, ad = some b ∧ w.cell? (b.add j) = some u) (h1 : ∀ u ∈ news, u.oneCell' = true)
    (h63 : n + m ≤ 1000000) (hb8 : bytes ≤ 100)
    (h : ∀ v' w', S w0 w' (sl e size v' (n + m) (xs ++ news) :: L.eraseIdx ix) → K (a.put o.dst v') w') : if Region.wanted o (yielded ops a.tmps) = true then Oper.wp P o a w K Q else E :=
  step_append hg s x t hop e i z size bytes ht hi hz hsize hby hzs hsz (hW.nth ix hix) hv ad m c news hx hl hnews h1 (by unfold maxLen; omega)
    (by have := Nat.mul_le_mul h63 hb8; omega) h
end Go.Sep
/- Regions that draw their order and whose last stores turn what their loads read: what is held is asked only till the first of those stores has come up. No program in sight. -/
namespace Go.Sep
open Go
section
open Go.RowKit
variable {P : Program} {w w0 : World} {L : List HProp}
theorem S.alloc_slU {e size : Nat} (h : S w0 w L) (xs : List Value) (n : Nat) (hl : xs.length = n * size) (hm : n ≤ maxLen) :
    S w0 (w.alloc (.cells xs.toArray e)) (sl e size (.slice (some ⟨w.heap.size, 0, none⟩) n n) n xs :: L) := (h.alloc xs.toArray e).sl_blk (by simpa using hl) hm
theorem step_appU {ops : Array Oper} {o : Oper} {a : Act} {K : Act → World → Prop} {Q : Exit → Act → World → Prop} {E : Prop} (hg : o.guard = none) (s x : Operand) (t : TypeId)
    (hop : o.op = .call { callee := .builtin .append, args := #[s, x], argTypes := #[t, t] })
    (e : TypeId) (i : TypeInfo) (z : Value) (size bytes : Nat) (ht : P.underlying t = some (.slice e)) (hi : P.info? e = some i) (hz : i.zero = some z)
    (hsize : i.size = size) (hby : i.bytes = bytes) (hzs : z.cells.size = size) (hsz : 0 < size) (hW : S w0 w L) (ix : Nat) {v : Value} {n : Nat} {xs : List Value} (hix : L[ix]? = some (sl e size v n xs)) (hv : a.eval s = v)
    (ad : Option Addr) (m c : Nat) (news : List Value) (hx : a.eval x = .slice ad m c) (hl : news.length = m * size) (hnews : ∀ j u, news[j]? = some u → ∃ b, ad = some b ∧ w.cell? (b.add j) = some u) (h1 : ∀ u ∈ news, u.oneCell' = true)
    (h63 : n + m ≤ 1000000000000) (hb8 : bytes ≤ 100)
    (h : ∀ v' w', S w0 w' (sl e size v' (n + m) (xs ++ news) :: L.eraseIdx ix) → K (a.put o.dst v') w') : if Region.wanted o (yielded ops a.tmps) = true then Oper.wp P o a w K Q else E :=
  step_append hg s x t hop e i z size bytes ht hi hz hsize hby hzs hsz (hW.nth ix hix) hv ad m c news hx hl hnews h1 (by unfold maxLen; omega)
    (by have := Nat.mul_le_mul h63 hb8; omega) h
end
variable {P : Program} {md : Region.Mode} {ops : Array Oper} {Q : Exit → Act → World → Prop} {S : World → Prop} {u : Nat}

/-- Whatever order is picked from here on: 'S' holds behind each operation as long as number 'u' has not come up. -/
def anyU (P : Program) (md : Region.Mode) (ops : Array Oper) (Q : Exit → Act → World → Prop) (S : World → Prop) (u : Nat) : Nat → Array Bool → Act → World → Prop
  | 0, listed, a, w => Region.ready md ops listed = [] ∧ Q .normal a w
  | n + 1, listed, a, w => (Region.ready md ops listed = [] → Q .normal a w) ∧
    ∀ i ∈ Region.ready md ops listed, wpOp P ops Q i (fun a' w' => ((listed.setIfInBounds i true).getD u true = false → S w') ∧ anyU P md ops Q S u n (listed.setIfInBounds i true) a' w') a w
theorem any_of_U : ∀ (n : Nat) (listed : Array Bool) (a : Act) (w : World), anyU P md ops Q S u n listed a w → wpAny P md ops Q n listed a w
  | 0, _, _, _, h => h
  | n + 1, _, _, _, h => ⟨h.1, fun i hi => wpOp_mono (fun a' w' g => any_of_U n _ a' w' g.2) (h.2 i hi)⟩
theorem region_U {id : Nat} {a : Act} {w : World} (hm : P.follows .mixedOrders = true) (hS : S w.drew)
    (h : S w.drew → anyU P .any ops Q S u ops.size (Array.replicate ops.size false) a w.drew) : (Code.region id ops true).wp P Q a w :=
  wp_region_any hm (any_of_U _ _ _ _ (h hS))
/-- Does number 'u' wait for number 'i'? -/
def waitsFor (md : Region.Mode) (ops : Array Oper) (u i : Nat) : Bool := match ops[u]? with
  | some o => o.after.any fun e => Region.binds md e && e.on == i
  | none => false
theorem not_listed {listed : Array Bool} {i : Nat} (h : listed.getD i true = false) : listed.getD i false = false := by
  rcases Nat.lt_or_ge i listed.size with h' | h'
  · simp [h'] at h ⊢; exact h
  · simp [Array.getElem?_eq_none h'] at h
theorem waits_not_ready {listed : Array Bool} {i : Nat} (hw : waitsFor md ops u i = true) (hi : listed.getD i true = false) : u ∉ Region.ready md ops listed := by
  intro hu
  obtain ⟨_, o, ho, hall⟩ := mem_ready.1 hu
  unfold waitsFor at hw
  rw [ho] at hw
  simp only [Array.any_eq_true, Bool.and_eq_true, beq_iff_eq] at hw
  obtain ⟨j, hj, hb, he⟩ := hw
  have := hall _ (Array.getElem_mem hj) hb
  rw [he, not_listed hi] at this
  cases this

/-- What may be taken first is taken first. 'c': whether it yields only where S holds. -/
theorem anyU_first {i : Nat} {oi : Oper} {v : Value} {c : Bool} (hi : ops[i]? = some oi) (hsel : Region.noSelect ops = true) (hQ : ∀ d a w, Q (.panic d) (a.put oi.dst v) w → Q (.panic d) a w) (hiu : i ≠ u) (hc : c = true → waitsFor md ops u i = true) :
    ∀ (n : Nat) (listed : Array Bool) (a : Act) (w : World), (c = true → listed.getD u true = false) → Region.free md ops listed i = true → i ∈ Region.ready md ops listed → YieldsIf P ops (fun w => c = true → S w) oi v a → (c = true → S w) → (listed.getD u true = false → S w) →
      anyU P md ops Q S u n (listed.setIfInBounds i true) (a.put oi.dst v) w → anyU P md ops Q S u (n + 1) listed a w := by
  have fr : ∀ (listed : Array Bool) (j : Nat), j ≠ i → Region.free md ops listed i = true → Region.free md ops (listed.setIfInBounds j true) i = true := by
    intro listed j hji h
    unfold Region.free at h ⊢
    rw [hi] at h ⊢
    simp only [List.all_eq_true, List.mem_range] at h ⊢
    intro k hk
    have hk' := h k hk
    by_cases hjk : j = k
    · subst hjk
      rcases Nat.lt_or_ge j listed.size with hl | hl
      · simp [hl]
      · rw [Array.setIfInBounds_eq_of_size_le hl]; exact hk'
    · rw [getD_set_ne true hjk]; exact hk'
  intro n
  induction n with
  | zero =>
    intro listed a w _ _ hr hy hS hU H
    refine ⟨fun h => (by rw [h] at hr; cases hr), fun j hj => ?_⟩
    by_cases hji : j = i
    · subst hji
      exact hy.wpOp hi hS ⟨fun hu => hU (by rw [getD_set_ne true hiu] at hu; exact hu), H⟩
    · have := ready_mono hj hji
      rw [H.1] at this
      cases this
  | succ n ih =>
    intro listed a w hcu hfree hr hy hS hU H
    refine ⟨fun h => (by rw [h] at hr; cases hr), fun j hj => ?_⟩
    by_cases hji : j = i
    · subst hji
      exact hy.wpOp hi hS ⟨fun hu => hU (by rw [getD_set_ne true hiu] at hu; exact hu), H⟩
    · have h1 := H.2 j (ready_mono hj hji)
      obtain ⟨hjun, oj, hoj, hall⟩ := mem_ready.1 hj
      have hir := (mem_ready.1 hr).1
      have hnot : ∀ e ∈ oj.after, Region.binds md e = true → e.on ≠ i := fun e he hb heq => by
        have g := hall e he hb
        rw [heq, not_listed hir] at g; cases g
      have hap := Region.free_spec hi hfree j oj hoj hji hjun hnot
      have h2 := wpOp_putIf hoj hap (fun cs b => Region.noSelect_spec hsel i oi cs b hi) (fun cs b => Region.noSelect_spec hsel j oj cs b hoj) hQ hy h1
      have hcomm : ((listed.setIfInBounds i true).setIfInBounds j true) = ((listed.setIfInBounds j true).setIfInBounds i true) := Array.setIfInBounds_comm _ _ (Ne.symm hji)
      rw [hcomm] at h2
      refine wpOp_mono (fun a' w' h3 => ?_) h2
      obtain ⟨hy', hS', H'⟩ := h3
      have hS1 : (listed.setIfInBounds j true).getD u true = false → S w' := fun hu => hS' (by rw [getD_set_ne true hiu]; exact hu)
      have hcu' : c = true → (listed.setIfInBounds j true).getD u true = false := fun hcc => by
        have hju : j ≠ u := fun e => by subst e; exact waits_not_ready (hc hcc) hir hj
        rw [getD_set_ne true hju]; exact hcu hcc
      exact ⟨hS1, ih _ a' w' hcu' (fr _ _ hji hfree) (ready_mono hr (Ne.symm hji)) hy' (fun hcc => hS1 (hcu' hcc)) hS1 H'⟩
/-- Taken first, by what is held. -/
theorem anyU_take {i : Nat} {oi : Oper} {v : Value} {n : Nat} {listed : Array Bool} {a : Act} {w : World} (hi : ops[i]? = some oi)
    (hs : (Region.noSelect ops && waitsFor md ops u i && !(i == u) && !(listed.getD u true) && Region.free md ops listed i && (Region.ready md ops listed).contains i) = true)
    (hQ : ∀ c a w, Q (.panic c) (a.put oi.dst v) w → Q (.panic c) a w) (hy : YieldsIf P ops S oi v a) (hS : S w)
    (h : anyU P md ops Q S u n (listed.setIfInBounds i true) (a.put oi.dst v) w) : anyU P md ops Q S u (n + 1) listed a w := by
  simp only [Bool.and_eq_true, Bool.not_eq_true', beq_eq_false_iff_ne, ne_eq] at hs
  obtain ⟨⟨⟨⟨⟨h1, h2⟩, h3⟩, h4⟩, h5⟩, h6⟩ := hs
  exact anyU_first (c := true) hi h1 hQ h3 (fun _ => h2) n listed a w (fun _ => h4) h5 (by simpa using h6) (by unfold YieldsIf at hy ⊢; exact hy.imp (fun ⟨a, b⟩ => ⟨a, fun w hw => b w (hw rfl)⟩) id) (fun _ => hS) (fun _ => hS) h
/-- .. in whatever world. -/
theorem anyU_pure {i : Nat} {oi : Oper} {v : Value} {n : Nat} {listed : Array Bool} {a : Act} {w : World} (hi : ops[i]? = some oi)
    (hs : (Region.noSelect ops && !(i == u) && Region.free md ops listed i && (Region.ready md ops listed).contains i) = true)
    (hQ : ∀ c a w, Q (.panic c) (a.put oi.dst v) w → Q (.panic c) a w) (hy : YieldsIf P ops (fun _ => True) oi v a) (hS : listed.getD u true = false → S w)
    (h : anyU P md ops Q S u n (listed.setIfInBounds i true) (a.put oi.dst v) w) : anyU P md ops Q S u (n + 1) listed a w := by
  simp only [Bool.and_eq_true, Bool.not_eq_true', beq_eq_false_iff_ne, ne_eq] at hs
  obtain ⟨⟨⟨h1, h3⟩, h5⟩, h6⟩ := hs
  exact anyU_first (c := false) hi h1 hQ h3 (by simp) n listed a w (by simp) h5 (by simpa using h6) (by unfold YieldsIf at hy ⊢; exact hy.imp (fun ⟨a, b⟩ => ⟨a, fun w _ => b w trivial⟩) id) (by simp) hS h
/-- Each of those that come next. -/
def NextU (P : Program) (md : Region.Mode) (ops : Array Oper) (Q : Exit → Act → World → Prop) (S : World → Prop) (u : Nat) (n : Nat) (listed : Array Bool) (a : Act) (w : World) (rs : List Nat) : Prop :=
  ∀ i ∈ rs, wpOp P ops Q i (fun a' w' => ((listed.setIfInBounds i true).getD u true = false → S w') ∧ anyU P md ops Q S u n (listed.setIfInBounds i true) a' w') a w
theorem NextU.nil {n : Nat} {listed : Array Bool} {a : Act} {w : World} : NextU P md ops Q S u n listed a w [] := fun _ h => by cases h
theorem NextU.cons {n : Nat} {listed : Array Bool} {a : Act} {w : World} {i : Nat} {o : Oper} {rs : List Nat} (ho : ops[i]? = some o)
    (h : ∀ K' : Act → World → Prop, Shut (∀ a w, ((listed.setIfInBounds i true).getD u true = false → S w) → anyU P md ops Q S u n (listed.setIfInBounds i true) a w → K' a w) → if Region.wanted o (yielded ops a.tmps) = true then Oper.wp P o a w K' Q else K' (a.put o.dst undef) w)
    (hs : NextU P md ops Q S u n listed a w rs) : NextU P md ops Q S u n listed a w (i :: rs) := fun j hj => by
  rcases List.mem_cons.1 hj with rfl | hj
  · exact wpOp_step ho (fun K' hK => h K' (fun a w hS hW => hK a w ⟨hS, hW⟩))
  · exact hs j hj
theorem anyU_next {rs : List Nat} {n : Nat} {listed : Array Bool} {a : Act} {w : World} (hr : Region.ready md ops listed = rs) (hne : rs ≠ [])
    (h : NextU P md ops Q S u n listed a w rs) : anyU P md ops Q S u (n + 1) listed a w :=
  ⟨fun h0 => absurd (hr ▸ h0) hne, hr ▸ h⟩
theorem anyU_done {listed : Array Bool} {a : Act} {w : World} (hr : Region.ready md ops listed = []) (h : Q .normal a w) : ∀ n, anyU P md ops Q S u n listed a w
  | 0 => ⟨hr, h⟩
  | _ + 1 => ⟨fun _ => h, by rw [hr]; simp⟩
theorem anyU_world {n : Nat} {listed : Array Bool} {a : Act} {w : World} (q : World → Prop) (hq : q w) (h : ∀ w', q w' → anyU P md ops Q S u n listed a w') : anyU P md ops Q S u n listed a w := h w hq
theorem anyH_world {n : Nat} {listed : Array Bool} {a : Act} {w : World} (q : World → Prop) (hq : q w) (h : ∀ w', q w' → wpAnyH P md ops Q S n listed a w') : wpAnyH P md ops Q S n listed a w := h w hq
theorem step_mapu {ops : Array Oper} {o : Oper} {a : Act} {w w' : World} {K : Act → World → Prop} {Q : Exit → Act → World → Prop} {E : Prop} (hg : o.guard = none) (t : TypeId) (m k v : Operand) (hop : o.op = .mapUpdate t m k v)
    {M Kv V : Value} (hm : a.eval m = M) (hk : a.eval k = Kv) (hv : a.eval v = V) (hr : (Instr.mapUpdate t M Kv V).run P w = .ok () w') (h : K (a.put o.dst undef) w') : if Region.wanted o (yielded ops a.tmps) = true then Oper.wp P o a w K Q else E := by
  rw [if_pos (by simp [Region.wanted, hg])]
  unfold Oper.wp execOp
  simp only [hop, hm, hk, hv, Sem.run_bind, hr, Result.andThen_ok, Sem.run_pure]
  exact h
theorem step_mapuE {ops : Array Oper} {o : Oper} {a : Act} {w : World} {R : World → Prop} {K : Act → World → Prop} {Q : Exit → Act → World → Prop} {E : Prop} (hg : o.guard = none) (t : TypeId) (m k v : Operand) (hop : o.op = .mapUpdate t m k v)
    {M Kv V : Value} (hm : a.eval m = M) (hk : a.eval k = Kv) (hv : a.eval v = V) (hr : ∃ w', (Instr.mapUpdate t M Kv V).run P w = .ok () w' ∧ R w') (h : ∀ w', R w' → K (a.put o.dst undef) w') : if Region.wanted o (yielded ops a.tmps) = true then Oper.wp P o a w K Q else E := by
  obtain ⟨w', h1, h2⟩ := hr
  exact step_mapu hg t m k v hop hm hk hv h1 (h w' h2)
theorem act_any {K : Act → World → Prop} {a : Act} {w : World} (q : World → Prop) (hq : q w) (h : ∀ w', q w' → K a w') : K a w := h w hq
end Go.Sep
/- Transactions at the same time: no two things happen at one step. No walk in sight. -/
namespace Go.Proofs.YtaghjcdlghcjeaaGreatDoor
open Go Go.RowKit Go.Sep
variable {e : Eng} {i j : Nat}

/-- Who is over ended at a step at which nobody began. -/
structure Times (e : Eng) : Prop where
  begun : ∀ j, j < e.txs.length → (e.tx j).begun ≤ e.count
  ended : ∀ j, j < e.txs.length → (e.tx j).ended ≤ e.count
  apart : ∀ i j, i < e.txs.length → j < e.txs.length → 2 ≤ (e.tx i).state → (e.tx i).ended ≠ (e.tx j).begun
theorem Times.start : Times Eng.zero := by
  refine ⟨fun j h => ?_, fun j h => ?_, fun i j h => ?_⟩ <;> simp [Eng.zero] at h
/-- A turn of one that touches no time. -/
theorem Times.upd {f : Tx → Tx} (h : Times e) (hb : (f (e.tx i)).begun = (e.tx i).begun) (he : (f (e.tx i)).ended = (e.tx i).ended) (hs : 2 ≤ (f (e.tx i)).state → 2 ≤ (e.tx i).state) : Times (e.upd i f) := by
  have hbb : ∀ j, ((e.upd i f).tx j).begun = (e.tx j).begun := fun j => by
    rw [Eng.upd_tx]; split
    · rename_i hc; rw [← hc.1]; exact hb
    · rfl
  have hee : ∀ j, ((e.upd i f).tx j).ended = (e.tx j).ended := fun j => by
    rw [Eng.upd_tx]; split
    · rename_i hc; rw [← hc.1]; exact he
    · rfl
  have hss : ∀ j, 2 ≤ ((e.upd i f).tx j).state → 2 ≤ (e.tx j).state := fun j => by
    rw [Eng.upd_tx]; split
    · rename_i hc; rw [← hc.1]; exact hs
    · exact id
  refine ⟨fun j hj => ?_, fun j hj => ?_, fun m j hm hj hst => ?_⟩
  · rw [Eng.upd_len] at hj; rw [hbb]; exact h.begun j hj
  · rw [Eng.upd_len] at hj; rw [hee]; exact h.ended j hj
  · rw [Eng.upd_len] at hm hj; rw [hbb, hee]; exact h.apart m j hm hj (hss m hst)
theorem Times.note (h : Times e) (a b : Nat) : Times (e.note a b) := (h.upd rfl rfl id).upd rfl rfl id
theorem Times.opens (h : Times e) (i : Nat) : Times (e.opens i) := h.upd rfl rfl (by simp)
theorem Times.wput (h : Times e) (i : Nat) (w : Int × Int) : Times (e.wput i w) := h.upd rfl rfl id
theorem Times.lets (h : Times e) (i : Nat) : Times (e.lets i) := ⟨h.begun, h.ended, h.apart⟩
/-- One is over now. -/
theorem Times.over {f : Tx → Tx} (h : Times e) (hb : (f (e.tx i)).begun = (e.tx i).begun) (he : (f (e.tx i)).ended = e.count + 1) : Times { e.upd i f with count := e.count + 1 } := by
  have hbb : ∀ j, ((e.upd i f).tx j).begun = (e.tx j).begun := fun j => by
    rw [Eng.upd_tx]; split
    · rename_i hc; rw [← hc.1]; exact hb
    · rfl
  refine ⟨fun j hj => ?_, fun j hj => ?_, fun m j hm hj hst => ?_⟩
  · have hj2 : j < e.txs.length := by rw [← Eng.upd_len e i f]; exact hj
    have := h.begun j hj2
    show ((e.upd i f).tx j).begun ≤ e.count + 1
    rw [hbb]; omega
  · have hj2 : j < e.txs.length := by rw [← Eng.upd_len e i f]; exact hj
    have := h.ended j hj2
    show ((e.upd i f).tx j).ended ≤ e.count + 1
    rw [Eng.upd_tx]; split
    · rename_i hc; rw [← hc.1, he]; omega
    · omega
  · have hj2 : j < e.txs.length := by rw [← Eng.upd_len e i f]; exact hj
    have hm2 : m < e.txs.length := by rw [← Eng.upd_len e i f]; exact hm
    have h1 := h.begun j hj2
    show ((e.upd i f).tx m).ended ≠ ((e.upd i f).tx j).begun
    have hst2 : 2 ≤ ((e.upd i f).tx m).state := hst
    rw [hbb]
    rw [Eng.upd_tx] at hst2 ⊢
    split
    · rename_i hc; rw [← hc.1, he]; omega
    · rename_i hc
      rw [if_neg hc] at hst2
      exact h.apart m j hm2 hj2 hst2
theorem Times.mark (h : Times e) (i : Nat) (why : Int) : Times (e.mark i why) := h.over rfl rfl
theorem Times.left (h : Times e) (i : Nat) (why : Int) : Times (e.left i why) := (h.mark i why).lets i
theorem Times.putsL {g : Eng → Nat → Int → Eng} (hg : ∀ e i why, Times e → Times (g e i why)) (i : Nat) (key : Int) : ∀ (l : List Nat) (e : Eng), Times e → Times (Go.Proofs.YtaghjcdlghcjeaaGreatDoor.putsL g i key l e)
  | [], e, h => h
  | j :: l, e, h => by
    unfold Go.Proofs.YtaghjcdlghcjeaaGreatDoor.putsL
    split
    · exact Times.putsL hg i key l e h
    · dsimp only
      split
      · exact hg _ _ _ (h.note j i)
      · exact Times.putsL hg i key l _ (h.note j i)
theorem Times.putsG {g : Eng → Nat → Int → Eng} (hg : ∀ e i why, Times e → Times (g e i why)) (h : Times e) (i : Nat) (w : Int × Int) : Times (Go.Proofs.YtaghjcdlghcjeaaGreatDoor.putsG g e i w) := by
  unfold Go.Proofs.YtaghjcdlghcjeaaGreatDoor.putsG
  split
  · exact hg _ _ _ h
  · split
    · exact Times.putsL hg i w.1 _ _ (h.wput i w)
    · exact h.wput i w
theorem Times.freesL {g : Eng → Nat → Int → Eng} (hg : ∀ e i why, Times e → Times (g e i why)) : ∀ (l : List (Int × Int)) (e : Eng), Times e → Times (Go.Proofs.YtaghjcdlghcjeaaGreatDoor.freesL g l e)
  | [], e, h => h
  | w :: l, e, h => by
    unfold Go.Proofs.YtaghjcdlghcjeaaGreatDoor.freesL
    exact Times.freesL hg l _ (Times.putsG hg (h.opens _) _ _)
theorem Times.goesN : ∀ (n : Nat) (e : Eng) (i : Nat) (why : Int), Times e → Times (Go.Proofs.YtaghjcdlghcjeaaGreatDoor.goesN n e i why)
  | 0, e, i, why, h => h
  | n + 1, e, i, why, h => by
    unfold Go.Proofs.YtaghjcdlghcjeaaGreatDoor.goesN freesG
    exact Times.freesL (Times.goesN n) _ _ ((h.mark i why).lets i)
end Go.Proofs.YtaghjcdlghcjeaaGreatDoor
/- A slice of structs among the arguments, of which a fact is known: the store's moves. -/
namespace Go.Proofs.YtaghjcdlghcjeaaGreatDoor
open Go Go.RowKit Go.Sep Go.ChangeShapes Go.WideShapes Go.ChangeAt Go.Deep

theorem argFG_of {α H : Type} {G : α → Prop} (d : α) (hd : G d) {enc : TypeId × Value → H} {P : Program} {w : World} {t e : TypeId} {n : Nat} {fuel : Nat} {cs : List Value} {x : DataW H × List MemPlace} (f : α → List Value) (ht : P.underlying t = some (.slice e)) (ce : P.cellsOf e = n) (hn : 0 < n)
    (hel : ∀ (cs' : List Value) (k : Nat) (y : DataW H × List MemPlace), DataW.trod enc P w 0 (fun _ => true) true k e cs' = some y → ∃ p : α, f p = cs' ∧ G p)
    (h : DataW.trod enc P w 0 (fun _ => true) true fuel t cs = some x) : ∃ v l, cs = [v] ∧ ArgF f n w v l ∧ ∀ p ∈ l, G p := by
  haveI : Inhabited {p : α // G p} := ⟨⟨d, hd⟩⟩
  obtain ⟨v, l, hv, a, cap, h1, h2, h3, h4⟩ := argF_of (α := {p : α // G p}) (fun p => f p.1) ht ce hn (fun cs' k y hy => by obtain ⟨p, hp, hg⟩ := hel cs' k y hy; exact ⟨⟨p, hg⟩, hp⟩) h
  refine ⟨v, l.map Subtype.val, hv, ⟨a, cap, by rw [List.length_map]; exact h1, by rw [List.length_map]; exact h2, h3, fun i p hp => ?_⟩, fun p hp => ?_⟩
  · rw [List.getElem?_map, Option.map_eq_some_iff] at hp
    obtain ⟨q, hq, rfl⟩ := hp
    exact h4 i q hq
  · obtain ⟨q, _, rfl⟩ := List.mem_map.1 hp
    exact q.2
/-- A move of a store: what, when, which key, and the slice of writes. -/
abbrev Put1 := Int × Int × Int × Value
def cells4 (p : Put1) : List Value := [.int .i64 p.1, .int .i64 p.2.1, .int .i64 p.2.2.1, p.2.2.2]
def PutOk (w0 : World) (p : Put1) : Prop := ∃ l : Vers, ArgPairs w0 p.2.2.2 l
theorem ArgPairs.rdk {w0 : World} {v : Value} {l : Vers} (h : ArgPairs w0 v l) (L : List HProp) : RdK w0 L v l.length (pcells l) := by
  obtain ⟨ai, ci, rfl, h1, h2, h3⟩ := h
  have hp : ∀ j u, (pcells l)[j]? = some u → ∃ b o, ai = some ⟨b, o, none⟩ ∧ b < w0.heap.size ∧ w0.cell? ⟨b, o + j, none⟩ = some u := by
    intro j u hj
    have hlt := (List.getElem?_eq_some_iff.1 hj).1
    rw [pcells_length] at hlt
    have hq : l[j / 2]? = some (l[j / 2]'(by omega)) := by simp
    obtain ⟨b, o, ha, hb, c1, c2⟩ := h3 _ _ hq
    obtain ⟨p1, p2⟩ := pcells_at l _ _ hq
    refine ⟨b, o, ha, hb, ?_⟩
    rcases Nat.mod_two_eq_zero_or_one j with hm | hm
    · have e : j / 2 * 2 = j := by omega
      rw [e] at p1 c1
      rw [p1] at hj
      rw [c1, hj]
    · have e : j / 2 * 2 + 1 = j := by omega
      rw [Nat.add_assoc, e] at c2
      rw [e] at p2
      rw [p2] at hj
      rw [c2, hj]
  refine RdK.old ⟨ai, ci, rfl, h1, h2, fun j u hj => ?_⟩ (fun b o cap hv hne => ?_)
  · obtain ⟨b, o, ha, _, hc⟩ := hp j u hj
    exact ⟨b, o, ha, hc⟩
  · obtain ⟨u, M, hM⟩ := List.exists_cons_of_ne_nil hne
    obtain ⟨b2, o2, ha, hb, _⟩ := hp 0 u (by rw [hM]; rfl)
    simp only [Value.slice.injEq] at hv
    rw [hv.1] at ha
    simp only [Option.some.injEq, Addr.mk.injEq] at ha
    rw [ha.1]; exact hb
end Go.Proofs.YtaghjcdlghcjeaaGreatDoor
/- The store: Install, with its answer as one value. -/
namespace Go.Proofs.YtaghjcdlghcjeaaGreatDoor
open Go Go.RowKit Go.Sep

theorem _root_.Go.Sep.S.store_new2 {w0 w : World} {L : List HProp} {b T T' : Nat} (h : S w0 w (blk b T (List.replicate 10 (.slice none 0 0) ++ [.int .i64 0]) :: L)) : S w0 w (storeP T' b 0 (List.replicate 10 []) 0 :: L) := by
  refine .ex_intro (List.replicate 10 (.slice none 0 0)) (.sep_intro (.pur_intro ⟨rfl, rfl⟩ (.sep_intro ?_)))
  have h1 := h.blk_cells
  have h2 : ∀ n, S w0 w (cells b 0 (List.replicate 10 (.slice none 0 0) ++ [.int .i64 0]) :: all (List.replicate n (sl T' 2 (.slice none 0 0) 0 [])) :: L) := by
    intro n
    induction n with
    | zero => exact h1.conv (by simp [all, emp_sep])
    | succ n ih => exact (S.sl_nil (e := T') (size := 2) ih).conv (by simp only [all, List.replicate_succ]; rw [sep_left_comm]; simp only [sep_assoc])
  exact h2 10
def instErr (last at_ : Int) (l : Vers) : Err := if last < at_ ∧ at_ ≤ 1099511627776 then (match badAt 0 l with | none => .nil | some (x, p) => .at_ x p) else .no 10
def instOk (last at_ : Int) (l : Vers) : Bool := decide (last < at_ ∧ at_ ≤ 1099511627776) && (badAt 0 l).isNone
theorem install2 (w0 w : World) (b o : Nat) (V : List Vers) (last at_ : Int) (v : Value) (l : Vers) (L : List HProp) (N : Nat)
    (hs : S w0 w (storeP 84 b o V last :: L)) (hr : RdK w0 L v l.length (pcells l)) (hN : ∀ vs ∈ V, vs.length ≤ N) (hb : N + l.length ≤ 1000000) :
    Calls Tryz.prog 21 #[.pointer (some ⟨b, o, none⟩), .int .i64 at_, v] w fun e w' => ∃ u, e = .returned u ∧
      S w0 w' (errP 56 107 105 u (instErr last at_ l) :: storeP 84 b o (if instOk last at_ l then putAll at_ V l else V) (if instOk last at_ l then at_ else last) :: L) := by
  refine (install_any w0 w b o V last at_ v l L N hs hr hN hb).mono fun e w' h => ?_
  unfold InstPost at h
  unfold instErr instOk
  by_cases hc : last < at_ ∧ at_ ≤ 1099511627776
  · rw [if_pos hc] at h
    cases hba : badAt 0 l with
    | none =>
      rw [hba] at h
      obtain ⟨rfl, h⟩ := h
      simp only [hc, and_self, decide_true, Option.isNone_none, Bool.and_self, ↓reduceIte]
      exact ⟨_, rfl, S.pur_intro rfl h⟩
    | some x =>
      obtain ⟨x, p⟩ := x
      rw [hba] at h
      obtain ⟨u, rfl, h⟩ := h
      simp only [hc, and_self, decide_true, Option.isNone_some, Bool.and_false, Bool.false_eq_true, ↓reduceIte]
      exact ⟨_, rfl, h⟩
  · rw [if_neg hc] at h
    obtain ⟨rfl, h⟩ := h
    simp only [hc, decide_false, Bool.false_and, Bool.false_eq_true, ↓reduceIte]
    exact ⟨_, rfl, S.pur_intro rfl h⟩
end Go.Proofs.YtaghjcdlghcjeaaGreatDoor
/- errors.As at an error with a place; what Tell answers then. -/
namespace Go.Proofs.YtaghjcdlghcjeaaGreatDoor
open Go Go.RowKit Go.Sep Go.Extern.Stop Go.Stop Go.Extern

theorem Tryz.methodUnwrap (p : Option Addr) (w : World) : (Go.method 358 105 (.pointer p) "Unwrap").run Tryz.prog w = .ok (162, .pointer p) w := by kernel_rfl
theorem unwrap_any (g : Nat) (e : Int) (w : World) (hc : w.cell? ⟨g, 0, none⟩ = some (.int .i64 e)) : Calls Tryz.prog 162 #[.pointer (some ⟨g, 0, none⟩)] w fun ev w' => ev = .returned (.iface 56 (.int .i64 e)) ∧ w = w' := by
  go_enter Tryz.func162, Tryz.ntmps162
  go_wp2
  go_ret
  exact ⟨rfl, rfl⟩

end Go.Proofs.YtaghjcdlghcjeaaGreatDoor
/- The sums over a place's first pairs are never the next key: checked by the kernel, for two and three pairs by meeting in the middle. No walk in sight. -/
namespace Go.Proofs.YtaghjcdlghcjeaaGreatDoor
open Go Go.RowKit Go.Sep

/-- A pair behind what is there. -/
def pairStep (n : Nat) (p : Int × Int) : Nat := fnvFrom n (32 :: num p.1 ++ 32 :: num p.2)
theorem text_snoc (k : Nat) (l : Vers) (p : Int × Int) : textL k (l ++ [p]) = textL k l ++ (32 :: num p.1 ++ 32 :: num p.2) := by
  unfold textL swords
  rw [pwords_append, show pwords [p] = [num p.1] ++ [num p.2] from rfl, ← List.append_assoc, ← List.cons_append, ← List.cons_append]
  rw [join_snoc _ _ (by simp), join_snoc _ _ (by simp)]
  simp
theorem fnv_snoc (k : Nat) (l : Vers) (p : Int × Int) : fnv (textL k (l ++ [p])) = pairStep (fnv (textL k l)) p := by
  unfold fnv pairStep; rw [text_snoc, fnvFrom_append]
theorem fnv_nil (k : Nat) : fnv (textL k []) = fnv (num k) := by
  unfold textL swords; rw [show pwords [] = [] from rfl, Lib.join_one]

/-! As the kernel is to reckon it. -/
namespace Kern
noncomputable def fs (n b : Nat) : Nat := Nat.mod (Nat.mul (Nat.xor n b) 1099511628211) 18446744073709551616
noncomputable def ff (n : Nat) (s : List Nat) : Nat := List.rec (motive := fun _ => Nat → Nat) (fun n => n) (fun b _ ih n => ih (fs n b)) s n
noncomputable def bk (m b : Nat) : Nat := Nat.xor (Nat.mod (Nat.mul m 14886173955864302971) 18446744073709551616) b
noncomputable def bf (m : Nat) (s : List Nat) : Nat := List.rec (motive := fun _ => Nat) m (fun b _ ih => bk ih b) s
noncomputable def d2 (n : Nat) : List Nat := Bool.rec [Nat.add 48 (Nat.div n 10), Nat.add 48 (Nat.mod n 10)] [Nat.add 48 n] (Nat.ble n 9)
noncomputable def upto (f : Nat → Bool) (n : Nat) : Bool := Nat.rec true (fun m ih => Bool.rec false ih (f m)) n
noncomputable def orup (f : Nat → Nat) (n : Nat) : Nat := Nat.rec 0 (fun m ih => Nat.lor (f m) ih) n
noncomputable def startK (k : Nat) : Nat := ff 14695981039346656037 (d2 k)
noncomputable def force (n : Nat) (f : Nat → Bool) : Bool := Nat.rec (f 0) (fun m _ => f (Nat.succ m)) n
noncomputable def forceN (n : Nat) (f : Nat → Nat) : Nat := Nat.rec (f 0) (fun m _ => f (Nat.succ m)) n
noncomputable def win (s r : Nat) : Nat := Nat.mod (Nat.shiftRight r s) 262144
noncomputable def one2 (s r : Nat) : Nat := Nat.shiftLeft 1 (win s r)
noncomputable def bits (s : Nat) : Nat := Nat.lor
  (orup (fun z => forceN (bf 3 (32 :: 50 :: 32 :: d2 z)) fun t => orup (fun y => one2 s (bf t (32 :: 49 :: 32 :: d2 y))) 91) 91)
  (orup (fun y => Nat.lor (one2 s (bf 3 (32 :: 49 :: 32 :: d2 y))) (Nat.lor (one2 s (bf 3 (32 :: 50 :: 32 :: d2 y))) (one2 s (bf 2 (32 :: 49 :: 32 :: d2 y))))) 91)
noncomputable def has (S s r : Nat) : Bool := Nat.ble 1 (Nat.land 1 (Nat.shiftRight S (win s r)))
noncomputable def one : Bool := upto (fun k => force (startK k) fun s => upto (fun a => force (ff s [32, Nat.add 48 a, 32]) fun t => upto (fun x => Nat.ble 4 (ff t (d2 x))) 91) 3) 90
noncomputable def two : Bool := force (bits 0) fun S0 => force (bits 18) fun S1 => force (bits 36) fun S2 =>
  upto (fun k => force (startK k) fun s => upto (fun a => force (ff s [32, Nat.add 48 a, 32]) fun t => upto (fun x => force (ff t (d2 x)) fun r => Bool.rec true (Bool.rec true (Bool.rec true false (has S2 36 r)) (has S1 18 r)) (has S0 0 r)) 91) 2) 90
theorem one_ok : one = true := by decide +kernel
theorem two_ok : two = true := by decide +kernel

theorem upto_succ (f : Nat → Bool) (n : Nat) : upto f (n + 1) = (f n && upto f n) := by
  show (Bool.rec (motive := fun _ => Bool) false (upto f n) (f n) : Bool) = _
  cases f n <;> rfl
theorem upto_all {f : Nat → Bool} : ∀ {n : Nat}, upto f n = true → ∀ m < n, f m = true
  | 0, _, m, hm => absurd hm (Nat.not_lt_zero m)
  | n + 1, h, m, hm => by
    rw [upto_succ, Bool.and_eq_true] at h
    rcases Nat.lt_or_ge m n with h1 | h1
    · exact upto_all h.2 m h1
    · obtain rfl : m = n := by omega
      exact h.1
theorem force_eq (n : Nat) (f : Nat → Bool) : force n f = f n := by cases n <;> rfl
theorem forceN_eq (n : Nat) (f : Nat → Nat) : forceN n f = f n := by cases n <;> rfl
theorem orup_bit {f : Nat → Nat} {i : Nat} : ∀ {n m : Nat}, m < n → (f m).testBit i = true → (orup f n).testBit i = true
  | 0, m, hm, _ => absurd hm (Nat.not_lt_zero m)
  | n + 1, m, hm, h => by
    show ((f n) ||| (orup f n)).testBit i = true
    rw [Nat.testBit_or, Bool.or_eq_true]
    rcases Nat.lt_or_ge m n with h1 | h1
    · exact .inr (orup_bit h1 h)
    · obtain rfl : m = n := by omega
      exact .inl h
theorem one2_bit (s r : Nat) : (one2 s r).testBit (win s r) = true := by
  show (1 <<< win s r).testBit (win s r) = true
  rw [Nat.one_shiftLeft, Nat.testBit_two_pow_self]
theorem has_of {S s r : Nat} (h : S.testBit (win s r) = true) : has S s r = true := by
  unfold Nat.testBit at h
  rw [bne_iff_ne] at h
  unfold has
  rw [Nat.ble_eq]
  exact Nat.one_le_iff_ne_zero.2 h
noncomputable def pd (a x : Nat) : List Nat := 32 :: (48 + a) :: 32 :: d2 x
theorem bits_three {s z y : Nat} (hz : z < 91) (hy : y < 91) : (bits s).testBit (win s (bf (bf 3 (pd 2 z)) (pd 1 y))) = true := by
  show (_ ||| _ : Nat).testBit _ = true
  rw [Nat.testBit_or, Bool.or_eq_true]
  refine .inl (orup_bit hz ?_)
  rw [forceN_eq]
  exact orup_bit hy (one2_bit s _)
theorem bits_two {s c b y : Nat} (hy : y < 91) (h : c = 3 ∧ b = 1 ∨ c = 3 ∧ b = 2 ∨ c = 2 ∧ b = 1) : (bits s).testBit (win s (bf c (pd b y))) = true := by
  show (_ ||| _ : Nat).testBit _ = true
  rw [Nat.testBit_or, Bool.or_eq_true]
  refine .inr (orup_bit hy ?_)
  show (_ ||| (_ ||| _) : Nat).testBit _ = true
  rw [Nat.testBit_or, Nat.testBit_or, Bool.or_eq_true, Bool.or_eq_true]
  rcases h with ⟨rfl, rfl⟩ | ⟨rfl, rfl⟩ | ⟨rfl, rfl⟩
  · exact .inl (one2_bit s _)
  · exact .inr (.inl (one2_bit s _))
  · exact .inr (.inr (one2_bit s _))
theorem ff_append (n : Nat) : ∀ (s t : List Nat), ff n (s ++ t) = ff (ff n s) t := by
  intro s
  induction s generalizing n with
  | nil => intro t; rfl
  | cons b s ih => intro t; exact ih (fs n b) t
theorem ff_pd (n a x : Nat) : ff n (pd a x) = ff (ff n [32, Nat.add 48 a, 32]) (d2 x) := ff_append n [32, 48 + a, 32] (d2 x)
theorem one_ne {k a x : Nat} (hk : k < 90) (ha : a < 3) (hx : x < 91) : 4 ≤ ff (startK k) (pd a x) := by
  have h := upto_all one_ok k hk
  rw [force_eq] at h
  have h := upto_all h a ha
  rw [force_eq] at h
  have h := upto_all h x hx
  rw [ff_pd]
  exact Nat.le_of_ble_eq_true h
theorem two_ne {k a x : Nat} (hk : k < 90) (ha : a < 2) (hx : x < 91) {r : Nat} (hr : ∀ s, (bits s).testBit (win s r) = true) : ff (startK k) (pd a x) ≠ r := by
  intro he
  have h := two_ok
  unfold two at h
  rw [force_eq, force_eq, force_eq] at h
  have h := upto_all h k hk
  rw [force_eq] at h
  have h := upto_all h a ha
  rw [force_eq] at h
  have h := upto_all h x hx
  rw [force_eq, ← ff_pd, he, has_of (hr 0), has_of (hr 18), has_of (hr 36)] at h
  exact Bool.noConfusion h

theorem step_back {n b : Nat} (h : n < 18446744073709551616) (hb : b < 256) : bk (fs n b) b = n := by
  show ((((n ^^^ b) * 1099511628211) % 18446744073709551616 * 14886173955864302971) % 18446744073709551616) ^^^ b = n
  have hx : n ^^^ b < 2 ^ 64 := Nat.xor_lt_two_pow h (by omega)
  generalize hX : n ^^^ b = x at hx
  have h1 : x * 1099511628211 % 18446744073709551616 * 14886173955864302971 % 18446744073709551616 = x := by
    rw [Nat.mod_mul_mod, Nat.mul_assoc, Nat.mul_mod]
    have h2 : 1099511628211 * 14886173955864302971 % 18446744073709551616 = 1 := by decide +kernel
    rw [h2, Nat.mul_one, Nat.mod_mod]
    exact Nat.mod_eq_of_lt hx
  rw [h1, ← hX, Nat.xor_assoc, Nat.xor_self, Nat.xor_zero]
theorem fs_lt (n b : Nat) : fs n b < 18446744073709551616 := Nat.mod_lt _ (by decide)
theorem back : ∀ (s : List Nat) (n : Nat), n < 18446744073709551616 → (∀ b ∈ s, b < 256) → bf (ff n s) s = n
  | [], _, _, _ => rfl
  | b :: s, n, h, hs => by
    show bk (bf (ff (fs n b) s) s) b = n
    rw [back s _ (fs_lt n b) (fun c hc => hs c (List.mem_cons_of_mem _ hc)), step_back h (hs b (List.mem_cons_self ..))]
theorem ff_lt : ∀ (s : List Nat) (n : Nat), n < 18446744073709551616 → ff n s < 18446744073709551616
  | [], _, h => h
  | b :: s, n, _ => ff_lt s (fs n b) (fs_lt n b)
theorem d2_eq (n : Nat) : d2 n = if n < 10 then [48 + n] else [48 + n / 10, 48 + n % 10] := by
  unfold d2
  by_cases h : n < 10
  · rw [if_pos h, show Nat.ble n 9 = true from Nat.ble_eq ▸ (by omega)]; rfl
  · rw [if_neg h, show Nat.ble n 9 = false from by rw [Bool.eq_false_iff]; intro h2; have := Nat.le_of_ble_eq_true h2; omega]; rfl
theorem pd_lt {a x : Nat} (ha : a < 10) (hx : x < 100) : ∀ b ∈ pd a x, b < 256 := by
  intro b hb
  unfold pd at hb
  rw [d2_eq] at hb
  split at hb <;> simp at hb <;> omega
end Kern
open Kern
theorem num_d2 {i : Int} (h : 0 ≤ i ∧ i < 100) : (num i).map UInt8.toNat = d2 i.toNat := by
  unfold num
  rw [Lib.decDigits, d2_eq]
  by_cases h1 : i.toNat < 10
  · rw [dif_pos h1, if_pos h1]
    simp only [List.map_cons, List.map_nil]; rw [digit_toNat _ h1]
  · rw [dif_neg h1, if_neg h1, Lib.decDigits, dif_pos (by omega)]
    simp only [List.map_cons, List.map_nil, List.cons_append, List.nil_append]
    rw [digit_toNat _ (by omega), digit_toNat _ (Nat.mod_lt _ (by decide))]
theorem ff_eq : ∀ (s : List UInt8) (n : Nat), fnvFrom n s = ff n (s.map UInt8.toNat)
  | [], _ => rfl
  | b :: s, n => ff_eq s (fnvStep n b)
theorem pairStep_eq {n : Nat} {p : Int × Int} (h1 : 0 ≤ p.1 ∧ p.1 < 10) (h2 : 0 ≤ p.2 ∧ p.2 < 100) : pairStep n p = ff n (pd p.1.toNat p.2.toNat) := by
  unfold pairStep pd
  rw [ff_eq, List.map_append, List.map_cons, List.map_cons, num_d2 h2, num_d2 ⟨h1.1, by omega⟩, d2_eq, if_pos (by omega)]; rfl
theorem sum0_eq {k : Nat} (h : k < 100) : fnv (textL k []) = startK k := by
  rw [fnv_nil]
  unfold fnv startK
  rw [ff_eq, num_d2 ⟨by omega, by omega⟩]; rfl

/-- What a transaction of four keys and ninety values may write: keys ascending. -/
def Good (l : Vers) : Prop := l.Pairwise (fun p q => p.1 < q.1) ∧ ∀ p ∈ l, (0 ≤ p.1 ∧ p.1 < 4) ∧ (0 ≤ p.2 ∧ p.2 ≤ 90)
theorem Good.safe {l : Vers} (h : Good l) {k : Nat} (hk : k < 90) : Safe k l := by
  intro m hm p hp
  have hmem := List.mem_of_getElem? hp
  obtain ⟨hb1, hb2⟩ := h.2 p hmem
  refine ⟨⟨hb1.1, by omega⟩, fun he => ?_⟩
  have hl := (List.getElem?_eq_some_iff.1 hp).1
  have hpw := List.pairwise_iff_getElem.1 h.1
  have hlt : ∀ i j (hi : i < l.length) (hj : j < l.length), i < j → l[i].1 < l[j].1 := hpw
  have hbd : ∀ i (hi : i < l.length), (0 ≤ l[i].1 ∧ l[i].1 < 4) ∧ (0 ≤ l[i].2 ∧ l[i].2 ≤ 90) := fun i hi => h.2 _ (List.getElem_mem hi)
  have hpe : p = l[m] := (List.getElem?_eq_some_iff.1 hp).2.symm
  have hfl := sum0_eq (k := k) (by omega)
  have hst : startK k < 18446744073709551616 := ff_lt _ _ (by decide)
  have g0 := hbd 0 (by omega)
  have t1 : l.take 1 = [] ++ [l[0]] := by rw [show (1 : Nat) = 0 + 1 from rfl, List.take_add_one, List.getElem?_eq_getElem (show 0 < l.length by omega)]; rfl
  have e1 : fnv (textL k (l.take 1)) = ff (startK k) (pd l[0].1.toNat l[0].2.toNat) := by rw [t1, fnv_snoc, hfl, pairStep_eq ⟨g0.1.1, by omega⟩ ⟨by omega, by omega⟩]
  have l1 := ff_lt (pd l[0].1.toNat l[0].2.toNat) _ hst
  have hcs : m = 1 ∨ m = 2 ∨ m = 3 ∨ 4 ≤ m := by omega
  rcases hcs with rfl | rfl | rfl | h4
  · have o1 := hlt 0 1 (by omega) hl (by omega)
    rw [← hpe] at o1
    rw [e1] at he
    have := one_ne (x := l[0].2.toNat) hk (show l[0].1.toNat < 3 by omega) (by omega)
    omega
  · have o1 := hlt 0 1 (by omega) (by omega) (by omega)
    have o2 := hlt 1 2 (by omega) hl (by omega)
    have g1 := hbd 1 (by omega)
    rw [← hpe] at o2
    have t2 : l.take 2 = l.take 1 ++ [l[1]] := by rw [List.take_add_one, List.getElem?_eq_getElem (show 1 < l.length by omega)]; rfl
    rw [t2, fnv_snoc, e1, pairStep_eq ⟨g1.1.1, by omega⟩ ⟨by omega, by omega⟩] at he
    have hbk := back (pd l[1].1.toNat l[1].2.toNat) _ l1 (pd_lt (by omega) (by omega))
    generalize hX : ff (ff (startK k) (pd l[0].1.toNat l[0].2.toNat)) (pd l[1].1.toNat l[1].2.toNat) = X at he hbk
    refine two_ne (x := l[0].2.toNat) hk (show l[0].1.toNat < 2 by omega) (by omega) (fun s => ?_) hbk.symm
    refine bits_two (by omega) ?_
    omega
  · have o1 := hlt 0 1 (by omega) (by omega) (by omega)
    have o2 := hlt 1 2 (by omega) (by omega) (by omega)
    have o3 := hlt 2 3 (by omega) hl (by omega)
    have g1 := hbd 1 (by omega)
    have g2 := hbd 2 (by omega)
    rw [← hpe] at o3
    have t2 : l.take 2 = l.take 1 ++ [l[1]] := by rw [List.take_add_one, List.getElem?_eq_getElem (show 1 < l.length by omega)]; rfl
    have t3 : l.take 3 = l.take 2 ++ [l[2]] := by rw [List.take_add_one, List.getElem?_eq_getElem (show 2 < l.length by omega)]; rfl
    rw [t3, fnv_snoc, t2, fnv_snoc, e1, pairStep_eq ⟨g1.1.1, by omega⟩ ⟨by omega, by omega⟩, pairStep_eq ⟨g2.1.1, by omega⟩ ⟨by omega, by omega⟩] at he
    have l2 := ff_lt (pd l[1].1.toNat l[1].2.toNat) _ l1
    have hbk1 := back (pd l[1].1.toNat l[1].2.toNat) _ l1 (pd_lt (by omega) (by omega))
    have hbk2 := back (pd l[2].1.toNat l[2].2.toNat) _ l2 (pd_lt (by omega) (by omega))
    have k1 : l[1].1.toNat = 1 := by omega
    have k2 : l[2].1.toNat = 2 := by omega
    rw [k1, k2] at he hbk2
    rw [k1] at hbk1
    generalize hX : ff (ff (ff (startK k) (pd l[0].1.toNat l[0].2.toNat)) (pd 1 l[1].2.toNat)) (pd 2 l[2].2.toNat) = X at he hbk2
    have hx3 : X = 3 := by omega
    subst hx3
    rw [← hbk2] at hbk1
    refine two_ne (x := l[0].2.toNat) hk (show l[0].1.toNat < 2 by omega) (by omega) (fun s => ?_) hbk1.symm
    exact bits_three (by omega) (by omega)
  · have o1 := hlt 0 1 (by omega) (by omega) (by omega)
    have o2 := hlt 1 2 (by omega) (by omega) (by omega)
    have o3 := hlt 2 3 (by omega) (by omega) (by omega)
    have o4 := hlt 3 4 (by omega) (by omega) (by omega)
    have g4 := hbd 4 (by omega)
    omega
end Go.Proofs.YtaghjcdlghcjeaaGreatDoor
/- interleafkeep.pick. -/
namespace Go.Proofs.YtaghjcdlghcjeaaGreatDoor
open Go Go.RowKit Go.Sep

def pickN (a : Int) (n : Nat) : Nat := (IntKind.u64.wrap a % n).toNat
theorem u64_wrap (a : Int) : 0 ≤ IntKind.u64.wrap a := by
  simp [IntKind.wrap, IntKind.signed, IntKind.bits]; omega
theorem pickN_lt (a : Int) {n : Nat} (h : 0 < n) : pickN a n < n := by
  unfold pickN
  have h1 := Int.emod_lt_of_pos (IntKind.u64.wrap a) (show (0 : Int) < n by omega)
  have h2 := Int.emod_nonneg (IntKind.u64.wrap a) (show (n : Int) ≠ 0 by omega)
  omega
theorem pick_any (a : Int) (n : Int) (w : World) (hn : 0 < n) (hn2 : n ≤ 1000000) : Calls Tryz.prog 8 #[.int .i64 a, .int .i64 n] w fun e w' => e = .returned (.int .i64 (pickN a n.toNat)) ∧ w = w' := by
  obtain ⟨n, rfl⟩ := Int.eq_ofNat_of_zero_le (Int.le_of_lt hn)
  have h1 := u64_wrap a
  have h2 := Int.emod_lt_of_pos (IntKind.u64.wrap a) hn
  have h3 := Int.emod_nonneg (IntKind.u64.wrap a) (show (n : Int) ≠ 0 by omega)
  have h4 : wrap64 ((IntKind.u64.wrap a).tmod n) = pickN a n := by
    rw [Int.tmod_eq_emod_of_nonneg h1, IntWalk.wrap64_in _ ⟨by omega, by omega⟩]; unfold pickN; omega
  have H4 := hid h4
  clear h1 h2 h3 h4
  go_enter Tryz.func8, Tryz.ntmps8
  go_wp2
  go_ret
  exact ⟨retI H4.out, rfl⟩

end Go.Proofs.YtaghjcdlghcjeaaGreatDoor
namespace Go.Sep
open Go Go.RowKit
theorem putU : (∀ (a : Act) (i : Nat) (v : Value), a.put (some i) v = { a with tmps := a.tmps.setIfInBounds i v }) ∧ (∀ (a : Act) (v : Value), a.put none v = a) ∧ (∀ (l : List Value) (i : Nat) (v : Value), l.toArray.setIfInBounds i v = (l.set i v).toArray) ∧
    (∀ (a b : Value) (l : List Value), (a :: l).set 0 b = b :: l) ∧ (∀ (a b : Value) (l : List Value) (n : Nat), (a :: l).set (n + 1) b = a :: l.set n b) ∧ (∀ (l : List Oper) (i : Nat) (h : i < l.toArray.size), l.toArray[i] = l[i]'(by simpa using h)) ∧
    (∀ (a : Oper) (l : List Oper) (h : 0 < (a :: l).length), (a :: l)[0] = a) ∧ (∀ (a : Oper) (l : List Oper) (i : Nat) (h : i + 1 < (a :: l).length), (a :: l)[i + 1] = l[i]'(by simpa using h)) :=
  ⟨fun _ _ _ => rfl, fun _ _ => rfl, fun l i v => by simp, fun _ _ _ => rfl, fun _ _ _ _ => rfl, fun l i h => by simp, fun _ _ _ => rfl, fun _ _ _ _ => rfl⟩
theorem goneU {p : Prop} (h : true = false) : p := Bool.noConfusion h
end Go.Sep
