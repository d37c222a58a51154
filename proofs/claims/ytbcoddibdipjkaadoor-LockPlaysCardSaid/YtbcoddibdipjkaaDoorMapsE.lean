/- Maps on the model's heap: an entry that is found first, and written later (an assignment to several things). No program in sight. -/
import Derived.Test.YtbcoddibdipjkaaDoorMaps
namespace Go.Sep
open Go Go.RowKit
set_option linter.unusedSectionVars false
section
variable {κ : Type} [DecidableEq κ] {P : Program} {kt : TypeId} {enc : κ → Value} {ok : κ → Prop} {w w0 : World} {L : List HProp} {b r : Nat} {D : List (κ × Value)}

theorem setObjW_cell {o : Obj} {a : Addr} {v : Value} (h : ∀ c e f, w.heap[r]? ≠ some (.cells c e f)) (hc : w.cell? a = some v) : (setObjW w r o).cell? a = some v := by
  have hne : a.block ≠ r := by
    intro e
    unfold World.cell? at hc
    rw [e] at hc
    cases hh : w.heap[r]? with
    | none => rw [hh] at hc; simp at hc
    | some o' =>
      rw [hh] at hc
      cases o' with
      | cells c e' f => exact h c e' f hh
      | _ => simp at hc
  rw [← hc]
  exact World.cell?_of_block (by simp [setObjW, Array.getElem?_setIfInBounds_ne (fun e => hne e.symm)])
theorem mput_mput {κ ν : Type} [DecidableEq κ] (D : List (κ × ν)) (k : κ) (u v : ν) : mput (mput D k u) k v = mput D k v := by
  have h1 : (mget (mput D k u) k).isSome := by rw [mget_put]; simp
  unfold mput at h1 ⊢
  rw [if_pos h1]
  by_cases h : (mget D k).isSome
  · rw [if_pos h, if_pos h, List.map_map]
    apply List.map_congr_left
    intro d _
    simp only [Function.comp]
    by_cases e : d.1 = k <;> simp [e]
  · rw [if_neg h, if_neg h, List.map_append]
    congr 1
    · have hn : k ∉ D.map (·.1) := mget_none.1 (by simpa using h)
      conv => rhs; rw [← List.map_id D]
      apply List.map_congr_left
      intro d hd
      have : d.1 ≠ k := fun e => hn (by rw [← e]; exact List.mem_map_of_mem hd)
      simp [this]
    · simp

/-- A map with an entry for 'k' whose stamp is 'st'. -/
def entP (enc : κ → Value) (ok : κ → Prop) (b : Nat) (D : List (κ × Value)) (k : κ) (st : Nat) : HProp :=
  ex fun es : Array MapEntry => ex fun clock : Nat => sep (pur (MapObj enc ok D es clock ∧ ∃ (i : Nat) (e : MapEntry), es.toList[i]? = some e ∧ e.born = st ∧ (D.map (·.1))[i]? = some k)) (ob b (.map es clock))

theorem S.entry_find (K : KeyOk P kt enc ok) {t e : TypeId} (ht : P.underlying t = some (.map kt e)) {z : Value} (hz : (zeroValue e).run P w = .ok z w) (h : S w0 w (mp enc ok b D :: L)) (k : κ) (hk : ok k) :
    ∃ (st : Nat) (w' : World), (Instr.mapEntry t (.map (some b)) (enc k)).run P w = .ok (.tuple #[(mget D k).getD z, .int .i64 (st : Int)]) w' ∧ S w0 w' (entP enc ok b (mput D k ((mget D k).getD z)) k st :: L) ∧ ∀ a v, w.cell? a = some v → w'.cell? a = some v := by
  obtain ⟨es, h⟩ := h.ex_elim
  obtain ⟨clock, h⟩ := h.ex_elim
  obtain ⟨hm, h⟩ := h.sep_elim.pur_elim
  have hb := h.obj
  have hnc : ∀ c e f, w.heap[b]? ≠ some (.cells c e f) := by intro c e f; rw [hb]; simp
  have hf := K.find k es.toList (D.map (·.1)) w hk (by intro x hx; obtain ⟨d, hd, rfl⟩ := List.mem_map.1 hx; exact hm.2.2.2.2 d hd) (keys_of hm)
  have hg := find_zip D es.toList k 0 hm.1
  have hlen : es.size = D.length := by have := congrArg List.length hm.1; simpa using this
  cases hx : ((D.map (·.1)).zip es.toList).zipIdx.find? (fun x => decide (x.1.1 = k)) with
  | none =>
    rw [hx] at hg
    simp at hg
    have hp : mput D k z = D ++ [(k, z)] := by unfold mput; rw [← hg]; simp
    have hnd := keys_put_nodup hm.2.2.2.1 k z
    refine ⟨clock, setObjW w b (.map (es.push { key := enc k, val := z, born := clock }) (clock + 1)), ?_, ?_, fun a v hc => setObjW_cell hnc hc⟩
    · simp only [Instr.mapEntry, Sem.run_bind, run_underlying ht, Result.andThen_ok, run_getObj_map hb, K.check, hf, hx, Option.map_none, hz, run_setObj_map hb, Sem.run_pure, ← hg, Option.getD_none]
      rfl
    · rw [← hg, Option.getD_none]
      refine .ex_intro _ (.ex_intro _ (.sep_intro (.pur_intro ?_ (h.set_obj (by simp) (by simp)))))
      refine ⟨⟨by rw [hp]; simp [hm.1], ?_, ?_, hnd, ?_⟩, D.length, { key := enc k, val := z, born := clock }, ?_, rfl, ?_⟩
      · simp only [Array.toList_push, List.map_append, List.map_cons, List.map_nil]
        rw [List.nodup_append]
        refine ⟨hm.2.1, by simp, ?_⟩
        intro a ha c hc
        simp at hc; subst hc
        obtain ⟨e', he', rfl⟩ := List.mem_map.1 ha
        have := hm.2.2.1 e' he'; omega
      · intro e' he'
        simp only [Array.toList_push, List.mem_append, List.mem_singleton] at he'
        rcases he' with he' | rfl
        · have := hm.2.2.1 e' he'; omega
        · simp
      · intro d hd
        rw [hp] at hd
        rcases List.mem_append.1 hd with h1 | h1
        · exact hm.2.2.2.2 d h1
        · simp at h1; subst h1; exact hk
      · rw [Array.toList_push, List.getElem?_append_right (by simp [hlen])]; simp [hlen]
      · rw [hp]; simp
  | some x =>
    obtain ⟨i, h1, h2, h3, h4⟩ := find_zip_idx (enc := enc) D es.toList k 0 x hm.1 hm.2.2.2.1 hx
    simp only [Nat.zero_add] at h1
    have hkey : x.1.2.key = enc k := by
      have e1 := congrArg (·[i]?) (keys_of hm)
      simp only [List.getElem?_map, h4] at e1
      have e2 := (h3 i).2 rfl
      simp only [List.getElem?_map] at e2
      cases hd : D[i]? with
      | none => rw [hd] at e2; simp at e2
      | some d => rw [hd] at e1 e2; simp at e1 e2; rw [e1, e2]
    have hget : es[i]? = some x.1.2 := by simpa using h4
    rw [hx] at hg
    simp at hg
    have hmod : es.modify i (fun e => { e with key := enc k }) = es := by
      apply Array.ext_getElem?
      intro j
      rw [Array.getElem?_modify]
      by_cases hij : i = j
      · subst hij; rw [if_pos rfl, hget]; simp [← hkey]
      · rw [if_neg hij]
    have hpp : mput D k x.1.2.val = D := by
      unfold mput
      rw [← hg, Option.isSome_some, if_pos rfl]
      conv => rhs; rw [← List.map_id D]
      apply List.map_congr_left
      intro d hd
      by_cases e : d.1 = k
      · have := mget_mem hm.2.2.2.1 (show (d.1, d.2) ∈ D from hd)
        rw [e, ← hg] at this
        simp only [e, if_true, id]
        have := Option.some.inj this
        rw [this, ← e]
      · simp [e]
    refine ⟨x.1.2.born, setObjW w b (.map es clock), ?_, ?_, fun a v hc => setObjW_cell hnc hc⟩
    · simp only [Instr.mapEntry, Sem.run_bind, run_underlying ht, Result.andThen_ok, run_getObj_map hb, K.check, hf, hx, Option.map_some, h1, hget, Option.getD_some, hkey, K.stays, run_setObj_map hb, Sem.run_pure, hmod, ← hg]
      rfl
    · rw [← hg, Option.getD_some, hpp]
      refine .ex_intro es (.ex_intro clock (.sep_intro (.pur_intro ⟨hm, i, x.1.2, h4, rfl, (h3 i).2 rfl⟩ (h.set_obj (by simp) (by simp)))))
theorem S.entry_store {D : List (κ × Value)} {k : κ} {st : Nat} (h : S w0 w (entP enc ok b D k st :: L)) (t : TypeId) (v : Value) :
    ∃ w', (Instr.entryStore t (.map (some b)) (.int .i64 (st : Int)) v).run P w = .ok () w' ∧ S w0 w' (mp enc ok b (mput D k v) :: L) ∧ ∀ a u, w.cell? a = some u → w'.cell? a = some u := by
  obtain ⟨es, h⟩ := h.ex_elim
  obtain ⟨clock, h⟩ := h.ex_elim
  obtain ⟨⟨hm, i, e, hi, hst, hki⟩, h⟩ := h.sep_elim.pur_elim
  have hb := h.obj
  have hnc : ∀ c e f, w.heap[b]? ≠ some (.cells c e f) := by intro c e f; rw [hb]; simp
  have hidx : es.findIdx? (fun e => (e.born : Int) == (st : Int)) = some i := by
    have hlt : i < es.size := by have := (List.getElem?_eq_some_iff.1 hi).1; simpa using this
    rw [Array.findIdx?_eq_some_iff_getElem]
    have hei : es[i] = e := by have := (List.getElem?_eq_some_iff.1 hi).2; simpa using this
    refine ⟨hlt, by rw [hei]; simp [hst], fun j hj => ?_⟩
    have hjl : j < es.size := by omega
    have : es[j].born ≠ st := by
      intro ej
      have q1 : (es.toList.map (·.born))[j]? = some st := by simp [hjl, ej]
      have q2 : (es.toList.map (·.born))[i]? = some st := by rw [List.getElem?_map, hi]; simp [hst]
      have := (List.getElem?_inj (by simp; omega) hm.2.1).1 (q1.trans q2.symm)
      omega
    simp; omega
  have hki' : ∀ j, (D.map (·.1))[j]? = some k ↔ j = i := by
    intro j
    constructor
    · intro hj; exact (List.getElem?_inj (List.getElem?_eq_some_iff.1 hj).1 hm.2.2.2.1).1 (hj.trans hki.symm)
    · rintro rfl; exact hki
  have hkey : e.key = enc k := by
    have e1 := congrArg (·[i]?) (keys_of hm)
    simp only [List.getElem?_map, hi] at e1
    have e2 := hki
    simp only [List.getElem?_map] at e2
    cases hd : D[i]? with
    | none => rw [hd] at e2; simp at e2
    | some d => rw [hd] at e1 e2; simp at e1 e2; rw [e1, e2]
  have hsome : (mget D k).isSome := by
    cases hg : mget D k with
    | none => exact absurd (List.mem_of_getElem? hki) (mget_none.1 hg)
    | some _ => rfl
  have hp : mput D k v = D.map fun d => if d.1 = k then (k, v) else d := by unfold mput; rw [if_pos hsome]
  refine ⟨setObjW w b (.map (es.modify i fun e => { e with val := v }) clock), ?_, ?_, fun a u hc => setObjW_cell hnc hc⟩
  · simp only [Instr.entryStore, Sem.run_bind, run_getObj_map hb, Result.andThen_ok, asInt, asIntOf, Sem.run_pure, hidx, run_setObj_map hb]
  · have hmod : (es.modify i fun e => { e with val := v }) = es.modify i fun e => { e with key := enc k, val := v } := by
      apply Array.ext_getElem?
      intro j
      rw [Array.getElem?_modify, Array.getElem?_modify]
      by_cases hij : i = j
      · subst hij
        have : es[i]? = some e := by simpa using hi
        rw [if_pos rfl, if_pos rfl, this]; simp [hkey]
      · rw [if_neg hij, if_neg hij]
    rw [hmod]
    refine .mp_of ?_ (h.set_obj (by simp) (by simp))
    have hborn : (es.modify i fun e => { e with key := enc k, val := v }).toList.map (·.born) = es.toList.map (·.born) := by
      rw [Array.toList_modify]
      apply List.ext_getElem?
      intro j
      simp only [List.getElem?_map, List.getElem?_modify]
      cases es.toList[j]? with
      | none => simp
      | some e => by_cases hij : i = j <;> simp [hij]
    refine ⟨by rw [hp, Array.toList_modify]; exact map_modify_eq v hm.1 hki', by rw [hborn]; exact hm.2.1, ?_, keys_put_nodup hm.2.2.2.1 k v, ?_⟩
    · intro e' he'
      have : e'.born ∈ (es.modify i fun e => { e with key := enc k, val := v }).toList.map (·.born) := List.mem_map_of_mem he'
      rw [hborn] at this
      obtain ⟨e'', he'', hbb⟩ := List.mem_map.1 this
      rw [← hbb]; exact hm.2.2.1 e'' he''
    · intro d hd
      rw [hp] at hd
      obtain ⟨d', hd', rfl⟩ := List.mem_map.1 hd
      by_cases ek : d'.1 = k
      · rw [if_pos ek]
        have h1 := hm.2.2.2.2 d' hd'
        rw [ek] at h1; exact h1
      · rw [if_neg ek]; exact hm.2.2.2.2 d' hd'
/-- Ranging over no map. -/
theorem run_range_none {t e : TypeId} (ht : P.underlying t = some (.map kt e)) (w : World) : (Instr.range t (.map none)).run P w = .ok (.pointer (some ⟨w.heap.size, 0, none⟩)) (w.alloc (.mapIter none 0 #[] 0)) := by
  simp [Instr.range, run_underlying ht]
theorem run_next_none {ty : TypeId} (h : w.heap[r]? = some (.mapIter none 0 #[] 0)) : (Instr.next (.pointer (some ⟨r, 0, none⟩)) false ty).run P w = .ok (.tuple #[.bool false]) w := by
  simp [Instr.next, run_getObj_iter h]
end
end Go.Sep
