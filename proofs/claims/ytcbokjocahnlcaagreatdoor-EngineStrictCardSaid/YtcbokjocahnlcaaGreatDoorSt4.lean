/- Regions that draw their order and whose last stores turn what their loads read: what is held is asked only till the first of those stores has come up. No program in sight. -/
import Derived.Test.YtcbokjocahnlcaaGreatDoorSt0
import Derived.Sort.OwnSortedInts
import Derived.Test.YtcbokjocahnlcaaGreatDoorSt3
import Derived.Shelf.Strconv.Itoa0
import Derived.Shelf.Sort.Plain
import Derived.Shelf.Slices.Turned
import Derived.Shelf.Slices.In.SortNone
import Derived.Test.YtcbokjocahnlcaaGreatDoorProg
import Derived.Test.YtcbokjocahnlcaaGreatDoorSt2
import Derived.WalkKit
import Derived.Test.YtcbokjocahnlcaaGreatDoorSt1
import Derived.Deep.RegionHeld3
import Derived.Deep.DeepCutAuto
import Derived.Deep.LoopGhost
import Derived.LoopN
import Derived.BigQuiet
import Derived.Deep.RegionHeldLaw
import Derived.Deep.RegionHeld
/- Maps on the model's heap: an entry that is found first, and written later (an assignment to several things). No program in sight. -/
namespace Go.Sep
open Go Go.RowKit
set_option linter.unusedSectionVars false
section
variable {κ : Type} [DecidableEq κ] {P : Program} {kt : TypeId} {enc : κ → Value} {ok : κ → Prop} {w w0 : World} {L : List HProp} {b r : Nat} {D : List (κ × Value)}
theorem setObjW_cell {o : Obj} {a : Addr} {v : Value} (h : ∀ c e f, w.heap[r]? ≠ some (.cells c e f)) (hc : w.cell? a = some v) : (setObjW w r o).cell? a = some v := by
 have hne : a.block ≠ r := by
  intro e
  unfold World.cell? at hc
  rw [e] at hc
  cases hh : w.heap[r]? with
  | none => rw [hh] at hc; simp at hc
  | some o' =>
   rw [hh] at hc
   cases o' with
   | cells c e' f => exact h c e' f hh
   | _ => simp at hc
 rw [← hc]
 exact World.cell?_of_block (by simp [setObjW, Array.getElem?_setIfInBounds_ne (fun e => hne e.symm)])
theorem mput_mput {κ ν : Type} [DecidableEq κ] (D : List (κ × ν)) (k : κ) (u v : ν) : mput (mput D k u) k v = mput D k v := by
 have h1 : (mget (mput D k u) k).isSome := by rw [mget_put]; simp
 unfold mput at h1 ⊢
 rw [if_pos h1]
 by_cases h : (mget D k).isSome
 ·rw [if_pos h, if_pos h, List.map_map]
  apply List.map_congr_left
  intro d _
  simp only [Function.comp]
  by_cases e : d.1 = k <;> simp [e]
 ·rw [if_neg h, if_neg h, List.map_append]
  congr 1
  ·have hn : k ∉ D.map (·.1) := mget_none.1 (by simpa using h)
   conv => rhs; rw [← List.map_id D]
   apply List.map_congr_left
   intro d hd
   have : d.1 ≠ k := fun e => hn (by rw [← e]; exact List.mem_map_of_mem hd)
   simp [this]
  ·simp
def entP (enc : κ → Value) (ok : κ → Prop) (b : Nat) (D : List (κ × Value)) (k : κ) (st : Nat) : HProp :=
 ex fun es : Array MapEntry => ex fun clock : Nat => sep (pur (MapObj enc ok D es clock ∧ ∃ (i : Nat) (e : MapEntry), es.toList[i]? = some e ∧ e.born = st ∧ (D.map (·.1))[i]? = some k)) (ob b (.map es clock))
theorem S.entry_find (K : KeyOk P kt enc ok) {t e : TypeId} (ht : P.underlying t = some (.map kt e)) {z : Value} (hz : (zeroValue e).run P w = .ok z w) (h : S w0 w (mp enc ok b D :: L)) (k : κ) (hk : ok k) :
  ∃ (st : Nat) (w' : World), (Instr.mapEntry t (.map (some b)) (enc k)).run P w = .ok (.tuple #[(mget D k).getD z, .int .i64 (st : Int)]) w' ∧ S w0 w' (entP enc ok b (mput D k ((mget D k).getD z)) k st :: L) ∧ ∀ a v, w.cell? a = some v → w'.cell? a = some v := by
 obtain ⟨es, h⟩ := h.ex_elim
 obtain ⟨clock, h⟩ := h.ex_elim
 obtain ⟨hm, h⟩ := h.sep_elim.pur_elim
 have hb := h.obj
 have hnc : ∀ c e f, w.heap[b]? ≠ some (.cells c e f) := by intro c e f; rw [hb]; simp
 have hf := K.find k es.toList (D.map (·.1)) w hk (by intro x hx; obtain ⟨d, hd, rfl⟩ := List.mem_map.1 hx; exact hm.2.2.2.2 d hd) (keys_of hm)
 have hg := find_zip D es.toList k 0 hm.1
 have hlen : es.size = D.length := by have := congrArg List.length hm.1; simpa using this
 cases hx : ((D.map (·.1)).zip es.toList).zipIdx.find? (fun x => decide (x.1.1 = k)) with
 | none =>
  rw [hx] at hg
  simp at hg
  have hp : mput D k z = D ++ [(k, z)] := by unfold mput; rw [← hg]; simp
  have hnd := keys_put_nodup hm.2.2.2.1 k z
  refine ⟨clock, setObjW w b (.map (es.push { key := enc k, val := z, born := clock }) (clock + 1)), ?_, ?_, fun a v hc => setObjW_cell hnc hc⟩
  ·simp only [Instr.mapEntry, Sem.run_bind, run_underlying ht, Result.andThen_ok, run_getObj_map hb, K.check, hf, hx, Option.map_none, hz, run_setObj_map hb, Sem.run_pure, ← hg, Option.getD_none]
   rfl
  ·rw [← hg, Option.getD_none]
   refine .ex_intro _ (.ex_intro _ (.sep_intro (.pur_intro ?_ (h.set_obj (by simp) (by simp)))))
   refine ⟨⟨by rw [hp]; simp [hm.1], ?_, ?_, hnd, ?_⟩, D.length, { key := enc k, val := z, born := clock }, ?_, rfl, ?_⟩
   ·simp only [Array.toList_push, List.map_append, List.map_cons, List.map_nil]
    rw [List.nodup_append]
    refine ⟨hm.2.1, by simp, ?_⟩
    intro a ha c hc
    simp at hc; subst hc
    obtain ⟨e', he', rfl⟩ := List.mem_map.1 ha
    have := hm.2.2.1 e' he'; omega
   ·intro e' he'
    simp only [Array.toList_push, List.mem_append, List.mem_singleton] at he'
    rcases he' with he' | rfl
    ·have := hm.2.2.1 e' he'; omega
    ·simp
   ·intro d hd
    rw [hp] at hd
    rcases List.mem_append.1 hd with h1 | h1
    ·exact hm.2.2.2.2 d h1
    ·simp at h1; subst h1; exact hk
   ·rw [Array.toList_push, List.getElem?_append_right (by simp [hlen])]; simp [hlen]
   ·rw [hp]; simp
 | some x =>
  obtain ⟨i, h1, h2, h3, h4⟩ := find_zip_idx (enc := enc) D es.toList k 0 x hm.1 hm.2.2.2.1 hx
  simp only [Nat.zero_add] at h1
  have hkey : x.1.2.key = enc k := by
   have e1 := congrArg (·[i]?) (keys_of hm)
   simp only [List.getElem?_map, h4] at e1
   have e2 := (h3 i).2 rfl
   simp only [List.getElem?_map] at e2
   cases hd : D[i]? with
   | none => rw [hd] at e2; simp at e2
   | some d => rw [hd] at e1 e2; simp at e1 e2; rw [e1, e2]
  have hget : es[i]? = some x.1.2 := by simpa using h4
  rw [hx] at hg
  simp at hg
  have hmod : es.modify i (fun e => { e with key := enc k }) = es := by
   apply Array.ext_getElem?
   intro j
   rw [Array.getElem?_modify]
   by_cases hij : i = j
   ·subst hij; rw [if_pos rfl, hget]; simp [← hkey]
   ·rw [if_neg hij]
  have hpp : mput D k x.1.2.val = D := by
   unfold mput
   rw [← hg, Option.isSome_some, if_pos rfl]
   conv => rhs; rw [← List.map_id D]
   apply List.map_congr_left
   intro d hd
   by_cases e : d.1 = k
   ·have := mget_mem hm.2.2.2.1 (show (d.1, d.2) ∈ D from hd)
    rw [e, ← hg] at this
    simp only [e, if_true, id]
    have := Option.some.inj this
    rw [this, ← e]
   ·simp [e]
  refine ⟨x.1.2.born, setObjW w b (.map es clock), ?_, ?_, fun a v hc => setObjW_cell hnc hc⟩
  ·simp only [Instr.mapEntry, Sem.run_bind, run_underlying ht, Result.andThen_ok, run_getObj_map hb, K.check, hf, hx, Option.map_some, h1, hget, Option.getD_some, hkey, K.stays, run_setObj_map hb, Sem.run_pure, hmod, ← hg]
   rfl
  ·rw [← hg, Option.getD_some, hpp]
   refine .ex_intro es (.ex_intro clock (.sep_intro (.pur_intro ⟨hm, i, x.1.2, h4, rfl, (h3 i).2 rfl⟩ (h.set_obj (by simp) (by simp)))))
theorem S.entry_store {D : List (κ × Value)} {k : κ} {st : Nat} (h : S w0 w (entP enc ok b D k st :: L)) (t : TypeId) (v : Value) :
  ∃ w', (Instr.entryStore t (.map (some b)) (.int .i64 (st : Int)) v).run P w = .ok () w' ∧ S w0 w' (mp enc ok b (mput D k v) :: L) ∧ ∀ a u, w.cell? a = some u → w'.cell? a = some u := by
 obtain ⟨es, h⟩ := h.ex_elim
 obtain ⟨clock, h⟩ := h.ex_elim
 obtain ⟨⟨hm, i, e, hi, hst, hki⟩, h⟩ := h.sep_elim.pur_elim
 have hb := h.obj
 have hnc : ∀ c e f, w.heap[b]? ≠ some (.cells c e f) := by intro c e f; rw [hb]; simp
 have hidx : es.findIdx? (fun e => (e.born : Int) == (st : Int)) = some i := by
  have hlt : i < es.size := by have := (List.getElem?_eq_some_iff.1 hi).1; simpa using this
  rw [Array.findIdx?_eq_some_iff_getElem]
  have hei : es[i] = e := by have := (List.getElem?_eq_some_iff.1 hi).2; simpa using this
  refine ⟨hlt, by rw [hei]; simp [hst], fun j hj => ?_⟩
  have hjl : j < es.size := by omega
  have : es[j].born ≠ st := by
   intro ej
   have q1 : (es.toList.map (·.born))[j]? = some st := by simp [hjl, ej]
   have q2 : (es.toList.map (·.born))[i]? = some st := by rw [List.getElem?_map, hi]; simp [hst]
   have := (List.getElem?_inj (by simp; omega) hm.2.1).1 (q1.trans q2.symm)
   omega
  simp; omega
 have hki' : ∀ j, (D.map (·.1))[j]? = some k ↔ j = i := by
  intro j
  constructor
  ·intro hj; exact (List.getElem?_inj (List.getElem?_eq_some_iff.1 hj).1 hm.2.2.2.1).1 (hj.trans hki.symm)
  ·rintro rfl; exact hki
 have hkey : e.key = enc k := by
  have e1 := congrArg (·[i]?) (keys_of hm)
  simp only [List.getElem?_map, hi] at e1
  have e2 := hki
  simp only [List.getElem?_map] at e2
  cases hd : D[i]? with
  | none => rw [hd] at e2; simp at e2
  | some d => rw [hd] at e1 e2; simp at e1 e2; rw [e1, e2]
 have hsome : (mget D k).isSome := by
  cases hg : mget D k with
  | none => exact absurd (List.mem_of_getElem? hki) (mget_none.1 hg)
  | some _ => rfl
 have hp : mput D k v = D.map fun d => if d.1 = k then (k, v) else d := by unfold mput; rw [if_pos hsome]
 refine ⟨setObjW w b (.map (es.modify i fun e => { e with val := v }) clock), ?_, ?_, fun a u hc => setObjW_cell hnc hc⟩
 ·simp only [Instr.entryStore, Sem.run_bind, run_getObj_map hb, Result.andThen_ok, asInt, asIntOf, Sem.run_pure, hidx, run_setObj_map hb]
 ·have hmod : (es.modify i fun e => { e with val := v }) = es.modify i fun e => { e with key := enc k, val := v } := by
   apply Array.ext_getElem?
   intro j
   rw [Array.getElem?_modify, Array.getElem?_modify]
   by_cases hij : i = j
   ·subst hij
    have : es[i]? = some e := by simpa using hi
    rw [if_pos rfl, if_pos rfl, this]; simp [hkey]
   ·rw [if_neg hij, if_neg hij]
  rw [hmod]
  refine .mp_of ?_ (h.set_obj (by simp) (by simp))
  have hborn : (es.modify i fun e => { e with key := enc k, val := v }).toList.map (·.born) = es.toList.map (·.born) := by
   rw [Array.toList_modify]
   apply List.ext_getElem?
   intro j
   simp only [List.getElem?_map, List.getElem?_modify]
   cases es.toList[j]? with
   | none => simp
   | some e => by_cases hij : i = j <;> simp [hij]
  refine ⟨by rw [hp, Array.toList_modify]; exact map_modify_eq v hm.1 hki', by rw [hborn]; exact hm.2.1, ?_, keys_put_nodup hm.2.2.2.1 k v, ?_⟩
  ·intro e' he'
   have : e'.born ∈ (es.modify i fun e => { e with key := enc k, val := v }).toList.map (·.born) := List.mem_map_of_mem he'
   rw [hborn] at this
   obtain ⟨e'', he'', hbb⟩ := List.mem_map.1 this
   rw [← hbb]; exact hm.2.2.1 e'' he''
  ·intro d hd
   rw [hp] at hd
   obtain ⟨d', hd', rfl⟩ := List.mem_map.1 hd
   by_cases ek : d'.1 = k
   ·rw [if_pos ek]
    have h1 := hm.2.2.2.2 d' hd'
    rw [ek] at h1; exact h1
   ·rw [if_neg ek]; exact hm.2.2.2.2 d' hd'
theorem run_range_none {t e : TypeId} (ht : P.underlying t = some (.map kt e)) (w : World) : (Instr.range t (.map none)).run P w = .ok (.pointer (some ⟨w.heap.size, 0, none⟩)) (w.alloc (.mapIter none 0 #[] 0)) := by
 simp [Instr.range, run_underlying ht]
theorem run_next_none {ty : TypeId} (h : w.heap[r]? = some (.mapIter none 0 #[] 0)) : (Instr.next (.pointer (some ⟨r, 0, none⟩)) false ty).run P w = .ok (.tuple #[.bool false]) w := by
 simp [Instr.next, run_getObj_iter h]
end
end Go.Sep
/- An owned slice, sorted by the library. No program in sight. -/
namespace Go.Sep
open Go Go.RowKit Go.Sort Go.Proofs
variable {w w0 : World} {L : List HProp} {e : TypeId} {g o n cap : Nat}
theorem putCells_mid {α : Type} [Inhabited α] (enc : α → Value) (pre post : List Value) (l m : List α) (hl : m.length = l.length) :
  (putCells enc pre.length m.toArray (pre ++ (l.map enc ++ post)).toArray).toList = pre ++ (m.map enc ++ post) := by
 apply List.ext_getElem?
 intro j
 rw [Array.getElem?_toList]
 simp only [putCells, Array.getElem?_mapIdx, List.getElem?_toArray, List.size_toArray]
 by_cases h1 : j < pre.length
 ·rw [List.getElem?_append_left h1, List.getElem?_append_left h1]
  rw [List.getElem?_eq_getElem h1]
  simp; omega
 ·obtain ⟨i, rfl⟩ : ∃ i, j = pre.length + i := ⟨j - pre.length, by omega⟩
  have e1 : ∀ x : List Value, (pre ++ x)[pre.length + i]? = x[i]? := by intro x; rw [List.getElem?_append_right (by omega)]; congr 1; omega
  rw [e1, e1]
  by_cases h2 : i < l.length
  ·have h3 : i < m.length := by omega
   rw [List.getElem?_append_left (l₁ := l.map enc) (by simpa using h2), List.getElem?_append_left (l₁ := m.map enc) (by simpa using h3)]
   simp [h2, h3]
  ·have e2 : ∀ x : List α, x.length = l.length → (x.map enc ++ post)[i]? = post[i - l.length]? := by
    intro x hx; rw [List.getElem?_append_right (by simp; omega)]; simp [hx]
   rw [e2 l rfl, e2 m hl]
   cases post[i - l.length]? with
   | none => rfl
   | some u => simp; intro hx; omega
theorem heap_putRow {α : Type} [Inhabited α] (enc : α → Value) {g off n : Nat} {os : Array Obj} {cur : Array Value} {e : TypeId} {fr : Nat × Nat} (d : Array α) (hb : w.heap[g]? = some (.cells cur e fr)) :
  (grow (putRow enc (Sort.ahead w n) g off d) os).heap[g]? = some (.cells (putCells enc off d cur) e fr) := by
 have hg : g < w.heap.size := (Array.getElem?_eq_some_iff.1 hb).1
 rw [heap_grow_old _ _ (by simpa using hg)]
 simp [putRow, mapBlock, Sort.ahead, Array.getElem?_modify, hb, onCells]
theorem grownBy_putRow {α : Type} [Inhabited α] (enc : α → Value) {g off n : Nat} {os : Array Obj} (d : Array α) : w.grownBy (grow (putRow enc (Sort.ahead w n) g off d) os) (some g) := by
 refine ⟨rfl, rfl, rfl, by simp, fun k hk hne => ?_⟩
 rw [heap_grow_old _ _ (by simpa using hk)]
 have : g ≠ k := fun e => hne (by rw [e])
 simp [putRow, mapBlock, Sort.ahead, Array.getElem?_modify, this]
theorem S.sl_sort {l : List Int} (h : S w0 w (sl e 1 (.slice (some ⟨g, o, none⟩) l.length cap) l.length (icells l) :: L)) : Holds (Value.int .i64) w g o l.toArray ∧ g < w.heap.size ∧
  ∀ (m : List Int) (k : Nat) (os : Array Obj), m.length = l.length → S w0 (grow (putRow (Value.int .i64) (Sort.ahead w k) g o m.toArray) os) (sl e 1 (.slice (some ⟨g, o, none⟩) l.length cap) l.length (icells m) :: L) := by
 rcases h.sl_elim with ⟨hv, _⟩ | ⟨g', cap', pre, sp, post, hp, hb⟩
 ·simp at hv
 have hv := hp.val
 simp at hv
 obtain ⟨⟨rfl, rfl⟩, rfl⟩ := hv
 refine ⟨fun j hj => ?_, hb.blk_lt, fun m k os hm => ?_⟩
 ·have hj' : j < l.length := by simpa using hj
  refine ⟨?_, hb.blk_free _⟩
  refine hb.blk_cell (pre.length + j) ?_
  rw [List.getElem?_append_right (by omega), Nat.add_sub_cancel_left, List.getElem?_append_left (by rw [icells_length]; exact hj')]
  simp [icells, hj']
 ·have hh := hb.blk_heap
  have h1 := heap_putRow (w := w) (Value.int .i64) (off := pre.length) (n := k) (os := os) m.toArray hh
  have e1 : putCells (Value.int .i64) pre.length m.toArray (pre ++ (icells l ++ (sp ++ post))).toArray = (pre ++ (icells m ++ (sp ++ post))).toArray := by
   apply Array.toList_inj.1
   have := putCells_mid (Value.int .i64) pre (sp ++ post) l m hm
   simpa [icells] using this
  rw [e1] at h1
  have h2 := hb.blk_turn (grownBy_putRow (Value.int .i64) (off := pre.length) (n := k) (os := os) m.toArray) h1
  exact .sl_intro ⟨rfl, by rw [icells_length, hm]; simp, by have := hp.room; rw [icells_length] at this ⊢; omega, hp.le, hp.max⟩ h2
end Go.Sep
/- The program's table of locks: one key goes to who comes next: what becomes of memory. -/
namespace Go.Sep
open Go Go.RowKit
variable {w w0 : World} {L : List HProp} {T b o bh bl bb : Nat} {E : List (Int × (Value × List Int))} {t : Tbl} {P : Program} {kt mt ml e el : TypeId}
def tabY (T b o bh bl bb : Nat) (E : List (Int × (Value × List Int))) (k : Int) (v' : Value) (t : Tbl) (hold wait : List (Int × Int)) : HProp :=
 sep (pur (E.map (fun p => (p.1, p.2.2)) = t.line)) (sep (cells b o [.map (some bh), .map (some bl), .map (some bb)]) (sep (mp encI (fun _ => True) bh (ienc hold))
  (sep (mp encI (fun _ => True) bb (ienc wait)) (sep (mp encI (fun _ => True) bl (mput (E.map fun p => (p.1, p.2.1)) k v')) (all ((mdel E k).map (lrow T)))))))
theorem S.tabY_parts {k : Int} {v' : Value} {hold wait : List (Int × Int)} (h : S w0 w (tabY T b o bh bl bb E k v' t hold wait :: L)) : E.map (fun p => (p.1, p.2.2)) = t.line ∧
  S w0 w (cells b o [.map (some bh), .map (some bl), .map (some bb)] :: mp encI (fun _ => True) bh (ienc hold) :: mp encI (fun _ => True) bb (ienc wait) :: mp encI (fun _ => True) bl (mput (E.map fun p => (p.1, p.2.1)) k v') :: all ((mdel E k).map (lrow T)) :: L) := by
 obtain ⟨hp, h⟩ := h.sep_elim.pur_elim
 refine ⟨hp, h.conv ?_⟩
 simp only [all, sep_assoc]
theorem S.tabY_join {k : Int} {v' : Value} {hold wait : List (Int × Int)} (hp : E.map (fun p => (p.1, p.2.2)) = t.line)
  (h : S w0 w (cells b o [.map (some bh), .map (some bl), .map (some bb)] :: mp encI (fun _ => True) bh (ienc hold) :: mp encI (fun _ => True) bb (ienc wait) :: mp encI (fun _ => True) bl (mput (E.map fun p => (p.1, p.2.1)) k v') :: all ((mdel E k).map (lrow T)) :: L)) :
  S w0 w (tabY T b o bh bl bb E k v' t hold wait :: L) := by
 refine .sep_intro (.pur_intro hp (h.conv ?_))
 simp only [all, sep_assoc]
theorem S.tabY_see {k : Int} {v' : Value} {hold wait : List (Int × Int)} (h : S w0 w (tabY T b o bh bl bb E k v' t hold wait :: L)) : w.cell? ⟨b, o, none⟩ = some (.map (some bh)) ∧ w.cell? ⟨b, o + 1, none⟩ = some (.map (some bl)) ∧ w.cell? ⟨b, o + 2, none⟩ = some (.map (some bb)) := by
 obtain ⟨_, h⟩ := h.tabY_parts
 exact ⟨h.cells_cell 0 rfl, h.cells_cell 1 rfl, h.cells_cell 2 rfl⟩
theorem S.tab_assign2 (K : KeyOk P kt encI (fun _ => True)) (ht : P.underlying mt = some (.map kt e)) (hl : P.underlying ml = some (.map kt el)) {z zl : Value} (hz : ∀ w, (zeroValue e).run P w = .ok z w) (hzl : ∀ w, (zeroValue el).run P w = .ok zl w)
  {k : Int} (h : S w0 w (tabX T b o bh bl bb E k t :: L)) (x : Int) (v' : Value) :
  ∃ (u0 u1 : Value) (s0 s1 : Nat) (w1 w2 w3 w4 : World), (Instr.mapEntry mt (.map (some bh)) (encI k)).run P w = .ok (.tuple #[u0, .int .i64 (s0 : Int)]) w1 ∧ (Instr.entryStore mt (.map (some bh)) (.int .i64 (s0 : Int)) (encI x)).run P w1 = .ok () w2 ∧
   (Instr.mapEntry ml (.map (some bl)) (encI k)).run P w2 = .ok (.tuple #[u1, .int .i64 (s1 : Int)]) w3 ∧ (Instr.entryStore ml (.map (some bl)) (.int .i64 (s1 : Int)) v').run P w3 = .ok () w4 ∧
   (∀ a v, w.cell? a = some v → w1.cell? a = some v ∧ w2.cell? a = some v ∧ w3.cell? a = some v ∧ w4.cell? a = some v) ∧
   S w0 w4 (tabY T b o bh bl bb E k v' t (mput t.hold k x) t.wait :: L) := by
 obtain ⟨hp, h⟩ := h.tabX_parts
 obtain ⟨s0, w1, r1, h1, k1⟩ := h.swap.entry_find K ht (hz w) k trivial
 obtain ⟨w2, r2, h2, k2⟩ := h1.entry_store mt (encI x)
 obtain ⟨s1, w3, r3, h3, k3⟩ := h2.rot4.entry_find K hl (hzl w2) k trivial
 obtain ⟨w4, r4, h4, k4⟩ := h3.entry_store ml v'
 rw [mput_mput] at h4
 refine ⟨_, _, s0, s1, w1, w2, w3, w4, r1, r2, r3, r4, fun a v hc => ⟨k1 a v hc, k2 a v (k1 a v hc), k3 a v (k2 a v (k1 a v hc)), k4 a v (k3 a v (k2 a v (k1 a v hc)))⟩, S.tabY_join hp ?_⟩
 refine h4.conv ?_
 simp only [all]
 rw [mput_mput, ienc_put]
 rw [sep_left_comm (cells _ _ _) (mp _ _ bh _), sep_left_comm (mp _ _ bl _) (mp _ _ bh _), sep_left_comm (mp _ _ bl _) (cells _ _ _), sep_left_comm (mp _ _ bl _) (mp _ _ bb _)]
theorem S.tabY_wait_del (K : KeyOk P kt encI (fun _ => True)) {ty : TypeId} (ht : P.underlying mt = some (.map kt e)) {k : Int} {v' : Value} {hold wait : List (Int × Int)} (h : S w0 w (tabY T b o bh bl bb E k v' t hold wait :: L)) (x : Int) :
  ∃ w', (Builtin.delete_ #[mt, kt] ty #[.map (some bb), encI x]).run P w = .ok (.tuple #[]) w' ∧ S w0 w' (tabY T b o bh bl bb E k v' t hold (mdel wait x) :: L) := by
 obtain ⟨hp, h⟩ := h.tabY_parts
 obtain ⟨w', hr, h'⟩ := h.rot3.del K (ty := ty) ht x trivial
 rw [ienc_del] at h'
 exact ⟨w', hr, S.tabY_join hp h'.rot3.rot3⟩
theorem S.tabY_back {k : Int} {v' : Value} {l : List Int} {hold wait : List (Int × Int)} (h : S w0 w (sl T 1 v' l.length (icells l) :: tabY T b o bh bl bb E k v' t hold wait :: L)) :
  S w0 w (tabM T b o bh bl bb (mput E k (v', l)) ⟨hold, mput t.line k l, wait⟩ :: L) := by
 obtain ⟨hp, h⟩ := h.swap.tabY_parts
 have hm : mput (E.map fun p => (p.1, p.2.1)) k v' = (mput E k (v', l)).map fun p => (p.1, p.2.1) := mput_map (fun x : Value × List Int => x.1) E k (v', l)
 have hm2 : (mput E k (v', l)).map (fun p => (p.1, p.2.2)) = mput t.line k l := by rw [← hp]; exact (mput_map (fun x : Value × List Int => x.2) E k (v', l)).symm
 have hn : (E.map (·.1)).Nodup := by
  have h1 := h.rot4.nodup
  rw [hm, List.map_map] at h1
  have h2 : (mput E k (v', l)).map (·.1) = if (mget E k).isSome then E.map (·.1) else E.map (·.1) ++ [k] := keys_put E k (v', l)
  have h3 : ((mput E k (v', l)).map (·.1)).Nodup := by simpa [Function.comp_def] using h1
  rw [h2] at h3
  split at h3
  ·exact h3
  ·exact (List.nodup_append.1 h3).1
 rw [hm] at h
 refine S.tab_join (t := ⟨hold, mput t.line k l, wait⟩) hm2 ?_
 refine h.conv ?_
 have hq := (perm_put hn k (v', l)).map (lrow T)
 simp only [all]
 rw [all_perm hq]
 simp only [List.map_cons, all, lrow]
 rw [sep_assoc, sep_left_comm (all ((mdel E k).map _))]
end Go.Sep
/- The library's contracts at this translation: laid by the kit's tool. -/
namespace Go.Proofs
open Go.Shelf
def Tryz.lays189_ren : Go.Shelf.Ren := ⟨fun | 189 => 50 | 125 => 76 | 257 => 75 | 128 => 96 | 129 => 97 | 294 => 87 | 295 => 88 | 296 => 89 | 297 => 90 | 298 => 91 | 299 => 92 | 216 => 93 | 300 => 94 | 301 => 95 | 328 => 108 | 329 => 109 | 330 => 110 | 331 => 111 | 332 => 112 | 215 => 113 | 343 => 117 | n => n, fun | 28 => 30 | 3 => 3 | 46 => 95 | 0 => 0 | 51 => 178 | 53 => 180 | 4 => 4 | 183 => 171 | 182 => 170 | 131 => 64 | 5 => 5 | 9 => 9 | 218 => 188 | 222 => 192 | 228 => 196 | 229 => 197 | n => n, fun | n => n⟩
theorem Tryz.lays189 : Go.Proofs.Lays.n189 Tryz.prog Tryz.lays189_ren := {
 mixed := by kernel_rfl
 f125 := Tryz.func76.trans (congrArg some (by kernel_rfl))
 f128 := Tryz.func96.trans (congrArg some (by kernel_rfl))
 f129 := Tryz.func97.trans (congrArg some (by kernel_rfl))
 f189 := Tryz.func50.trans (congrArg some (by kernel_rfl))
 f215 := Tryz.func113.trans (congrArg some (by kernel_rfl))
 f216 := Tryz.func93.trans (congrArg some (by kernel_rfl))
 f257 := Tryz.func75.trans (congrArg some (by kernel_rfl))
 f294 := Tryz.func87.trans (congrArg some (by kernel_rfl))
 f295 := Tryz.func88.trans (congrArg some (by kernel_rfl))
 f296 := Tryz.func89.trans (congrArg some (by kernel_rfl))
 f297 := Tryz.func90.trans (congrArg some (by kernel_rfl))
 f298 := Tryz.func91.trans (congrArg some (by kernel_rfl))
 f299 := Tryz.func92.trans (congrArg some (by kernel_rfl))
 f300 := Tryz.func94.trans (congrArg some (by kernel_rfl))
 f301 := Tryz.func95.trans (congrArg some (by kernel_rfl))
 f328 := Tryz.func108.trans (congrArg some (by kernel_rfl))
 f329 := Tryz.func109.trans (congrArg some (by kernel_rfl))
 f330 := Tryz.func110.trans (congrArg some (by kernel_rfl))
 f331 := Tryz.func111.trans (congrArg some (by kernel_rfl))
 f332 := Tryz.func112.trans (congrArg some (by kernel_rfl))
 f343 := Tryz.func117.trans (congrArg some (by kernel_rfl))
 t0 := Tryz.underlying0
 a0 := Tryz.isAgg0
 z0 := Tryz.sizeOf0
 v0 := Tryz.zeroValue0
 t3 := Tryz.underlying3
 a3 := Tryz.isAgg3
 z3 := Tryz.sizeOf3
 v3 := Tryz.zeroValue3
 t4 := Tryz.underlying4
 a4 := Tryz.isAgg4
 z4 := Tryz.sizeOf4
 v4 := Tryz.zeroValue4
 t5 := Tryz.underlying5
 a5 := Tryz.isAgg5
 z5 := Tryz.sizeOf5
 v5 := Tryz.zeroValue5
 t9 := Tryz.underlying9
 a9 := Tryz.isAgg9
 z9 := Tryz.sizeOf9
 v9 := Tryz.zeroValue9
 t28 := Tryz.underlying30
 a28 := Tryz.isAgg30
 z28 := Tryz.sizeOf30
 v28 := Tryz.zeroValue30
 t46 := Tryz.underlying95
 a46 := Tryz.isAgg95
 z46 := Tryz.sizeOf95
 v46 := Tryz.zeroValue95
 t51 := Tryz.underlying178
 a51 := Tryz.isAgg178
 z51 := Tryz.sizeOf178
 v51 := Tryz.zeroValue178
 t53 := Tryz.underlying180
 a53 := Tryz.isAgg180
 z53 := Tryz.sizeOf180
 v53 := Tryz.zeroValue180
 t131 := Tryz.underlying64
 a131 := Tryz.isAgg64
 z131 := Tryz.sizeOf64
 v131 := Tryz.zeroValue64
 t182 := Tryz.underlying170
 a182 := Tryz.isAgg170
 z182 := Tryz.sizeOf170
 v182 := Tryz.zeroValue170
 t183 := Tryz.underlying171
 a183 := Tryz.isAgg171
 z183 := Tryz.sizeOf171
 v183 := Tryz.zeroValue171
 t218 := Tryz.underlying188
 a218 := Tryz.isAgg188
 z218 := Tryz.sizeOf188
 v218 := Tryz.zeroValue188
 t222 := Tryz.underlying192
 a222 := Tryz.isAgg192
 z222 := Tryz.sizeOf192
 v222 := Tryz.zeroValue192
 t228 := Tryz.underlying196
 a228 := Tryz.isAgg196
 z228 := Tryz.sizeOf196
 v228 := Tryz.zeroValue196
 t229 := Tryz.underlying197
 a229 := Tryz.isAgg197
 z229 := Tryz.sizeOf197
 v229 := Tryz.zeroValue197 }
open Go.Sort Go.RowKit in
theorem Tryz.slices_Sort_int (blk off cap : Nat) (zs : List Int) (w : World) (hH : Holds (Value.int .i64) w blk off zs.toArray) (hblk : blk < w.heap.size) (hsz : zs.length < 4611686018427387904) :
  Calls Tryz.prog 50 #[.slice (some ⟨blk, off, none⟩) zs.length cap] w fun e w' =>
   e = .returned (.tuple #[]) ∧ ∃ n os, w' = grow (putRow (Value.int .i64) (Sort.ahead w n) blk off (zs.mergeSort fun x y => decide (x ≤ y)).toArray) os := Any.slices_Sort_int Tryz.lays189 blk off cap zs w hH hblk hsz
def Tryz.lays108_ren : Go.Shelf.Ren := ⟨fun | 108 => 58 | n => n, fun | 28 => 30 | 3 => 3 | 0 => 0 | 4 => 4 | n => n, fun | n => n⟩
theorem Tryz.lays108 : Go.Proofs.Lays.n108 Tryz.prog Tryz.lays108_ren := {
 mixed := by kernel_rfl
 f108 := Tryz.func58.trans (congrArg some (by kernel_rfl))
 t0 := Tryz.underlying0
 a0 := Tryz.isAgg0
 z0 := Tryz.sizeOf0
 v0 := Tryz.zeroValue0
 t3 := Tryz.underlying3
 a3 := Tryz.isAgg3
 z3 := Tryz.sizeOf3
 v3 := Tryz.zeroValue3
 t4 := Tryz.underlying4
 a4 := Tryz.isAgg4
 z4 := Tryz.sizeOf4
 v4 := Tryz.zeroValue4
 t28 := Tryz.underlying30
 a28 := Tryz.isAgg30
 z28 := Tryz.sizeOf30
 v28 := Tryz.zeroValue30 }
open Go.Lib in
theorem Tryz.slices_Index_int (b off n c : Nat) (zs : List Int) (x : Int) (w : World) (hz : n ≤ zs.length) (hbig : n ≤ 9223372036854775807) (hc : ∀ j, j < zs.length → w.cell? ⟨b, off + j, none⟩ = some (.int .i64 (zs.getD j 0))) :
  Calls Tryz.prog 58 #[.slice (some ⟨b, off, none⟩) n c, .int .i64 x] w fun e w' => e = .returned (.int .i64 (Lib.idxOf (zs.take n) x)) ∧ w' = w := Any.slices_Index_int Tryz.lays108 b off n c zs x w hz hbig hc
open Go.Lib in
theorem Tryz.slices_Index_int_empty (a : Option Addr) (c : Nat) (x : Int) (w : World) :
  Calls Tryz.prog 58 #[.slice a 0 c, .int .i64 x] w fun e w' => e = .returned (.int .i64 (Lib.idxOf [] x)) ∧ w' = w := Any.slices_Index_int_empty Tryz.lays108 a c x w
open Go.RowKit Go.Sort in
theorem Tryz.slices_Sort_int_none (p : Option Addr) (cap : Nat) (w : World) :
  Calls Tryz.prog 50 #[.slice p 0 cap] w fun e w' => e = .returned (.tuple #[]) ∧ w' = w := Any.slices_Sort_int_none Tryz.lays189 p cap w
end Go.Proofs
/- Assertions in whatever order; the library's sort at an owned slice of integers. -/
namespace Go.Proofs.YtcbokjocahnlcaaGreatDoor
open Go Go.RowKit Go.Sep
theorem sort_ints (w0 w : World) (v : Value) (l : List Int) (L : List HProp) (hs : S w0 w (sl 3 1 v l.length (icells l) :: L)) (hb : l.length ≤ 4000000) :
  Calls Tryz.prog 50 #[v] w fun e w' => e = .returned (.tuple #[]) ∧ S w0 w' (sl 3 1 v l.length (icells (sortI l)) :: L) := by
 rcases Nat.eq_zero_or_pos l.length with h0 | hp
 ·obtain rfl := List.eq_nil_of_length_eq_zero h0
  obtain ⟨a, cap, rfl, _⟩ := hs.sl_val
  exact (Tryz.slices_Sort_int_none a cap w).mono fun e w' ⟨h1, h2⟩ => ⟨h1, by rw [h2]; simpa [sortI] using hs⟩
 ·obtain ⟨g, o, cap, rfl, _⟩ := hs.sl_some (by rw [icells_length]; exact hp)
  obtain ⟨h1, h2, h3⟩ := hs.sl_sort
  refine (Tryz.slices_Sort_int g o cap l w h1 h2 (by omega)).mono fun e w' ⟨he, n, os, hw⟩ => ⟨he, ?_⟩
  rw [hw]
  exact h3 (sortI l) n os (sortI_len l)
end Go.Proofs.YtcbokjocahnlcaaGreatDoor
/- The program's table of locks: who lets go. -/
namespace Go.Proofs.YtcbokjocahnlcaaGreatDoor
open Go Go.RowKit Go.Sep
theorem strikeT_none {t : Tbl} {tx : Int} (h : mget t.wait tx = none) : strikeT t tx = t := by unfold strikeT; rw [h]
theorem strikeT_some {t : Tbl} {tx k : Int} (h : mget t.wait tx = some k) : strikeT t tx = { t with wait := mdel t.wait tx, line := mput t.line k (strike (lineAt t k) tx) } := by unfold strikeT; rw [h]
def hk (tx : Int) (dn : List (Int × Int)) : List Int := (dn.filter fun p => decide (p.2 = tx)).map (·.1)
theorem hk_snoc (tx : Int) (dn : List (Int × Int)) (p : Int × Int) : hk tx (dn ++ [p]) = if p.2 = tx then hk tx dn ++ [p.1] else hk tx dn := by
 unfold hk; rw [List.filter_append, List.map_append]; by_cases h : p.2 = tx <;> simp [h]
theorem nodup_le {α : Type} : ∀ {l m : List α}, l.Nodup → (∀ x ∈ l, x ∈ m) → l.length ≤ m.length
 | [], _, _, _ => Nat.zero_le _
 | a :: l, m, hn, hs => by
  obtain ⟨m1, m2, rfl⟩ := List.append_of_mem (hs a (by simp))
  rw [List.nodup_cons] at hn
  have := nodup_le (l := l) (m := m1 ++ m2) hn.2 (fun x hx => by
   have h1 := hs x (by simp [hx])
   have hne : x ≠ a := fun e => hn.1 (by rw [← e]; exact hx)
   simp only [List.mem_append, List.mem_cons] at h1 ⊢
   rcases h1 with h | h | h
   ·exact .inl h
   ·exact absurd h hne
   ·exact .inr h)
  simp only [List.length_append, List.length_cons] at this ⊢; omega
set_option maxRecDepth 40000 in
set_option maxHeartbeats 8000000 in
theorem tdrop_made (w0 w : World) (b o bh bl bb : Nat) (E : List (Int × (Value × List Int))) (t : Tbl) (tx : Int) (L : List HProp) (hs : S w0 w (tabM 3 b o bh bl bb E t :: L))
  (hb : ∀ k, (lineAt t k).length ≤ 1000000) (hh : t.hold.length ≤ 1000000) :
  Calls Tryz.prog 54 #[.pointer (some ⟨b, o, none⟩), .int .i64 tx] w fun e w' => ∃ v', e = .returned v' ∧
   S w0 w' (sl 44 2 v' (tbDrop t tx).2.length (pcells (tbDrop t tx).2) :: tabP 3 b o (tbDrop t tx).1 :: L) := by
 have hs1 := hs.alloc #[.int .i64 tx] 3
 obtain ⟨c0, c1, c2, m0, m2, m1⟩ := hs1.tail.tab_see
 have ct := hs1.blk_cell 0 rfl
 obtain ⟨_, _, _, _, m2d, _⟩ := hs1.drew.tail.tab_see
 have l2 := Tryz.look2 m2d tx
 clear m2d
 have hw : mget t.wait tx = if (mget t.wait tx).isSome then some ((mget t.wait tx).getD 0) else none := by cases mget t.wait tx <;> rfl
 generalize (mget t.wait tx).isSome = okb at l2 hw
 generalize (mget t.wait tx).getD 0 = k0 at l2 hw
 have H1 := hid hs1; have HB := hid hb; have HH := hid hh; have HW := hid hw
 clear hs hs1 hb hh hw m0 m1 m2
 go_enter Tryz.func54, Tryz.ntmps54
 go_wp2_with fail
 go_region
 go_upto_if 23 with fail
 go_cut [] (fun wx => ∃ E', S w0 wx (blk w.heap.size 3 [.int .i64 tx] :: tabM 3 b o bh bl bb E' (strikeT t tx) :: L))
 case first =>
  cases okb with
  | false =>
   have hw := HW.out
   rw [if_neg (by simp)] at hw
   go_wp2_with fail
   go_meet
   exact ⟨E, by rw [strikeT_none hw]; exact H1.out.drew⟩
  | true =>
   have hw := HW.out
   rw [if_pos rfl] at hw
   obtain ⟨w2, u2, hs2⟩ := H1.out.drew.drew.swap.tab_wait_del Tryz.keyInt (ty := 0) Tryz.underlying57 tx
   simp only [Sep.encI] at u2
   obtain ⟨hp, _⟩ := hs2.tab_parts
   have hx3 := line_of hp k0
   have hk := hs2.drew.tab_line k0
   have hbl := HB.out k0
   have hsee := hk.swap.tabX_see
   have lL := Tryz.lookL hsee.2.2.2.2.2 k0
   have d1 := hsee.2.1
   have ct2 := hk.rot3.blk_cell 0 rfl
   obtain ⟨al, cl, hvl, _, _, _⟩ := hk.sl_val
   have hk2 := hk.rot3.swap
   have hxl : (lineOf E k0).2 = lineAt t k0 := hx3
   rw [hvl] at lL hk2
   rw [hxl] at lL hk2
   have hst := strikeT_some hw
   have H2 := hid hk2; have HS := hid hst
   clear hs2 hk hk2 hsee hx3 hvl hxl hp hst hw HW
   go_wp2_with fail
   go_region
   go_wp2_with fail
   go_region_with (go_at_call 79; refine (delete1_any w0 _ al cl (lineAt t k0) tx w.heap.size _ H2.out hbl).mono ?_; rintro e w3 ⟨v3, rfl, hs3⟩; obtain ⟨_, e1, _⟩ := hs3.rot3.tabX_see; obtain ⟨w4, u4, hs4⟩ := S.tabX_put Tryz.keyInt Tryz.underlying90 (k := k0) (v := v3) (l := strike (lineAt t k0) tx) (hs3.rot3.swap); simp only [Sep.encI] at u4; have H4 := hid hs4; clear hs3 hs4)
   all_goals
    go_wp2_with fail
    go_meet
    exact ⟨_, by rw [HS.out]; exact H4.out.swap⟩
 case rest =>
  obtain ⟨E1, hsx⟩ := hcut
  have hth : (strikeT t tx).hold = t.hold := strikeT_hold t tx
  have hhd : holders (strikeT t tx) tx = holders t tx := by unfold holders; rw [hth]
  have hlb : ∀ k, (lineAt (strikeT t tx) k).length ≤ 1000000 := by
   intro k
   unfold strikeT
   cases mget t.wait tx with
   | none => exact HB.out k
   | some k1 =>
    unfold lineAt
    show ((mget (mput t.line k1 _) k).getD []).length ≤ _
    rw [mget_put]
    split
    ·exact Nat.le_trans (strike_le _ _) (HB.out k1)
    ·exact HB.out k
  have hd : tbDrop t tx = (sortI (holders t tx)).foldl dropStep (strikeT t tx, []) := by unfold tbDrop; rw [hhd]
  clear c0 c1 c2 ct l2 H1 HW HB
  have HLB := hid hlb
  clear hlb
  have hh2 : (strikeT t tx).hold.length ≤ 1000000 := by rw [hth]; exact HH.out
  clear hth HH hhd
  have hhd2 : holders (strikeT t tx) tx = holders t tx := by unfold holders; rw [strikeT_hold]
  generalize holders t tx = ks at hd hhd2
  have HHD := hid hhd2; have HH2 := hid hh2; have HD := hid hd
  clear hh2 hhd2 hd
  generalize strikeT t tx = t1 at hsx HHD HLB HH2 HD
  obtain ⟨hp, hq⟩ := hsx.swap.tab_parts
  obtain ⟨c0, _, _, _, _, _⟩ := hsx.swap.tab_see
  have ct := hsx.blk_cell 0 rfl
  obtain ⟨w3, ur, hs3⟩ := hq.swap.range (P := Tryz.prog) Tryz.underlying57
  have H3 := hid hs3; have HP := hid hp
  clear hsx hp hq hs3
  go_wp2_with fail
  go_loopg [7] (t1.hold.length) (fun n kv wr => ∃ dn : List (Int × Int), t1.hold.length ≤ dn.length + n ∧ S w0 wr (sl 3 1 kv (hk tx dn).length (icells (hk tx dn)) :: ranging Sep.encI (fun _ => True) bh wc.heap.size (ienc t1.hold) (ienc dn) :: cells b o [.map (some bh), .map (some bl), .map (some bb)] :: mp Sep.encI (fun _ => True) bb (ienc t1.wait) :: mp Sep.encI (fun _ => True) bl (E1.map fun p => (p.1, p.2.1)) :: all (E1.map (lrow 3)) :: blk w.heap.size 3 [.int .i64 tx] :: L))
  case atStart => exact ⟨[], by simp, H3.out.sl_nil⟩
  case round =>
   obtain ⟨dn, hn, hsr⟩ := hrel
   rcases hsr.swap.next Tryz.keyInt (ty := 0) with ⟨d, w4, hd1, hd2, hr, hs4⟩ | ⟨hall, hr⟩
   ·obtain ⟨p, hp, rfl⟩ := ienc_mem hd1
    have hent := hs4.entry (P := Tryz.prog)
    rw [ienc_snoc] at hs4
    simp only [Sep.encI] at hr hent
    have hlen : (dn ++ [p]).length ≤ t1.hold.length := by
     have h1 := hs4.ranging_sub
     have h2 := nodup_le h1.1 h1.2.1
     simpa [ienc] using h2
    have ct4 := (hs4.of_mem (A := blk w.heap.size 3 [.int .i64 tx]) (by simp)).blk_cell 0 rfl
    rw [List.length_append, List.length_singleton] at hlen
    have hh2 := HH2.out
    have hkl : (hk tx dn).length ≤ dn.length := by unfold hk; rw [List.length_map]; exact List.length_filter_le _ _
    by_cases hpx : p.2 = tx
    ·have hbe : (p.2 == tx) = true := by simp [hpx]
     obtain ⟨al, cl, rfl, _, _, _⟩ := hs4.swap.sl_val
     have hs5 := (hs4.swap.alloc #[.int .i64 p.1] 3)
     have hn5 := news_blk hs5
     have hkk : hk tx (dn ++ [p]) = hk tx dn ++ [p.1] := by rw [hk_snoc, if_pos hpx]
     have H5 := hid hs5.tail; have HN := hid hn5; have HK := hid hkk
     obtain ⟨i0, hi0, hz0, hz1, hz2⟩ := info_parts Tryz.info3
     have hil := icells_length (hk tx dn)
     have HL := hid hil
     clear hsr hs4 hs5 hn5 hkk hp hd1 hd2 hil hpx
     go_wp2_with (at_builtin; refine wpList_append rfl (.tmp 55) (.tmp 57) 30 rfl 3 i0 _ 1 8 Tryz.underlying30 hi0 hz0 hz1 hz2 rfl (by decide) H5.out rfl (some ⟨w4.heap.size, 0, none⟩) 1 1 [.int .i64 p.1] rfl rfl HN.out (by simp [Value.oneCell']) (by unfold maxLen; omega) (by omega) ?_; intro v1 w5 hs6; have H6 := hid hs6; clear hs6)
     go_roundg (gk - 1)
     case measure => omega
     case rel => exact ⟨dn ++ [p], by rw [List.length_append, List.length_singleton]; omega, by rw [HK.out, List.length_append, icells_append]; exact H6.out⟩
    ·have hbe : (p.2 == tx) = false := by simp [hpx]
     have hkk : hk tx (dn ++ [p]) = hk tx dn := by rw [hk_snoc, if_neg hpx]
     have H5 := hid hs4.swap; have HK := hid hkk
     clear hsr hs4 hkk hp hd1 hd2 hpx
     go_wp2_with fail
     go_roundg (gk - 1)
     case measure => omega
     case rel => exact ⟨dn ++ [p], by rw [List.length_append, List.length_singleton]; omega, by rw [HK.out]; exact H5.out⟩
   ·obtain ⟨hpd, hs4⟩ := hsr.swap.range_over hall
    have hpk : (hk tx dn).Perm ks := by rw [← HHD.out]; exact ((ienc_perm hpd).filter _).map _
    have hkl : (hk tx dn).length ≤ t1.hold.length := by
     have h1 := (ienc_perm hpd).length_eq
     have h2 : (hk tx dn).length ≤ dn.length := by unfold hk; rw [List.length_map]; exact List.length_filter_le _ _
     omega
    have hh2 := HH2.out
    generalize hk tx dn = kl at hpk hkl hs4
    have hse : sortI kl = sortI ks := sortI_of ((sortI_perm kl).trans hpk) (sortI_sorted kl)
    have hs5 := hs4.conv (M := cells b o [.map (some bh), .map (some bl), .map (some bb)] :: mp Sep.encI (fun _ => True) bh (ienc t1.hold) :: mp Sep.encI (fun _ => True) bb (ienc t1.wait) :: mp Sep.encI (fun _ => True) bl (E1.map fun p => (p.1, p.2.1)) :: all (E1.map (lrow 3)) :: sl 3 1 u7 kl.length (icells kl) :: blk w.heap.size 3 [.int .i64 tx] :: L) (by simp only [all]; ac_rfl)
    have hT := (S.tab_join (t := t1) HP.out hs5).swap
    have hkb : kl.length ≤ 4000000 := by omega
    have hkq : kl.length = (sortI ks).length := by rw [← hse, sortI_len]
    obtain ⟨ak, ck, rfl, hcap, hcap2, _⟩ := hT.sl_val
    unfold maxLen at hcap2
    have HT := hid hT; have HSE := hid hse; have HKQ := hid hkq
    clear hsr hs4 hs5 hT hse hpk hpd hall hkq
    go_wp2_with fail
    with_reducible refine (sort_ints w0 wr _ kl _ HT.out hkb).mono ?_
    rintro e w5 ⟨rfl, hs6⟩
    rw [HSE.out] at hs6
    have hkq := HKQ.out
    rw [hkq] at hs6 hkl hcap ⊢
    generalize sortI ks = ss at hs6 hkl HD hcap
    clear hkq HKQ HSE HT hkb
    have H6 := hid hs6
    clear hs6
    go_wp2_with fail
    have hss : ss.length ≤ 1000000 := by omega
    clear hkl hh2 hr
    have hs7 : S w0 w5 (sl 44 2 (.slice none 0 0) ([] : List (Int × Int)).length (pcells []) :: tabM 3 b o bh bl bb E1 t1 :: sl 3 1 (.slice ak ss.length ck) ss.length (icells ss) :: L) :=
     (H6.out.conv (M := blk w.heap.size 3 [.int .i64 tx] :: tabM 3 b o bh bl bb E1 t1 :: sl 3 1 (.slice ak ss.length ck) ss.length (icells ss) :: L) (by simp only [all]; ac_rfl)).tail.sl_nil
    have H7 := hid hs7
    clear hs7 H6
    go_loopw [10, 63] (fun ov iv wr => ∃ (i : Nat) (E2 : List (Int × (Value × List Int))), i ≤ ss.length ∧ iv = .int .i64 i ∧ ((ss.take i).foldl dropStep (t1, [])).2.length ≤ i ∧ S w0 wr (sl 44 2 ov ((ss.take i).foldl dropStep (t1, [])).2.length (pcells ((ss.take i).foldl dropStep (t1, [])).2) :: tabM 3 b o bh bl bb E2 ((ss.take i).foldl dropStep (t1, [])).1 :: sl 3 1 (.slice ak ss.length ck) ss.length (icells ss) :: L)) (fun _ iv _ => ss.length - (intOf iv).toNat)
    case atStart => exact ⟨0, E1, Nat.zero_le _, rfl, Nat.le_refl _, H7.out⟩
    case round =>
     obtain ⟨i, E2, hi, rfl, hol, hsr⟩ := hrel
     by_cases hlt : i < ss.length
     ·have hp : ss[i]? = some ss[i] := by simp [hlt]
      generalize ss[i] = k at hp
      have hst : (ss.take (i + 1)).foldl dropStep (t1, []) = dropStep ((ss.take i).foldl dropStep (t1, [])) k := by rw [take_succ_get hp, List.foldl_append]; rfl
      have HST := hid hst
      clear hst
      generalize (ss.take i).foldl dropStep (t1, []) = st at hol hsr HST
      obtain ⟨T2, out⟩ := st
      simp only at hol hsr
      obtain ⟨gk, ok, rfl, _, ck0⟩ := hsr.rot3.sl_int hp
      obtain ⟨hp2, _⟩ := hsr.swap.tab_parts
      have hln := line_of hp2 k
      have hsee := hsr.swap.tab_see
      have lL := Tryz.lookL hsee.2.2.2.2.2 k
      have c1 := hsee.2.1
      have hkl := hsr.swap.tab_line k
      obtain ⟨al, cl, hvl, hcl, hcl2, _⟩ := hkl.sl_val
      unfold maxLen at hcl2
      have hlk : (lineOf E2 k).2 = lineAt T2 k := hln
      rw [hvl] at lL hkl
      rw [hlk] at lL hkl hcl
      clear hp hsee hln hvl hlk hp2
      cases hq : lineAt T2 k with
      | nil =>
       rw [hq] at lL hcl
       simp only [List.length_nil] at lL
       obtain ⟨w6, u6, hs6⟩ := hsr.swap.tab_hold_del Tryz.keyInt (ty := 0) Tryz.underlying57 k
       simp only [Sep.encI] at u6
       have c0 := hsr.swap.tab_see.1
       have hds : dropStep (T2, out) k = ({ T2 with hold := mdel T2.hold k }, out) := by unfold dropStep; rw [hq]
       have H8 := hid hs6.swap; have HDS := hid hds
       clear hsr hkl hs6 hq hds
       go_wp2_with fail
       go_roundw
       case rel => exact ⟨i + 1, E2, by omega, by go_num, by rw [HST.out, HDS.out]; exact Nat.le_succ_of_le hol, by rw [HST.out, HDS.out]; exact H8.out⟩
       case measure => simp [intOf]; omega
      | cons x l =>
       rw [hq] at lL hcl hkl
       simp only [List.length_cons] at lL hcl hkl
       have hds : dropStep (T2, out) k = ({ hold := mput T2.hold k x, line := mput T2.line k l, wait := mdel T2.wait x }, out ++ [(k, x)]) := by unfold dropStep; rw [hq]
       obtain ⟨gx, ox, rfl, _, dx⟩ := hkl.sl_int (l := x :: l) (i := 0) (x := x) rfl
       rw [Nat.add_zero] at dx
       obtain ⟨av, hav⟩ : ∃ av : Option Addr, av = (if cl = 1 then some ⟨gx, ox, none⟩ else some ⟨gx, ox + 1, none⟩) := ⟨_, rfl⟩
       obtain ⟨u0, u1, s0, s1, x1, x2, x3, x4, r1, r2, r3, r4, keep, hx4⟩ := hkl.drew.swap.tab_assign2 Tryz.keyInt Tryz.underlying57 Tryz.underlying90 Tryz.zero_int Tryz.zero_ints x (.slice av l.length (cl - 1))
       simp only [Sep.encI] at r1 r2 r3
       have hs0 := hkl.drew.swap.tabX_see
       obtain ⟨a1, a2, a3, a4⟩ := keep _ _ hs0.1
       obtain ⟨b1, b2, b3, b4⟩ := keep _ _ hs0.2.1
       obtain ⟨d1, d2, d3, d4⟩ := keep _ _ (show (wr.drew).cell? ⟨gx, ox, none⟩ = _ from dx)
       have c0 := hsr.swap.tab_see.1
       have H8 := hid hx4; have HDS := hid hds
       clear hsr hkl keep hs0 hx4 hq hds
       obtain ⟨x5, r5, hx5⟩ := H8.out.drew.tabY_wait_del Tryz.keyInt (ty := 0) Tryz.underlying57 x
       simp only [Sep.encI] at r5
       have c2 := H8.out.drew.tabY_see.2.2
       have d5 := (hx5.swap.sl_int (l := x :: l) (i := 0) (x := x) rfl)
       obtain ⟨_, _, hge, _, d5⟩ := d5
       simp only [Option.some.injEq, Addr.mk.injEq] at hge
       obtain ⟨rfl, rfl, -⟩ := hge
       rw [Nat.add_zero] at d5
       have hx9 := S.sl_tail1 hx5.swap
       rw [← hav] at hx9
       have hx6 := S.tabY_back (l := l) hx9
       obtain ⟨ao, co, rfl, _, _, _⟩ := hx6.swap.sl_val
       have hx7 := hx6.swap.alloc #[.int .i64 k, .int .i64 x] 44
       have hn7 := news_blk hx7
       have hx8 := hx7.tail
       have H9 := hid hx8; have HN := hid hn7
       obtain ⟨i0, hi0, hz0, hz1, hz2⟩ := info_parts Tryz.info44
       clear hx5 hx6 hx7 hx8 hx9 hn7 H8
       by_cases hc1 : cl = 1
       case' pos =>
        subst hc1
        obtain rfl : l = [] := List.eq_nil_of_length_eq_zero (by omega)
        rw [if_pos rfl] at hav
        subst hav
        simp only [List.length_nil, Nat.zero_add, Nat.sub_self] at lL r4
       case' neg => rw [if_neg hc1] at hav; subst hav
       all_goals
        go_wp2_with fail
        go_region
        go_wp2_with fail
        go_region
        go_wp2_with (at_builtin; refine wpList_append rfl (.tmp 107) (.tmp 113) 37 rfl 44 i0 (.agg #[.int .i64 0, .int .i64 0]) 2 16 Tryz.underlying37 hi0 hz0 hz1 hz2 rfl (by decide) H9.out rfl (some ⟨x5.heap.size, 0, none⟩) 1 1 [.int .i64 k, .int .i64 x] rfl rfl HN.out (by simp [Value.oneCell']) (by unfold maxLen; omega) (by omega) ?_; intro v1 w5 hs6; have H6 := hid hs6; clear hs6)
        go_roundw
        case rel =>
         refine ⟨i + 1, ?_, by omega, by go_num, ?_, ?_⟩
         rotate_left
         ·rw [HST.out, HDS.out, List.length_append]; exact Nat.succ_le_succ hol
         ·rw [HST.out, HDS.out, List.length_append, pcells_append]; exact H6.out
        case measure => simp [intOf]; omega
     ·obtain rfl : i = ss.length := by omega
      rw [List.take_length, ← HD.out] at hsr
      have H9 := hid hsr
      clear hsr hol H7
      go_wp2_with fail
      go_ret
      exact ⟨_, rfl, (H9.out.rot3.tail.conv (M := sl 44 2 u10 (tbDrop t tx).2.length (pcells (tbDrop t tx).2) :: tabM 3 b o bh bl bb E2 (tbDrop t tx).1 :: L) (by simp only [all])).swap.tab_made.swap⟩
end Go.Proofs.YtcbokjocahnlcaaGreatDoor
/- The program's table of locks: who lets go, of whatever table; the fact of the law. -/
namespace Go.Proofs.YtcbokjocahnlcaaGreatDoor
open Go Go.RowKit Go.Sep
set_option maxRecDepth 40000 in
theorem tdrop_zero (w0 w : World) (b o : Nat) (tx : Int) (L : List HProp) (hs : S w0 w (cells b o [.map none, .map none, .map none] :: L)) :
  Calls Tryz.prog 54 #[.pointer (some ⟨b, o, none⟩), .int .i64 tx] w fun e w' => e = .returned (.slice none 0 0) ∧ S w0 w' (cells b o [.map none, .map none, .map none] :: L) := by
 have hs1 := hs.alloc #[.int .i64 tx] 3
 have c0 := hs1.swap.cells_cell 0 rfl
 have c1 := hs1.swap.cells_cell 1 rfl
 have c2 := hs1.swap.cells_cell 2 rfl
 rw [Nat.add_zero] at c0
 have ct := hs1.blk_cell 0 rfl
 have l2 := Tryz.look2n (w.alloc (.cells #[.int .i64 tx] 3)).drew tx
 have ur := run_range_none (P := Tryz.prog) Tryz.underlying57 (w.alloc (.cells #[.int .i64 tx] 3)).drew
 have hs2 := (hs1.alloc_obj (.mapIter none 0 #[] 0) (by simp)).drew
 have un := run_next_none (P := Tryz.prog) (ty := 0) hs2.obj
 have e1 : (w.alloc (.cells #[.int .i64 tx] 3)).heap.size = w.heap.size + 1 := by simp
 have e2 : (w.alloc (.cells #[.int .i64 tx] 3)).drew.heap.size = w.heap.size + 1 := by simp
 rw [e1] at un
 rw [e2] at ur
 have H1 := hid hs2
 clear hs hs1 hs2 e1 e2
 go_enter Tryz.func54, Tryz.ntmps54
 go_wp2_with fail
 go_region
 go_wp2_with fail
 refine wp_loop_rounds 1 ?_
 rw [rounds_succ]
 go_wp2_with fail
 with_reducible refine (Tryz.slices_Sort_int_none none 0 _).mono ?_
 rintro e w5 ⟨rfl, rfl⟩
 go_wp2_with fail
 refine wp_loop_rounds 1 ?_
 rw [rounds_succ]
 go_wp2_with fail
 go_ret
 exact ⟨rfl, H1.out.tail.tail⟩
theorem tdrop_any (w0 w : World) (b o : Nat) (t : Tbl) (tx : Int) (L : List HProp) (hs : S w0 w (tabP 3 b o t :: L)) (hb : ∀ k, (lineAt t k).length ≤ 1000000) (hh : t.hold.length ≤ 1000000) :
  Calls Tryz.prog 54 #[.pointer (some ⟨b, o, none⟩), .int .i64 tx] w fun e w' => ∃ v', e = .returned v' ∧
   S w0 w' (sl 44 2 v' (tbDrop t tx).2.length (pcells (tbDrop t tx).2) :: tabP 3 b o (tbDrop t tx).1 :: L) := by
 rcases hs.tab_cases with h0 | ⟨bh, bl, bb, E, h⟩
 ·obtain ⟨rfl, h1⟩ := h0.tab0_cells
  refine (tdrop_zero w0 w b o tx L h1).mono fun e w' ⟨he, h2⟩ => ⟨_, he, ?_⟩
  have e1 : tbDrop ⟨[], [], []⟩ tx = (⟨[], [], []⟩, []) := by simp [tbDrop, strikeT, mget_nil, holders, sortI]
  rw [e1]
  exact h2.tab_zero.sl_nil
 ·exact tdrop_made w0 w b o bh bl bb E t tx L h hb hh
end Go.Proofs.YtcbokjocahnlcaaGreatDoor
/- The program's engine: the small readers. -/
namespace Go.Proofs.YtcbokjocahnlcaaGreatDoor
open Go Go.RowKit Go.Sep
theorem strict_any (p : Nat) (level state : Int) (w : World) (h0 : w.cell? ⟨p, 0, none⟩ = some (.int .i64 level)) (h1 : w.cell? ⟨p, 1, none⟩ = some (.int .i64 state)) :
  Calls Tryz.prog 64 #[.pointer (some ⟨p, 0, none⟩)] w fun e w' => e = .returned (.bool (decide (level = 2) && decide (state ≠ 3))) ∧ w = w' := by
 by_cases hl : level = 2
 ·subst hl
  by_cases hs : state = 3
  ·subst hs
   go_enter Tryz.func64, Tryz.ntmps64
   go_wp2
   go_ret
   exact ⟨rfl, rfl⟩
  ·have hb : (state != 3) = true := by simpa using hs
   have HF := hid hs
   clear hs
   go_enter Tryz.func64, Tryz.ntmps64
   go_wp2
   go_ret
   exact ⟨by have := HF.out; show Ending.returned (.bool true) = _; simp [this], rfl⟩
 ·have hb : (level == 2) = false := by simpa using hl
  have HF := hid (show (decide (level = 2) && decide (state ≠ 3)) = false by simp [hl])
  clear hl
  go_enter Tryz.func64, Tryz.ntmps64
  go_wp2
  go_ret
  exact ⟨by rw [HF.out]; rfl, rfl⟩
theorem there_any (p : Nat) (state : Int) (w : World) (h1 : w.cell? ⟨p, 1, none⟩ = some (.int .i64 state)) :
  Calls Tryz.prog 77 #[.pointer (some ⟨p, 0, none⟩)] w fun e w' => e = .returned (.bool (state != 3)) ∧ w = w' := by
 go_enter Tryz.func77, Tryz.ntmps77
 go_wp2
 go_ret
 exact ⟨rfl, rfl⟩
def PtrsAt (w : World) (a : Option Addr) (bs : List Nat) (l : List Nat) : Prop := ∀ j p, l[j]? = some p → ∃ g o, a = some ⟨g, o, none⟩ ∧ w.cell? ⟨g, o + j, none⟩ = some (ptr bs p)
def IxPost (w : World) (st : Nat → Int) (l : List Nat) (e : Ending) (w' : World) : Prop := ∃ r : Int, e = .returned (.int .i64 r) ∧ -1 ≤ r ∧ (decide (0 ≤ r) = l.any fun p => decide (st p ≠ 3)) ∧ w = w'
set_option maxRecDepth 20000 in
theorem indexT_any (w : World) (a : Option Addr) (cap : Nat) (bs l : List Nat) (st : Nat → Int) (hl : PtrsAt w a bs l) (hs : ∀ p ∈ l, w.cell? ⟨blkOf bs p, 1, none⟩ = some (.int .i64 (st p))) (hb : l.length ≤ cap) (hc : cap ≤ maxLen) :
  Calls Tryz.prog 98 #[.slice a l.length cap, .func (.func 77) #[] #[]] w (IxPost w st l) := by
 unfold maxLen at hc
 have HL := hid hl; have HS := hid hs
 clear hl hs
 go_enter Tryz.func98, Tryz.ntmps98
 go_wp2_with fail
 go_loopw [8] (fun x wr => ∃ i : Nat, i ≤ l.length ∧ x = .int .i64 i ∧ Hid (∀ p ∈ l.take i, st p = 3) ∧ wr = w) (fun x _ => l.length - (intOf x).toNat)
 case atStart => exact ⟨0, Nat.zero_le _, rfl, hid (by simp), rfl⟩
 case round =>
  obtain ⟨i, hi, rfl, hno, rfl⟩ := hrel
  by_cases hlt : i < l.length
  ·have hp : l[i]? = some l[i] := by simp [hlt]
   generalize l[i] = p at hp
   obtain ⟨g, og, rfl, c1⟩ := HL.out _ _ hp
   have c2 := HS.out p (List.mem_of_getElem? hp)
   unfold ptr at c1
   have HP := hid hp
   clear hp
   by_cases hx : st p = 3
   ·have hn : Hid (∀ q ∈ l.take (i + 1), st q = 3) := hid (by
     rw [take_succ_get HP.out]
     intro q hq
     rcases List.mem_append.1 hq with hq | hq
     ·exact hno.out q hq
     ·simp only [List.mem_singleton] at hq; subst hq; exact hx)
    have hbe : (st p != 3) = false := by simp [hx]
    clear hx hno
    go_wp2_with (go_at_call 77; refine (there_any _ _ _ c2).mono ?_; rintro e w' ⟨rfl, rfl⟩)
    go_roundw
    case rel => exact ⟨i + 1, by omega, by go_num, hn, trivial⟩
    case measure => simp [intOf]; omega
   ·have hbe : (st p != 3) = true := by simpa using hx
    have HF := hid (show (l.any fun p => decide (st p ≠ 3)) = true by
     rw [List.any_eq_true]; exact ⟨p, List.mem_of_getElem? HP.out, by simpa using hx⟩)
    clear hx hno
    go_wp2_with (go_at_call 77; refine (there_any _ _ _ c2).mono ?_; rintro e w' ⟨rfl, rfl⟩)
    go_ret
    exact ⟨i, rfl, by omega, by rw [HF.out]; simp, rfl⟩
  ·have HF := hid (show (l.any fun p => decide (st p ≠ 3)) = false by
    rw [List.any_eq_false]
    intro p hp
    have := hno.out p (by rw [List.take_of_length_le (by omega)]; exact hp)
    simp [this])
   clear hno
   go_wp2_with fail
   go_ret
   exact ⟨-1, rfl, by omega, by rw [HF.out]; simp, rfl⟩
theorem containsT_any (w : World) (a : Option Addr) (cap : Nat) (bs l : List Nat) (st : Nat → Int) (hl : PtrsAt w a bs l) (hs : ∀ p ∈ l, w.cell? ⟨blkOf bs p, 1, none⟩ = some (.int .i64 (st p))) (hb : l.length ≤ cap) (hc : cap ≤ maxLen) :
  Calls Tryz.prog 78 #[.slice a l.length cap, .func (.func 77) #[] #[]] w fun e w' => e = .returned (.bool (l.any fun p => decide (st p ≠ 3))) ∧ w = w' := by
 have HC := hid (indexT_any w a cap bs l st hl hs hb hc)
 clear hl hs
 go_enter Tryz.func78, Tryz.ntmps78
 go_wp2_with fail
 with_reducible refine HC.out.mono ?_
 rintro e w' ⟨r, rfl, hr, hd, rfl⟩
 have HD := hid hd
 clear hd
 go_wp2_with fail
 go_ret
 exact ⟨by rw [← HD.out]; rfl, rfl⟩
theorem middle_any (w : World) (p : Nat) (v : TxV) (x : Tx) (bs : List Nat) (st : Nat → Int) (hx : TxC w bs p v x) (af ag : Option Addr) (cf cg : Nat) (hf : v.fv = .slice af x.fore.length cf) (hg : v.av = .slice ag x.aft.length cg) (hlf : PtrsAt w af bs x.fore) (hlg : PtrsAt w ag bs x.aft)
  (hs : ∀ p ∈ x.fore ++ x.aft, w.cell? ⟨blkOf bs p, 1, none⟩ = some (.int .i64 (st p))) (hb1 : x.fore.length ≤ cf) (hc1 : cf ≤ maxLen) (hb2 : x.aft.length ≤ cg) (hc2 : cg ≤ maxLen) :
  Calls Tryz.prog 52 #[.pointer (some ⟨p, 0, none⟩)] w fun e w' => e = .returned (.bool ((x.fore.any fun p => decide (st p ≠ 3)) && (x.aft.any fun p => decide (st p ≠ 3)))) ∧ w = w' := by
 have h1 := containsT_any w af cf bs x.fore st hlf (fun p hp => hs p (by simp [hp])) hb1 hc1
 have h2 := containsT_any w ag cg bs x.aft st hlg (fun p hp => hs p (by simp [hp])) hb2 hc2
 have c9 := hx.fore
 have c10 := hx.aft
 rw [hf] at c9
 rw [hg] at c10
 generalize (x.fore.any fun p => decide (st p ≠ 3)) = b1 at h1 ⊢
 generalize (x.aft.any fun p => decide (st p ≠ 3)) = b2 at h2 ⊢
 have H1 := hid h1; have H2 := hid h2
 clear h1 h2 hx hf hg hlf hlg hs hb1 hc1 hb2 hc2
 cases b1
 ·go_enter Tryz.func52, Tryz.ntmps52
  go_wp2_with fail
  with_reducible refine H1.out.mono ?_
  rintro e w' ⟨rfl, rfl⟩
  go_wp2_with fail
  go_ret
  exact ⟨rfl, rfl⟩
 ·go_enter Tryz.func52, Tryz.ntmps52
  go_wp2_with fail
  with_reducible refine H1.out.mono ?_
  rintro e w' ⟨rfl, rfl⟩
  go_wp2_with fail
  with_reducible refine H2.out.mono ?_
  rintro e w' ⟨rfl, rfl⟩
  go_wp2_with fail
  go_ret
  exact ⟨by simp, rfl⟩
theorem middle_eng (w0 w : World) (b : Nat) (bs : List Nat) (k : EngV) (e : Eng) (i : Nat) (L : List HProp) (hs : S w0 w (engO b bs k e :: L)) (hi : i < e.txs.length) (hr : ∀ j ∈ (e.tx i).fore ++ (e.tx i).aft, j < e.txs.length) :
  Calls Tryz.prog 52 #[.pointer (some ⟨blkOf bs i, 0, none⟩)] w fun r w' => r = .returned (.bool (e.middle i)) ∧ w = w' := by
 have hx := (hs.eng_txc hi).2
 obtain ⟨af, cf, h1, h2, h3, h4⟩ := hx.fs
 obtain ⟨ag, cg, g1, g2, g3, g4⟩ := hx.as_
 exact middle_any w (blkOf bs i) (k.v i) (e.tx i) bs (fun p => (e.tx p).state) hx af ag cf cg h1 g1 h4 g4 (fun p hp => (hs.eng_txc (hr p hp)).2.state) h2 h3 g2 g3
theorem strict_eng (w0 w : World) (b : Nat) (bs : List Nat) (k : EngV) (e : Eng) (i : Nat) (L : List HProp) (hs : S w0 w (engO b bs k e :: L)) (hi : i < e.txs.length) :
  Calls Tryz.prog 64 #[.pointer (some ⟨blkOf bs i, 0, none⟩)] w fun r w' => r = .returned (.bool (e.tx i).strict) ∧ w = w' := by
 have hx := (hs.eng_txc hi).2
 exact strict_any (blkOf bs i) (e.tx i).level (e.tx i).state w hx.level hx.state
end Go.Proofs.YtcbokjocahnlcaaGreatDoor
/- The program's engine: two transactions at once, one of which is ahead of the other one. No walk in sight. -/
namespace Go.Proofs.YtcbokjocahnlcaaGreatDoor
open Go Go.RowKit Go.Sep
variable {w w0 : World} {L : List HProp} {b : Nat} {bs : List Nat} {k : EngV} {e : Eng} {i j : Nat}
theorem txK_parts (bs : List Nat) (b : Nat) (v : TxV) (x : Tx) : txK bs b v x = sep (blk b 85 (txF v x)) (sep (sl 98 2 v.rv x.reads.length (pcells x.reads)) (sep (mp encI (fun _ => True) v.mb (ienc x.writes)) (sep (sl 75 1 v.fv x.fore.length (ptrs bs x.fore)) (sl 75 1 v.av x.aft.length (ptrs bs x.aft))))) := rfl
theorem Eng.note_txs (e : Eng) (hi : i < e.txs.length) (hj : j < e.txs.length) (hij : i ≠ j) : (e.note i j).txs = (e.txs.set i { e.tx i with aft := (e.tx i).aft ++ [j] }).set j { e.tx j with fore := (e.tx j).fore ++ [i] } := by
 unfold Eng.note
 rw [Eng.upd_set (by rw [Eng.upd_len]; exact hj), Eng.upd_ne hij, Eng.upd_set hi]
def twoX (b : Nat) (bs : List Nat) (k : EngV) (e : Eng) (i j : Nat) : HProp :=
 sep (blk (blkOf bs i) 85 (txF (k.v i) (e.tx i))) (sep (sl 98 2 (k.v i).rv (e.tx i).reads.length (pcells (e.tx i).reads)) (sep (mp encI (fun _ => True) (k.v i).mb (ienc (e.tx i).writes)) (sep (sl 75 1 (k.v i).fv (e.tx i).fore.length (ptrs bs (e.tx i).fore))
  (sep (blk (blkOf bs j) 85 (txF (k.v j) (e.tx j))) (sep (sl 98 2 (k.v j).rv (e.tx j).reads.length (pcells (e.tx j).reads)) (sep (mp encI (fun _ => True) (k.v j).mb (ienc (e.tx j).writes)) (sep (sl 75 1 (k.v j).av (e.tx j).aft.length (ptrs bs (e.tx j).aft))
  (sep (pur (k.tv.length = e.txs.length)) (engG b bs k.txv k.hv k.wb e.txs.length e.count e.wr e.hist (((txPs bs k.tv e.txs).set i emp).set j emp))))))))))
theorem _root_.Go.Sep.S.eng_two (h : S w0 w (engO b bs k e :: L)) (hi : i < e.txs.length) (hj : j < e.txs.length) (hij : i ≠ j) :
  S w0 w (sl 75 1 (k.v i).av (e.tx i).aft.length (ptrs bs (e.tx i).aft) :: sl 75 1 (k.v j).fv (e.tx j).fore.length (ptrs bs (e.tx j).fore) :: twoX b bs k e i j :: L) := by
 obtain ⟨hp, h⟩ := h.sep_elim.pur_elim
 have hli : i < (txPs bs k.tv e.txs).length := by rw [txPs_length]; exact hi
 have h1 := h.engG_out i hli
 rw [txPs_get hli] at h1
 have hlj : j < ((txPs bs k.tv e.txs).set i emp).length := by rw [List.length_set, txPs_length]; exact hj
 have h2 := h1.swap.engG_out j hlj
 rw [List.getElem_set_ne hij, txPs_get] at h2
 have h3 := S.pur_intro hp h2
 refine h3.conv ?_
 simp only [all, twoX]
 rw [show (k.tv[i]?).getD .none = k.v i from rfl, show (k.tv[j]?).getD .none = k.v j from rfl, show (e.txs[i]?).getD .zero = e.tx i from rfl, show (e.txs[j]?).getD .zero = e.tx j from rfl, txK_parts, txK_parts]
 ac_rfl
theorem two_blks (w0 : World) (b : Nat) (bs : List Nat) (k : EngV) (e : Eng) (i j : Nat) : ∃ Y, (∀ W M, S w0 W (twoX b bs k e i j :: M) → S w0 W (blk (blkOf bs i) 85 (txF (k.v i) (e.tx i)) :: blk (blkOf bs j) 85 (txF (k.v j) (e.tx j)) :: Y :: M)) ∧
  Y = sep (sl 98 2 (k.v i).rv (e.tx i).reads.length (pcells (e.tx i).reads)) (sep (mp encI (fun _ => True) (k.v i).mb (ienc (e.tx i).writes)) (sep (sl 75 1 (k.v i).fv (e.tx i).fore.length (ptrs bs (e.tx i).fore))
  (sep (sl 98 2 (k.v j).rv (e.tx j).reads.length (pcells (e.tx j).reads)) (sep (mp encI (fun _ => True) (k.v j).mb (ienc (e.tx j).writes)) (sep (sl 75 1 (k.v j).av (e.tx j).aft.length (ptrs bs (e.tx j).aft))
  (sep (pur (k.tv.length = e.txs.length)) (engG b bs k.txv k.hv k.wb e.txs.length e.count e.wr e.hist (((txPs bs k.tv e.txs).set i emp).set j emp)))))))) :=
 ⟨_, fun W M hW => hW.conv (by simp only [all, twoX]; ac_rfl), rfl⟩
theorem _root_.Go.Sep.S.two_cells (h : S w0 w (twoX b bs k e i j :: L)) : w.cell? ⟨blkOf bs i, 10, none⟩ = some (k.v i).av ∧ w.cell? ⟨blkOf bs j, 9, none⟩ = some (k.v j).fv ∧ w.frozen? ⟨blkOf bs i, 10, none⟩ = false ∧ w.frozen? ⟨blkOf bs j, 9, none⟩ = false := by
 obtain ⟨Y, hY, _⟩ := two_blks w0 b bs k e i j
 have h1 := hY w L h
 exact ⟨h1.blk_cell 10 rfl, h1.tail.blk_cell 9 rfl, h1.blk_free 10, h1.tail.blk_free 9⟩
theorem _root_.Go.Sep.S.two_close {av fv : Value} (hi : i < e.txs.length) (hj : j < e.txs.length) (hij : i ≠ j) (h : S w0 w (sl 75 1 av ((e.tx i).aft.length + 1) (ptrs bs (e.tx i).aft ++ [ptr bs j]) :: sl 75 1 fv ((e.tx j).fore.length + 1) (ptrs bs (e.tx j).fore ++ [ptr bs i]) :: twoX b bs k e i j :: L)) :
  ∃ k', k'.txv = k.txv ∧ S w0 ((w.setCell ⟨blkOf bs i, 10, none⟩ av).setCell ⟨blkOf bs j, 9, none⟩ fv) (engO b bs k' (e.note i j) :: L) := by
 have h0 : S w0 w (twoX b bs k e i j :: sl 75 1 av ((e.tx i).aft.length + 1) (ptrs bs (e.tx i).aft ++ [ptr bs j]) :: sl 75 1 fv ((e.tx j).fore.length + 1) (ptrs bs (e.tx j).fore ++ [ptr bs i]) :: L) := h.rot3
 obtain ⟨Y, hY, rfl⟩ := two_blks w0 b bs k e i j
 have h1 := (hY _ _ h0).blk_set 10 (by simp [txF]) av
 have h2 := h1.swap.blk_set 9 (by simp [txF]) fv
 let xi : Tx := { e.tx i with aft := (e.tx i).aft ++ [j] }
 let xj : Tx := { e.tx j with fore := (e.tx j).fore ++ [i] }
 let vi : TxV := { k.v i with av := av }
 let vj : TxV := { k.v j with fv := fv }
 have hp : k.tv.length = e.txs.length := by
  have h3 : S w0 _ (pur (k.tv.length = e.txs.length) :: _) := h2.conv (M := pur (k.tv.length = e.txs.length) :: blk (blkOf bs j) 85 ((txF (k.v j) (e.tx j)).set 9 fv) :: blk (blkOf bs i) 85 ((txF (k.v i) (e.tx i)).set 10 av) :: sl 98 2 (k.v i).rv (e.tx i).reads.length (pcells (e.tx i).reads) :: mp encI (fun _ => True) (k.v i).mb (ienc (e.tx i).writes) :: sl 75 1 (k.v i).fv (e.tx i).fore.length (ptrs bs (e.tx i).fore) ::
   sl 98 2 (k.v j).rv (e.tx j).reads.length (pcells (e.tx j).reads) :: mp encI (fun _ => True) (k.v j).mb (ienc (e.tx j).writes) :: sl 75 1 (k.v j).av (e.tx j).aft.length (ptrs bs (e.tx j).aft) :: engG b bs k.txv k.hv k.wb e.txs.length e.count e.wr e.hist (((txPs bs k.tv e.txs).set i emp).set j emp) ::
   sl 75 1 av ((e.tx i).aft.length + 1) (ptrs bs (e.tx i).aft ++ [ptr bs j]) :: sl 75 1 fv ((e.tx j).fore.length + 1) (ptrs bs (e.tx j).fore ++ [ptr bs i]) :: L) (by simp only [all]; ac_rfl)
  exact h3.pur_elim.1
 have h3 : S w0 ((w.setCell ⟨blkOf bs i, 10, none⟩ av).setCell ⟨blkOf bs j, 9, none⟩ fv) (txK bs (blkOf bs j) vj xj :: engG b bs k.txv k.hv k.wb e.txs.length e.count e.wr e.hist (((txPs bs k.tv e.txs).set i emp).set j emp) :: txK bs (blkOf bs i) vi xi :: pur (k.tv.length = e.txs.length) :: L) := by
  refine h2.conv ?_
  rw [txK_parts, txK_parts]
  have e1 : (txF (k.v i) (e.tx i)).set 10 av = txF vi xi := rfl
  have e2 : (txF (k.v j) (e.tx j)).set 9 fv = txF vj xj := rfl
  have e3 : ptrs bs (e.tx i).aft ++ [ptr bs j] = ptrs bs xi.aft := by simp [ptrs, xi]
  have e4 : ptrs bs (e.tx j).fore ++ [ptr bs i] = ptrs bs xj.fore := by simp [ptrs, xj]
  have e5 : (e.tx i).aft.length + 1 = xi.aft.length := by simp [xi]
  have e6 : (e.tx j).fore.length + 1 = xj.fore.length := by simp [xj]
  rw [e1, e2, e3, e4, e5, e6]
  simp only [all]
  show _ = sep (sep _ (sep (sl _ 2 (k.v j).rv (e.tx j).reads.length (pcells (e.tx j).reads)) (sep (mp encI (fun _ => True) (k.v j).mb (ienc (e.tx j).writes)) (sep (sl _ 1 fv _ _) (sl _ 1 (k.v j).av (e.tx j).aft.length (ptrs bs (e.tx j).aft)))))) (sep _ (sep (sep _ (sep (sl _ 2 (k.v i).rv (e.tx i).reads.length (pcells (e.tx i).reads)) (sep (mp encI (fun _ => True) (k.v i).mb (ienc (e.tx i).writes)) (sep (sl _ 1 (k.v i).fv (e.tx i).fore.length (ptrs bs (e.tx i).fore)) (sl _ 1 av _ _))))) _))
  ac_rfl
 have hlj : j < ((txPs bs k.tv e.txs).set i emp).length := by rw [List.length_set, txPs_length]; exact hj
 have h4 := S.engG_in hlj h3
 rw [List.set_comm _ _ hij] at h4
 have hli : i < ((txPs bs k.tv e.txs).set j (txK bs (blkOf bs j) vj xj)).length := by rw [List.length_set, txPs_length]; exact hi
 have h5 := S.engG_in hli h4.swap
 rw [txPs_set hj (by omega), txPs_set (by simpa using hi) (by simp; omega)] at h5
 obtain ⟨_, h6⟩ := h5.swap.pur_elim
 refine ⟨(k.set j vj).set i vi, rfl, ?_⟩
 have hnt := Eng.note_txs e hi hj hij
 rw [List.set_comm _ _ hij] at hnt
 refine .sep_intro (.pur_intro ?_ ?_)
 ·rw [Eng.note_len]; simpa [EngV.set] using hp
 ·have e7 : engG b bs k.txv k.hv k.wb e.txs.length e.count e.wr e.hist (txPs bs ((k.tv.set j vj).set i vi) ((e.txs.set j xj).set i xi)) = engG b bs ((k.set j vj).set i vi).txv ((k.set j vj).set i vi).hv ((k.set j vj).set i vi).wb (e.note i j).txs.length (e.note i j).count (e.note i j).wr (e.note i j).hist (txPs bs ((k.set j vj).set i vi).tv (e.note i j).txs) := by
   rw [hnt]
   simp only [EngV.set, List.length_set]
   rfl
  rw [← e7]; exact h6
end Go.Proofs.YtcbokjocahnlcaaGreatDoor
/- Regions in which several slices are made: what each step leaves, whatever the order. -/
namespace Go.Sep
open Go Go.RowKit
variable {w w0 w' : World} {L M : List HProp} {A : HProp}
theorem S.join (h : S w0 w L) (hM : S w w' M) : S w0 w' (M ++ L) := S.unpack (h.add hM.1 hM.2)
theorem S.nth (h : S w0 w L) (i : Nat) (hi : L[i]? = some A) : S w0 w (A :: L.eraseIdx i) := by
 obtain ⟨hl, rfl⟩ := List.getElem?_eq_some_iff.1 hi
 exact h.conv (by rw [all_pick L i hl]; rfl)
def SB (w0 w : World) (n : Nat) (L : List HProp) : Prop := S w0 w L ∧ w.heap.size = n
theorem SB.base (h : S w0 w L) : SB w0 w w.heap.size L := ⟨h, rfl⟩
theorem SB.getD {n : Nat} (h : SB w0 w n L) : S w0 w.drew L := h.1.drew
variable {P : Program}
end Go.Sep
namespace Go.Proofs.YtcbokjocahnlcaaGreatDoor
open Go Go.RowKit Go.Sep
end Go.Proofs.YtcbokjocahnlcaaGreatDoor
/- Regions in which slices of structs are made: what each step leaves, whatever the order. -/
namespace Go.Sep
open Go Go.RowKit
variable {w w0 : World} {L : List HProp}
theorem S.news_slK {e size : Nat} {ad : Option Addr} {m c : Nat} {xs : List Value} (h : S w0 w L) (k : Nat) (hk : L[k]? = some (sl e size (.slice ad m c) m xs)) : ∀ j u, xs[j]? = some u → ∃ b, ad = some b ∧ w.cell? (b.add j) = some u := by
 intro j u hj
 obtain ⟨a, cap, hv, _, _, hc⟩ := (h.nth k hk).sl_val
 obtain ⟨g, o, ha, hcell, _⟩ := hc j u hj
 simp only [Value.slice.injEq] at hv
 refine ⟨⟨g, o, none⟩, by rw [hv.1, ha], ?_⟩
 have e1 : (⟨g, o, none⟩ : Addr).add j = ⟨g, o + j, none⟩ := by unfold Addr.add; split <;> simp_all
 rw [e1]; exact hcell
theorem S.rest {M N : List HProp} (h : S w0 w (M ++ N)) : S w0 w N := (S.pack M N h).tail
variable {P : Program}
end Go.Sep
namespace Go.Sep
open Go
section
open Go.RowKit
variable {P : Program} {w w0 : World} {L : List HProp}
theorem S.alloc_slU {e size : Nat} (h : S w0 w L) (xs : List Value) (n : Nat) (hl : xs.length = n * size) (hm : n ≤ maxLen) :
  S w0 (w.alloc (.cells xs.toArray e)) (sl e size (.slice (some ⟨w.heap.size, 0, none⟩) n n) n xs :: L) := (h.alloc xs.toArray e).sl_blk (by simpa using hl) hm
theorem step_appU {ops : Array Oper} {o : Oper} {a : Act} {K : Act → World → Prop} {Q : Exit → Act → World → Prop} {E : Prop} (hg : o.guard = none) (s x : Operand) (t : TypeId)
  (hop : o.op = .call { callee := .builtin .append, args := #[s, x], argTypes := #[t, t] })
  (e : TypeId) (i : TypeInfo) (z : Value) (size bytes : Nat) (ht : P.underlying t = some (.slice e)) (hi : P.info? e = some i) (hz : i.zero = some z)
  (hsize : i.size = size) (hby : i.bytes = bytes) (hzs : z.cells.size = size) (hsz : 0 < size) (hW : S w0 w L) (ix : Nat) {v : Value} {n : Nat} {xs : List Value} (hix : L[ix]? = some (sl e size v n xs)) (hv : a.eval s = v)
  (ad : Option Addr) (m c : Nat) (news : List Value) (hx : a.eval x = .slice ad m c) (hl : news.length = m * size) (hnews : ∀ j u, news[j]? = some u → ∃ b, ad = some b ∧ w.cell? (b.add j) = some u) (h1 : ∀ u ∈ news, u.oneCell' = true)
  (h63 : n + m ≤ 1000000000000) (hb8 : bytes ≤ 100)
  (h : ∀ v' w', S w0 w' (sl e size v' (n + m) (xs ++ news) :: L.eraseIdx ix) → K (a.put o.dst v') w') : if Region.wanted o (yielded ops a.tmps) = true then Oper.wp P o a w K Q else E :=
 step_append hg s x t hop e i z size bytes ht hi hz hsize hby hzs hsz (hW.nth ix hix) hv ad m c news hx hl hnews h1 (by unfold maxLen; omega)
  (by have := Nat.mul_le_mul h63 hb8; omega) h
end
variable {P : Program} {md : Region.Mode} {ops : Array Oper} {Q : Exit → Act → World → Prop} {S : World → Prop} {u : Nat}
def anyU (P : Program) (md : Region.Mode) (ops : Array Oper) (Q : Exit → Act → World → Prop) (S : World → Prop) (u : Nat) : Nat → Array Bool → Act → World → Prop
 | 0, listed, a, w => Region.ready md ops listed = [] ∧ Q .normal a w
 | n + 1, listed, a, w => (Region.ready md ops listed = [] → Q .normal a w) ∧
  ∀ i ∈ Region.ready md ops listed, wpOp P ops Q i (fun a' w' => ((listed.setIfInBounds i true).getD u true = false → S w') ∧ anyU P md ops Q S u n (listed.setIfInBounds i true) a' w') a w
theorem any_of_U : ∀ (n : Nat) (listed : Array Bool) (a : Act) (w : World), anyU P md ops Q S u n listed a w → wpAny P md ops Q n listed a w
 | 0, _, _, _, h => h
 | n + 1, _, _, _, h => ⟨h.1, fun i hi => wpOp_mono (fun a' w' g => any_of_U n _ a' w' g.2) (h.2 i hi)⟩
theorem region_U {id : Nat} {a : Act} {w : World} (hm : P.follows .mixedOrders = true) (hS : S w.drew)
  (h : S w.drew → anyU P .any ops Q S u ops.size (Array.replicate ops.size false) a w.drew) : (Code.region id ops true).wp P Q a w :=
 wp_region_any hm (any_of_U _ _ _ _ (h hS))
def waitsFor (md : Region.Mode) (ops : Array Oper) (u i : Nat) : Bool := match ops[u]? with
 | some o => o.after.any fun e => Region.binds md e && e.on == i
 | none => false
theorem not_listed {listed : Array Bool} {i : Nat} (h : listed.getD i true = false) : listed.getD i false = false := by
 rcases Nat.lt_or_ge i listed.size with h' | h'
 ·simp [h'] at h ⊢; exact h
 ·simp [Array.getElem?_eq_none h'] at h
theorem waits_not_ready {listed : Array Bool} {i : Nat} (hw : waitsFor md ops u i = true) (hi : listed.getD i true = false) : u ∉ Region.ready md ops listed := by
 intro hu
 obtain ⟨_, o, ho, hall⟩ := mem_ready.1 hu
 unfold waitsFor at hw
 rw [ho] at hw
 simp only [Array.any_eq_true, Bool.and_eq_true, beq_iff_eq] at hw
 obtain ⟨j, hj, hb, he⟩ := hw
 have := hall _ (Array.getElem_mem hj) hb
 rw [he, not_listed hi] at this
 cases this
theorem anyU_first {i : Nat} {oi : Oper} {v : Value} {c : Bool} (hi : ops[i]? = some oi) (hsel : Region.noSelect ops = true) (hQ : ∀ d a w, Q (.panic d) (a.put oi.dst v) w → Q (.panic d) a w) (hiu : i ≠ u) (hc : c = true → waitsFor md ops u i = true) :
  ∀ (n : Nat) (listed : Array Bool) (a : Act) (w : World), (c = true → listed.getD u true = false) → Region.free md ops listed i = true → i ∈ Region.ready md ops listed → YieldsIf P ops (fun w => c = true → S w) oi v a → (c = true → S w) → (listed.getD u true = false → S w) →
   anyU P md ops Q S u n (listed.setIfInBounds i true) (a.put oi.dst v) w → anyU P md ops Q S u (n + 1) listed a w := by
 have fr : ∀ (listed : Array Bool) (j : Nat), j ≠ i → Region.free md ops listed i = true → Region.free md ops (listed.setIfInBounds j true) i = true := by
  intro listed j hji h
  unfold Region.free at h ⊢
  rw [hi] at h ⊢
  simp only [List.all_eq_true, List.mem_range] at h ⊢
  intro k hk
  have hk' := h k hk
  by_cases hjk : j = k
  ·subst hjk
   rcases Nat.lt_or_ge j listed.size with hl | hl
   ·simp [hl]
   ·rw [Array.setIfInBounds_eq_of_size_le hl]; exact hk'
  ·rw [getD_set_ne true hjk]; exact hk'
 intro n
 induction n with
 | zero =>
  intro listed a w _ _ hr hy hS hU H
  refine ⟨fun h => (by rw [h] at hr; cases hr), fun j hj => ?_⟩
  by_cases hji : j = i
  ·subst hji
   exact hy.wpOp hi hS ⟨fun hu => hU (by rw [getD_set_ne true hiu] at hu; exact hu), H⟩
  ·have := ready_mono hj hji
   rw [H.1] at this
   cases this
 | succ n ih =>
  intro listed a w hcu hfree hr hy hS hU H
  refine ⟨fun h => (by rw [h] at hr; cases hr), fun j hj => ?_⟩
  by_cases hji : j = i
  ·subst hji
   exact hy.wpOp hi hS ⟨fun hu => hU (by rw [getD_set_ne true hiu] at hu; exact hu), H⟩
  ·have h1 := H.2 j (ready_mono hj hji)
   obtain ⟨hjun, oj, hoj, hall⟩ := mem_ready.1 hj
   have hir := (mem_ready.1 hr).1
   have hnot : ∀ e ∈ oj.after, Region.binds md e = true → e.on ≠ i := fun e he hb heq => by
    have g := hall e he hb
    rw [heq, not_listed hir] at g; cases g
   have hap := Region.free_spec hi hfree j oj hoj hji hjun hnot
   have h2 := wpOp_putIf hoj hap (fun cs b => Region.noSelect_spec hsel i oi cs b hi) (fun cs b => Region.noSelect_spec hsel j oj cs b hoj) hQ hy h1
   have hcomm : ((listed.setIfInBounds i true).setIfInBounds j true) = ((listed.setIfInBounds j true).setIfInBounds i true) := Array.setIfInBounds_comm _ _ (Ne.symm hji)
   rw [hcomm] at h2
   refine wpOp_mono (fun a' w' h3 => ?_) h2
   obtain ⟨hy', hS', H'⟩ := h3
   have hS1 : (listed.setIfInBounds j true).getD u true = false → S w' := fun hu => hS' (by rw [getD_set_ne true hiu]; exact hu)
   have hcu' : c = true → (listed.setIfInBounds j true).getD u true = false := fun hcc => by
    have hju : j ≠ u := fun e => by subst e; exact waits_not_ready (hc hcc) hir hj
    rw [getD_set_ne true hju]; exact hcu hcc
   exact ⟨hS1, ih _ a' w' hcu' (fr _ _ hji hfree) (ready_mono hr (Ne.symm hji)) hy' (fun hcc => hS1 (hcu' hcc)) hS1 H'⟩
theorem anyU_take {i : Nat} {oi : Oper} {v : Value} {n : Nat} {listed : Array Bool} {a : Act} {w : World} (hi : ops[i]? = some oi)
  (hs : (Region.noSelect ops && waitsFor md ops u i && !(i == u) && !(listed.getD u true) && Region.free md ops listed i && (Region.ready md ops listed).contains i) = true)
  (hQ : ∀ c a w, Q (.panic c) (a.put oi.dst v) w → Q (.panic c) a w) (hy : YieldsIf P ops S oi v a) (hS : S w)
  (h : anyU P md ops Q S u n (listed.setIfInBounds i true) (a.put oi.dst v) w) : anyU P md ops Q S u (n + 1) listed a w := by
 simp only [Bool.and_eq_true, Bool.not_eq_true', beq_eq_false_iff_ne, ne_eq] at hs
 obtain ⟨⟨⟨⟨⟨h1, h2⟩, h3⟩, h4⟩, h5⟩, h6⟩ := hs
 exact anyU_first (c := true) hi h1 hQ h3 (fun _ => h2) n listed a w (fun _ => h4) h5 (by simpa using h6) (by unfold YieldsIf at hy ⊢; exact hy.imp (fun ⟨a, b⟩ => ⟨a, fun w hw => b w (hw rfl)⟩) id) (fun _ => hS) (fun _ => hS) h
theorem anyU_pure {i : Nat} {oi : Oper} {v : Value} {n : Nat} {listed : Array Bool} {a : Act} {w : World} (hi : ops[i]? = some oi)
  (hs : (Region.noSelect ops && !(i == u) && Region.free md ops listed i && (Region.ready md ops listed).contains i) = true)
  (hQ : ∀ c a w, Q (.panic c) (a.put oi.dst v) w → Q (.panic c) a w) (hy : YieldsIf P ops (fun _ => True) oi v a) (hS : listed.getD u true = false → S w)
  (h : anyU P md ops Q S u n (listed.setIfInBounds i true) (a.put oi.dst v) w) : anyU P md ops Q S u (n + 1) listed a w := by
 simp only [Bool.and_eq_true, Bool.not_eq_true', beq_eq_false_iff_ne, ne_eq] at hs
 obtain ⟨⟨⟨h1, h3⟩, h5⟩, h6⟩ := hs
 exact anyU_first (c := false) hi h1 hQ h3 (by simp) n listed a w (by simp) h5 (by simpa using h6) (by unfold YieldsIf at hy ⊢; exact hy.imp (fun ⟨a, b⟩ => ⟨a, fun w _ => b w trivial⟩) id) (by simp) hS h
def NextU (P : Program) (md : Region.Mode) (ops : Array Oper) (Q : Exit → Act → World → Prop) (S : World → Prop) (u : Nat) (n : Nat) (listed : Array Bool) (a : Act) (w : World) (rs : List Nat) : Prop :=
 ∀ i ∈ rs, wpOp P ops Q i (fun a' w' => ((listed.setIfInBounds i true).getD u true = false → S w') ∧ anyU P md ops Q S u n (listed.setIfInBounds i true) a' w') a w
theorem NextU.nil {n : Nat} {listed : Array Bool} {a : Act} {w : World} : NextU P md ops Q S u n listed a w [] := fun _ h => by cases h
theorem NextU.cons {n : Nat} {listed : Array Bool} {a : Act} {w : World} {i : Nat} {o : Oper} {rs : List Nat} (ho : ops[i]? = some o)
  (h : ∀ K' : Act → World → Prop, Shut (∀ a w, ((listed.setIfInBounds i true).getD u true = false → S w) → anyU P md ops Q S u n (listed.setIfInBounds i true) a w → K' a w) → if Region.wanted o (yielded ops a.tmps) = true then Oper.wp P o a w K' Q else K' (a.put o.dst undef) w)
  (hs : NextU P md ops Q S u n listed a w rs) : NextU P md ops Q S u n listed a w (i :: rs) := fun j hj => by
 rcases List.mem_cons.1 hj with rfl | hj
 ·exact wpOp_step ho (fun K' hK => h K' (fun a w hS hW => hK a w ⟨hS, hW⟩))
 ·exact hs j hj
theorem anyU_next {rs : List Nat} {n : Nat} {listed : Array Bool} {a : Act} {w : World} (hr : Region.ready md ops listed = rs) (hne : rs ≠ [])
  (h : NextU P md ops Q S u n listed a w rs) : anyU P md ops Q S u (n + 1) listed a w :=
 ⟨fun h0 => absurd (hr ▸ h0) hne, hr ▸ h⟩
theorem anyU_done {listed : Array Bool} {a : Act} {w : World} (hr : Region.ready md ops listed = []) (h : Q .normal a w) : ∀ n, anyU P md ops Q S u n listed a w
 | 0 => ⟨hr, h⟩
 | _ + 1 => ⟨fun _ => h, by rw [hr]; simp⟩
theorem anyU_world {n : Nat} {listed : Array Bool} {a : Act} {w : World} (q : World → Prop) (hq : q w) (h : ∀ w', q w' → anyU P md ops Q S u n listed a w') : anyU P md ops Q S u n listed a w := h w hq
theorem anyH_world {n : Nat} {listed : Array Bool} {a : Act} {w : World} (q : World → Prop) (hq : q w) (h : ∀ w', q w' → wpAnyH P md ops Q S n listed a w') : wpAnyH P md ops Q S n listed a w := h w hq
theorem step_mapu {ops : Array Oper} {o : Oper} {a : Act} {w w' : World} {K : Act → World → Prop} {Q : Exit → Act → World → Prop} {E : Prop} (hg : o.guard = none) (t : TypeId) (m k v : Operand) (hop : o.op = .mapUpdate t m k v)
  {M Kv V : Value} (hm : a.eval m = M) (hk : a.eval k = Kv) (hv : a.eval v = V) (hr : (Instr.mapUpdate t M Kv V).run P w = .ok () w') (h : K (a.put o.dst undef) w') : if Region.wanted o (yielded ops a.tmps) = true then Oper.wp P o a w K Q else E := by
 rw [if_pos (by simp [Region.wanted, hg])]
 unfold Oper.wp execOp
 simp only [hop, hm, hk, hv, Sem.run_bind, hr, Result.andThen_ok, Sem.run_pure]
 exact h
theorem step_mapuE {ops : Array Oper} {o : Oper} {a : Act} {w : World} {R : World → Prop} {K : Act → World → Prop} {Q : Exit → Act → World → Prop} {E : Prop} (hg : o.guard = none) (t : TypeId) (m k v : Operand) (hop : o.op = .mapUpdate t m k v)
  {M Kv V : Value} (hm : a.eval m = M) (hk : a.eval k = Kv) (hv : a.eval v = V) (hr : ∃ w', (Instr.mapUpdate t M Kv V).run P w = .ok () w' ∧ R w') (h : ∀ w', R w' → K (a.put o.dst undef) w') : if Region.wanted o (yielded ops a.tmps) = true then Oper.wp P o a w K Q else E := by
 obtain ⟨w', h1, h2⟩ := hr
 exact step_mapu hg t m k v hop hm hk hv h1 (h w' h2)
theorem act_any {K : Act → World → Prop} {a : Act} {w : World} (q : World → Prop) (hq : q w) (h : ∀ w', q w' → K a w') : K a w := h w hq
end Go.Sep
