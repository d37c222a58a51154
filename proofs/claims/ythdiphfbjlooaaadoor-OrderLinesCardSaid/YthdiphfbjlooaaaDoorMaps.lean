/- Maps on the model's heap, by a list of keys and values: look-up, store, delete, len, range. No program in sight. -/
import Derived.Test.YthdiphfbjlooaaaDoorSep
import Derived.Maps.RangeRun
namespace Go.Sep
open Go Go.RowKit

section plain
variable {κ ν : Type} [DecidableEq κ]
def mget (D : List (κ × ν)) (k : κ) : Option ν := (D.find? fun d => decide (d.1 = k)).map (·.2)
def mput (D : List (κ × ν)) (k : κ) (v : ν) : List (κ × ν) := if (mget D k).isSome then D.map fun d => if d.1 = k then (k, v) else d else D ++ [(k, v)]
def mdel (D : List (κ × ν)) (k : κ) : List (κ × ν) := D.filter fun d => decide (d.1 ≠ k)

theorem mget_nil (k : κ) : mget ([] : List (κ × ν)) k = none := rfl
theorem mget_cons (d : κ × ν) (D : List (κ × ν)) (k : κ) : mget (d :: D) k = if d.1 = k then some d.2 else mget D k := by
  unfold mget; rw [List.find?_cons]; by_cases h : d.1 = k <;> simp [h]
theorem mget_append (D E : List (κ × ν)) (k : κ) : mget (D ++ E) k = (mget D k).or (mget E k) := by
  induction D with
  | nil => simp [mget_nil]
  | cons d D ih => simp only [List.cons_append, mget_cons, ih]; split <;> simp
theorem mget_map_if (D : List (κ × ν)) (k : κ) (v : ν) (j : κ) : mget (D.map fun d => if d.1 = k then (k, v) else d) j = if j = k then (if (mget D k).isSome then some v else none) else mget D j := by
  induction D with
  | nil => simp [mget_nil]
  | cons d D ih =>
    simp only [List.map_cons, mget_cons, ih]
    by_cases h1 : d.1 = k <;> by_cases h2 : j = k <;> simp [h1, h2]
    have h3 : ¬ k = j := fun e => h2 e.symm
    simp [h3]
theorem mget_put (D : List (κ × ν)) (k j : κ) (v : ν) : mget (mput D k v) j = if j = k then some v else mget D j := by
  unfold mput
  split
  · rename_i h; rw [mget_map_if, if_pos h]
  · rename_i h
    rw [mget_append, mget_cons, mget_nil]
    have : mget D k = none := by simpa using h
    by_cases e : j = k
    · subst e; simp [this]
    · have e' : ¬ k = j := fun x => e x.symm
      simp [e, e']
theorem mget_del (D : List (κ × ν)) (k j : κ) : mget (mdel D k) j = if j = k then none else mget D j := by
  unfold mdel
  induction D with
  | nil => simp [mget_nil]
  | cons d D ih =>
    rw [List.filter_cons]
    by_cases h1 : d.1 = k
    · simp only [h1, ne_eq, not_true, decide_false, Bool.false_eq_true, ↓reduceIte, ih, mget_cons]
      by_cases h2 : j = k
      · simp [h2]
      · have : ¬ k = j := fun x => h2 x.symm
        simp [h2, this]
    · simp only [h1, ne_eq, not_false_eq_true, decide_true, ↓reduceIte, mget_cons, ih]
      by_cases h2 : j = k
      · simp [h2, h1]
      · simp [h2]
theorem mget_some {D : List (κ × ν)} {k : κ} {v : ν} (h : mget D k = some v) : (k, v) ∈ D := by
  induction D with
  | nil => simp [mget_nil] at h
  | cons d D ih =>
    rw [mget_cons] at h
    by_cases e : d.1 = k
    · simp [e] at h; subst h; subst e; simp
    · simp [e] at h; exact .tail _ (ih h)
theorem mget_none {D : List (κ × ν)} {k : κ} : mget D k = none ↔ k ∉ D.map (·.1) := by
  induction D with
  | nil => simp [mget_nil]
  | cons d D ih =>
    rw [mget_cons]
    by_cases e : d.1 = k
    · simp [e]
    · have e' : ¬ k = d.1 := fun x => e x.symm
      simp [e, ih, e']
theorem mget_mem {D : List (κ × ν)} (hn : (D.map (·.1)).Nodup) {k : κ} {v : ν} (h : (k, v) ∈ D) : mget D k = some v := by
  induction D with
  | nil => simp at h
  | cons d D ih =>
    rw [mget_cons]
    simp only [List.map_cons, List.nodup_cons] at hn
    cases h with
    | head => simp
    | tail _ h =>
      have : ¬ d.1 = k := fun e => hn.1 (List.mem_map.2 ⟨_, h, e.symm⟩)
      rw [if_neg this]; exact ih hn.2 h
theorem keys_put (D : List (κ × ν)) (k : κ) (v : ν) : (mput D k v).map (·.1) = if (mget D k).isSome then D.map (·.1) else D.map (·.1) ++ [k] := by
  unfold mput
  split
  · rw [List.map_map]; apply List.map_congr_left; intro d _; simp only [Function.comp]; split <;> simp_all
  · simp
theorem keys_put_nodup {D : List (κ × ν)} (hn : (D.map (·.1)).Nodup) (k : κ) (v : ν) : ((mput D k v).map (·.1)).Nodup := by
  rw [keys_put]
  split
  · exact hn
  · rename_i h
    have h' : k ∉ D.map (·.1) := mget_none.1 (by simpa using h)
    rw [List.nodup_append]
    exact ⟨hn, by simp, by intro a ha b hb; simp at hb; subst hb; intro e; subst e; exact h' ha⟩
theorem keys_del_nodup {D : List (κ × ν)} (hn : (D.map (·.1)).Nodup) (k : κ) : ((mdel D k).map (·.1)).Nodup :=
  hn.sublist (List.Sublist.map _ List.filter_sublist)
theorem length_put_le (D : List (κ × ν)) (k : κ) (v : ν) : (mput D k v).length ≤ D.length + 1 := by
  unfold mput; split <;> simp
end plain

/-- How the model tells keys of a type apart. -/
structure KeyOk {κ : Type} [DecidableEq κ] (P : Program) (kt : TypeId) (enc : κ → Value) (ok : κ → Prop) : Prop where
  check : ∀ (em : Bool) k w, (Instr.checkKey em 10000 kt (enc k)).run P w = .ok () w
  find : ∀ k (es : List MapEntry) (ks : List κ) w, ok k → (∀ x ∈ ks, ok x) → es.map (·.key) = ks.map enc →
    (Instr.findKey kt (enc k) es).run P w = .ok (((ks.zip es).zipIdx.find? fun x => decide (x.1.1 = k)).map fun x => (x.2, x.1.2.val)) w
  inj : ∀ a b, enc a = enc b → a = b
  stays : ∀ k w, (Instr.keyThatStays (enc k) (enc k)).run P w = .ok (enc k) w

/-- Block 'b' is a map that holds just what 'D' lists. -/
def MapObj {κ : Type} (enc : κ → Value) (ok : κ → Prop) (D : List (κ × Value)) (es : Array MapEntry) (clock : Nat) : Prop :=
  es.toList.map (fun e => (e.key, e.val)) = D.map (fun d => (enc d.1, d.2)) ∧ (es.toList.map (·.born)).Nodup ∧ (∀ e ∈ es.toList, e.born < clock) ∧ (D.map (·.1)).Nodup ∧ ∀ d ∈ D, ok d.1
def MapAt {κ : Type} (enc : κ → Value) (ok : κ → Prop) (w : World) (b : Nat) (D : List (κ × Value)) : Prop := ∃ es clock, w.heap[b]? = some (.map es clock) ∧ MapObj enc ok D es clock
def mp {κ : Type} (enc : κ → Value) (ok : κ → Prop) (b : Nat) (D : List (κ × Value)) : HProp := ex fun es => ex fun clock => sep (pur (MapObj enc ok D es clock)) (ob b (.map es clock))

section
set_option linter.unusedSectionVars false
variable {κ : Type} [DecidableEq κ] {P : Program} {kt : TypeId} {enc : κ → Value} {ok : κ → Prop} {w w0 : World} {L : List HProp} {b r : Nat} {D done : List (κ × Value)}

theorem S.mapAt (h : S w0 w (mp enc ok b D :: L)) : MapAt enc ok w b D := by
  obtain ⟨es, h⟩ := h.ex_elim
  obtain ⟨clock, h⟩ := h.ex_elim
  obtain ⟨hm, h⟩ := h.sep_elim.pur_elim
  exact ⟨es, clock, h.obj, hm⟩
theorem S.nodup (h : S w0 w (mp enc ok b D :: L)) : (D.map (·.1)).Nodup := by
  obtain ⟨_, _, _, _, _, _, h, _⟩ := h.mapAt; exact h
theorem S.mp_of {es : Array MapEntry} {clock : Nat} (hm : MapObj enc ok D es clock) (h : S w0 w (ob b (.map es clock) :: L)) : S w0 w (mp enc ok b D :: L) :=
  .ex_intro es (.ex_intro clock (.sep_intro (.pur_intro hm h)))
theorem S.made (h : S w0 w L) : S w0 (w.alloc (.map #[] 0)) (mp enc ok w.heap.size [] :: L) :=
  .mp_of ⟨rfl, by simp, by simp, by simp, by simp⟩ (h.alloc_obj _ (by simp))

theorem keys_of {es : Array MapEntry} {clock : Nat} (h : MapObj enc ok D es clock) : es.toList.map (·.key) = (D.map (·.1)).map enc := by
  have := congrArg (List.map Prod.fst) h.1
  simpa [List.map_map, Function.comp_def] using this

theorem find_zip : ∀ (D : List (κ × Value)) (es : List MapEntry) (k : κ) (n : Nat), es.map (fun e => (e.key, e.val)) = D.map (fun d => (enc d.1, d.2)) →
    ((((D.map (·.1)).zip es).zipIdx n).find? fun x => decide (x.1.1 = k)).map (fun x => x.1.2.val) = mget D k
  | [], [], _, _, _ => rfl
  | [], e :: es, _, _, h => by simp at h
  | d :: D, [], _, _, h => by simp at h
  | d :: D, e :: es, k, n, h => by
    simp only [List.map_cons, List.cons.injEq, Prod.mk.injEq] at h
    simp only [List.map_cons, List.zip_cons_cons, List.zipIdx_cons, List.find?_cons, mget_cons]
    by_cases hk : d.1 = k
    · simp [hk, h.1.2]
    · simp only [hk, decide_false, ↓reduceIte]
      exact find_zip D es k (n + 1) h.2

theorem find_zip_idx : ∀ (D : List (κ × Value)) (es : List MapEntry) (k : κ) (n : Nat) (x : (κ × MapEntry) × Nat), es.map (fun e => (e.key, e.val)) = D.map (fun d => (enc d.1, d.2)) → (D.map (·.1)).Nodup →
    (((D.map (·.1)).zip es).zipIdx n).find? (fun x => decide (x.1.1 = k)) = some x → ∃ i, x.2 = n + i ∧ i < D.length ∧ (∀ j, (D.map (·.1))[j]? = some k ↔ j = i) ∧ es[i]? = some x.1.2
  | [], _, _, _, _, _, _, h => by simp at h
  | d :: D, [], _, _, _, h, _, _ => by simp at h
  | d :: D, e :: es, k, n, x, h, hn, hx => by
    simp only [List.map_cons, List.cons.injEq, Prod.mk.injEq] at h
    simp only [List.map_cons, List.nodup_cons] at hn
    simp only [List.map_cons, List.zip_cons_cons, List.zipIdx_cons, List.find?_cons] at hx
    by_cases hk : d.1 = k
    · simp only [hk, decide_true, Option.some.injEq] at hx
      subst hx
      refine ⟨0, rfl, by simp, fun j => ?_, rfl⟩
      cases j with
      | zero => simp [hk]
      | succ j =>
        simp only [List.map_cons, List.getElem?_cons_succ]
        constructor
        · intro hj; exact absurd (List.mem_of_getElem? hj) (by rw [← hk]; exact hn.1)
        · intro hj; omega
    · simp only [hk, decide_false] at hx
      obtain ⟨i, h1, h2, h3, h4⟩ := find_zip_idx D es k (n + 1) x h.2 hn.2 hx
      refine ⟨i + 1, by omega, by simpa using h2, fun j => ?_, by simpa using h4⟩
      cases j with
      | zero => simp [hk]
      | succ j => simp only [List.map_cons, List.getElem?_cons_succ]; rw [h3 j]; omega

theorem run_getObj_map {es : Array MapEntry} {clock : Nat} (h : w.heap[b]? = some (.map es clock)) : (getObj b).run P w = .ok (.map es clock) w := by
  simp [getObj, Sem.run, h]

theorem run_lookup_at (K : KeyOk P kt enc ok) {t e : TypeId} (ht : P.underlying t = some (.map kt e)) {z : Value} (hz : (zeroValue e).run P w = .ok z w) (h : MapAt enc ok w b D) (k : κ) (hk : ok k) (c : Bool) :
    (Instr.lookup t (.map (some b)) (enc k) c).run P w = .ok (if c then .tuple #[(mget D k).getD z, .bool (mget D k).isSome] else (mget D k).getD z) w := by
  obtain ⟨es, clock, hb, hm⟩ := h
  have hf := K.find k es.toList (D.map (·.1)) w hk (by intro x hx; obtain ⟨d, hd, rfl⟩ := List.mem_map.1 hx; exact hm.2.2.2.2 d hd) (keys_of hm)
  have hg := find_zip D es.toList k 0 hm.1
  simp only [Instr.lookup, Sem.run_bind, run_underlying ht, Result.andThen_ok, run_getObj_map hb, Sem.run_pure, K.check, hf]
  rw [← hg]
  cases hx : ((D.map (·.1)).zip es.toList).zipIdx.find? (fun x => decide (x.1.1 = k)) with
  | none => cases c <;> simp [hz]
  | some x => cases c <;> simp

theorem run_lookup_nil (K : KeyOk P kt enc ok) {t e : TypeId} (ht : P.underlying t = some (.map kt e)) {z : Value} (hz : (zeroValue e).run P w = .ok z w) (k : κ) (hk : ok k) (c : Bool) :
    (Instr.lookup t (.map none) (enc k) c).run P w = .ok (if c then .tuple #[z, .bool false] else z) w := by
  have hf := K.find k [] [] w hk (by simp) rfl
  simp only [Instr.lookup, Sem.run_bind, run_underlying ht, Result.andThen_ok, Sem.run_pure, K.check, hf]
  cases c <;> simp [hz]

theorem run_len_at {t ty : TypeId} {e : TypeId} (ht : P.underlying t = some (.map kt e)) (h : MapAt enc ok w b D) :
    (Builtin.len_ #[t] ty #[.map (some b)]).run P w = .ok (.int .i64 D.length) w := by
  obtain ⟨es, clock, hb, hm⟩ := h
  have hl : es.size = D.length := by have := congrArg List.length hm.1; simpa using this
  simp [Builtin.len_, run_underlying ht, run_getObj_map hb, goInt, hl]

theorem run_setObj_map {es : Array MapEntry} {clock : Nat} {o : Obj} (h : w.heap[b]? = some (.map es clock)) : (setObj b o).run P w = .ok () (setObjW w b o) := by
  simp [setObj, Sem.run, h, setObjW]

theorem map_modify_eq {es : List MapEntry} {D : List (κ × Value)} {k : κ} {i : Nat} (v : Value) (h : es.map (fun e => (e.key, e.val)) = D.map (fun d => (enc d.1, d.2)))
    (hi : ∀ j, (D.map (·.1))[j]? = some k ↔ j = i) :
    (es.modify i fun e => { e with key := enc k, val := v }).map (fun e => (e.key, e.val)) = (D.map fun d => if d.1 = k then (k, v) else d).map (fun d => (enc d.1, d.2)) := by
  apply List.ext_getElem?
  intro j
  have hj := congrArg (·[j]?) h
  simp only [List.getElem?_map, List.getElem?_modify] at hj ⊢
  have hij := hi j
  simp only [List.getElem?_map] at hij
  cases hd : D[j]? with
  | none =>
    rw [hd] at hj hij
    cases he : es[j]? with
    | none => simp
    | some e => rw [he] at hj; simp at hj
  | some d =>
    rw [hd] at hj hij
    cases he : es[j]? with
    | none => rw [he] at hj; simp at hj
    | some e =>
      rw [he] at hj
      simp at hj hij ⊢
      by_cases hx : i = j
      · have := hij.2 hx.symm; simp [hx, this]
      · have : ¬ d.1 = k := fun e => hx (hij.1 e).symm
        simp [hx, this, hj]

theorem S.put (K : KeyOk P kt enc ok) {t e : TypeId} (ht : P.underlying t = some (.map kt e)) (h : S w0 w (mp enc ok b D :: L)) (k : κ) (hk : ok k) (v : Value) :
    ∃ w', (Instr.mapUpdate t (.map (some b)) (enc k) v).run P w = .ok () w' ∧ S w0 w' (mp enc ok b (mput D k v) :: L) := by
  obtain ⟨es, h⟩ := h.ex_elim
  obtain ⟨clock, h⟩ := h.ex_elim
  obtain ⟨hm, h⟩ := h.sep_elim.pur_elim
  have hb := h.obj
  have hf := K.find k es.toList (D.map (·.1)) w hk (by intro x hx; obtain ⟨d, hd, rfl⟩ := List.mem_map.1 hx; exact hm.2.2.2.2 d hd) (keys_of hm)
  have hg := find_zip D es.toList k 0 hm.1
  have hnd := keys_put_nodup hm.2.2.2.1 k v
  have hok : ∀ d ∈ mput D k v, ok d.1 := by
    intro d hd
    have : d.1 ∈ (mput D k v).map (·.1) := List.mem_map_of_mem hd
    rw [keys_put] at this
    split at this
    · obtain ⟨d', hd', e⟩ := List.mem_map.1 this; rw [← e]; exact hm.2.2.2.2 d' hd'
    · rcases List.mem_append.1 this with h1 | h1
      · obtain ⟨d', hd', e⟩ := List.mem_map.1 h1; rw [← e]; exact hm.2.2.2.2 d' hd'
      · simp at h1; rw [h1]; exact hk
  cases hx : ((D.map (·.1)).zip es.toList).zipIdx.find? (fun x => decide (x.1.1 = k)) with
  | none =>
    refine ⟨setObjW w b (.map (es.push { key := enc k, val := v, born := clock }) (clock + 1)), ?_, ?_⟩
    · simp only [Instr.mapUpdate, Sem.run_bind, run_underlying ht, Result.andThen_ok, run_getObj_map hb, K.check, hf, hx, Option.map_none, run_setObj_map hb]
    · rw [hx] at hg
      simp at hg
      have hp : mput D k v = D ++ [(k, v)] := by unfold mput; rw [← hg]; simp
      refine .mp_of ?_ (h.set_obj (by simp) (by simp))
      refine ⟨?_, ?_, ?_, hnd, hok⟩
      · rw [hp]; simp [hm.1]
      · simp only [Array.toList_push, List.map_append, List.map_cons, List.map_nil]
        rw [List.nodup_append]
        refine ⟨hm.2.1, by simp, ?_⟩
        intro a ha c hc
        simp at hc; subst hc
        obtain ⟨e', he', rfl⟩ := List.mem_map.1 ha
        have := hm.2.2.1 e' he'; omega
      · intro e' he'
        simp only [Array.toList_push, List.mem_append, List.mem_singleton] at he'
        rcases he' with he' | rfl
        · have := hm.2.2.1 e' he'; omega
        · simp
  | some x =>
    obtain ⟨i, h1, h2, h3, h4⟩ := find_zip_idx (enc := enc) D es.toList k 0 x hm.1 hm.2.2.2.1 hx
    simp only [Nat.zero_add] at h1
    have hkey : x.1.2.key = enc k := by
      have e1 := congrArg (·[i]?) (keys_of hm)
      simp only [List.getElem?_map, h4] at e1
      have e2 := (h3 i).2 rfl
      simp only [List.getElem?_map] at e2
      cases hd : D[i]? with
      | none => rw [hd] at e2; simp at e2
      | some d => rw [hd] at e1 e2; simp at e1 e2; rw [e1, e2]
    have hget : es[i]? = some x.1.2 := by simpa using h4
    refine ⟨setObjW w b (.map (es.modify i fun e => { e with key := enc k, val := v }) clock), ?_, ?_⟩
    · simp only [Instr.mapUpdate, Sem.run_bind, run_underlying ht, Result.andThen_ok, run_getObj_map hb, K.check, hf, hx, Option.map_some, h1, hget, Option.getD_some, hkey, K.stays, run_setObj_map hb]
    · rw [hx] at hg
      simp at hg
      have hp : mput D k v = D.map fun d => if d.1 = k then (k, v) else d := by unfold mput; rw [← hg]; simp
      refine .mp_of ?_ (h.set_obj (by simp) (by simp))
      have hborn : (es.modify i fun e => { e with key := enc k, val := v }).toList.map (·.born) = es.toList.map (·.born) := by
        rw [Array.toList_modify]
        apply List.ext_getElem?
        intro j
        simp only [List.getElem?_map, List.getElem?_modify]
        cases es.toList[j]? with
        | none => simp
        | some e => by_cases hij : i = j <;> simp [hij]
      refine ⟨?_, by rw [hborn]; exact hm.2.1, ?_, hnd, hok⟩
      · rw [hp, Array.toList_modify]; exact map_modify_eq v hm.1 h3
      · intro e' he'
        have : e'.born ∈ (es.modify i fun e => { e with key := enc k, val := v }).toList.map (·.born) := List.mem_map_of_mem he'
        rw [hborn] at this
        obtain ⟨e'', he'', hbb⟩ := List.mem_map.1 this
        rw [← hbb]; exact hm.2.2.1 e'' he''

theorem filter_erase {es : List MapEntry} {D : List (κ × Value)} {k : κ} {i : Nat} (h : es.map (fun e => (e.key, e.val)) = D.map (fun d => (enc d.1, d.2)))
    (hi : ∀ j, (D.map (·.1))[j]? = some k ↔ j = i) (hlt : i < D.length) :
    (es.eraseIdx i).map (fun e => (e.key, e.val)) = (mdel D k).map (fun d => (enc d.1, d.2)) := by
  have hD : mdel D k = D.eraseIdx i := by
    unfold mdel
    clear h
    induction D generalizing i with
    | nil => simp at hlt
    | cons d D ih =>
      have h0 := hi 0
      simp only [List.map_cons, List.getElem?_cons_zero, Option.some.injEq] at h0
      cases i with
      | zero =>
        have hk := h0.2 rfl
        rw [List.filter_cons]
        simp only [hk, ne_eq, not_true, decide_false, Bool.false_eq_true, ↓reduceIte, List.eraseIdx_zero, List.tail_cons]
        apply List.filter_eq_self.2
        intro d' hd'
        obtain ⟨j, hj⟩ := List.getElem?_of_mem hd'
        have := hi (j + 1)
        simp only [List.map_cons, List.getElem?_cons_succ, List.getElem?_map, hj] at this
        simp at this ⊢
        exact this
      | succ i =>
        have hk : ¬ d.1 = k := fun e => by have := h0.1 e; omega
        rw [List.filter_cons]
        simp only [hk, ne_eq, not_false_eq_true, decide_true, ↓reduceIte, List.eraseIdx_cons_succ]
        rw [ih (i := i) ?_ (by simpa using hlt)]
        intro j
        have := hi (j + 1)
        simp only [List.map_cons, List.getElem?_cons_succ] at this
        rw [this]; omega
  have he : ∀ {α β : Type} (f : α → β) (l : List α) (i : Nat), (l.eraseIdx i).map f = (l.map f).eraseIdx i := by
    intro α β f l
    induction l with
    | nil => simp
    | cons a l ih => intro i; cases i <;> simp [ih]
  rw [hD, he, h, ← he]

theorem S.del (K : KeyOk P kt enc ok) {t e ty : TypeId} (ht : P.underlying t = some (.map kt e)) (h : S w0 w (mp enc ok b D :: L)) (k : κ) (hk : ok k) :
    ∃ w', (Builtin.delete_ #[t, kt] ty #[.map (some b), enc k]).run P w = .ok (.tuple #[]) w' ∧ S w0 w' (mp enc ok b (mdel D k) :: L) := by
  obtain ⟨es, h⟩ := h.ex_elim
  obtain ⟨clock, h⟩ := h.ex_elim
  obtain ⟨hm, h⟩ := h.sep_elim.pur_elim
  have hb := h.obj
  have hf := K.find k es.toList (D.map (·.1)) w hk (by intro x hx; obtain ⟨d, hd, rfl⟩ := List.mem_map.1 hx; exact hm.2.2.2.2 d hd) (keys_of hm)
  have hg := find_zip D es.toList k 0 hm.1
  have hok : ∀ d ∈ mdel D k, ok d.1 := fun d hd => hm.2.2.2.2 d (List.mem_filter.1 hd).1
  cases hx : ((D.map (·.1)).zip es.toList).zipIdx.find? (fun x => decide (x.1.1 = k)) with
  | none =>
    refine ⟨setObjW w b (.map es clock), ?_, ?_⟩
    · simp [Builtin.delete_, run_underlying ht, run_getObj_map hb, K.check, hf, hx, run_setObj_map hb]
    · rw [hx] at hg
      simp at hg
      have hp : mdel D k = D := by
        unfold mdel
        apply List.filter_eq_self.2
        intro d hd
        have := mget_none.1 hg.symm
        simp only [decide_eq_true_eq]
        intro e; exact this (List.mem_map.2 ⟨d, hd, e⟩)
      rw [hp]
      exact .mp_of hm (h.set_obj (by simp) (by simp))
  | some x =>
    obtain ⟨i, h1, h2, h3, h4⟩ := find_zip_idx (enc := enc) D es.toList k 0 x hm.1 hm.2.2.2.1 hx
    simp only [Nat.zero_add] at h1
    have hlt : i < es.size := by have := (List.getElem?_eq_some_iff.1 h4).1; simpa using this
    refine ⟨setObjW w b (.map (es.eraseIdxIfInBounds i) clock), ?_, ?_⟩
    · simp [Builtin.delete_, run_underlying ht, run_getObj_map hb, K.check, hf, hx, run_setObj_map hb, h1]
    · refine .mp_of ?_ (h.set_obj (by simp) (by simp))
      have hl : (es.eraseIdxIfInBounds i).toList = es.toList.eraseIdx i := by simp [Array.eraseIdxIfInBounds, hlt, Array.toList_eraseIdx]
      refine ⟨by rw [hl]; exact filter_erase hm.1 h3 h2, ?_, ?_, keys_del_nodup hm.2.2.2.1 k, hok⟩
      · rw [hl]; exact hm.2.1.sublist ((List.eraseIdx_sublist _ _).map _)
      · intro e' he'; rw [hl] at he'; exact hm.2.2.1 e' ((List.eraseIdx_sublist _ _).mem he')

/-! ### Ranging over a map that stays as it is -/

/-- Iterator 'r' over map 'b' has given what 'done' lists. -/
def Ranged (enc : κ → Value) (D done : List (κ × Value)) (es : Array MapEntry) (seen : Array Nat) : Prop :=
  done.Nodup ∧ (∀ d ∈ done, d ∈ D) ∧ ∃ xs : List MapEntry, seen.toList = xs.map (·.born) ∧ (∀ x ∈ xs, x ∈ es.toList) ∧ xs.map (fun e => (e.key, e.val)) = done.map (fun d => (enc d.1, d.2))
def ranging (enc : κ → Value) (ok : κ → Prop) (b r : Nat) (D done : List (κ × Value)) : HProp :=
  ex fun es => ex fun clock => ex fun seen => sep (pur (MapObj enc ok D es clock ∧ Ranged enc D done es seen)) (sep (ob b (.map es clock)) (ob r (.mapIter (some b) clock seen clock)))

theorem S.ranging_mapAt {r : Nat} {done : List (κ × Value)} (h : S w0 w (ranging enc ok b r D done :: L)) : MapAt enc ok w b D := by
  obtain ⟨es, h⟩ := h.ex_elim
  obtain ⟨clock, h⟩ := h.ex_elim
  obtain ⟨seen, h⟩ := h.ex_elim
  obtain ⟨hm, h⟩ := h.sep_elim.pur_elim
  exact ⟨es, clock, h.sep_elim.obj, hm.1⟩
theorem S.ranging_done {r : Nat} {done : List (κ × Value)} (h : S w0 w (ranging enc ok b r D done :: L)) : S w0 w (mp enc ok b D :: L) := by
  obtain ⟨es, h⟩ := h.ex_elim
  obtain ⟨clock, h⟩ := h.ex_elim
  obtain ⟨seen, h⟩ := h.ex_elim
  obtain ⟨hm, h⟩ := h.sep_elim.pur_elim
  have h := h.sep_elim
  exact .mp_of hm.1 ((h.perm (List.Perm.swap _ _ _)).tail)
theorem S.ranging_sub {r : Nat} {done : List (κ × Value)} (h : S w0 w (ranging enc ok b r D done :: L)) : done.Nodup ∧ (∀ d ∈ done, d ∈ D) ∧ (D.map (·.1)).Nodup := by
  obtain ⟨es, h⟩ := h.ex_elim
  obtain ⟨clock, h⟩ := h.ex_elim
  obtain ⟨seen, h⟩ := h.ex_elim
  obtain ⟨hm, h⟩ := h.sep_elim.pur_elim
  exact ⟨hm.2.1, hm.2.2.1, hm.1.2.2.2.1⟩

theorem S.range (h : S w0 w (mp enc ok b D :: L)) {t e : TypeId} (ht : P.underlying t = some (.map kt e)) :
    ∃ w', (Instr.range t (.map (some b))).run P w = .ok (.pointer (some ⟨w.heap.size, 0, none⟩)) w' ∧ S w0 w' (ranging enc ok b w.heap.size D [] :: L) := by
  obtain ⟨es, h⟩ := h.ex_elim
  obtain ⟨clock, h⟩ := h.ex_elim
  obtain ⟨hm, h⟩ := h.sep_elim.pur_elim
  have hb := h.obj
  refine ⟨w.alloc (.mapIter (some b) clock #[] clock), ?_, ?_⟩
  · simp [Instr.range, run_underlying ht, run_getObj_map hb]
  · have h' := (h.alloc_obj (.mapIter (some b) clock #[] clock) (by simp)).perm (List.Perm.swap _ _ _)
    exact .ex_intro es (.ex_intro clock (.ex_intro #[] (.sep_intro (.pur_intro ⟨hm, by simp, by simp, [], rfl, by simp, rfl⟩ (.sep_intro h')))))

theorem run_getObj_iter {r : Nat} {m : Option Nat} {s l : Nat} {seen : Array Nat} (h : w.heap[r]? = some (.mapIter m s seen l)) : (getObj r).run P w = .ok (.mapIter m s seen l) w := by
  simp [getObj, Sem.run, h]
theorem run_setObj_iter {r : Nat} {m : Option Nat} {s l : Nat} {seen : Array Nat} {o : Obj} (h : w.heap[r]? = some (.mapIter m s seen l)) : (setObj r o).run P w = .ok () (setObjW w r o) := by
  simp [setObj, Sem.run, h, setObjW]

theorem entry_inj {es : Array MapEntry} {clock : Nat} (K : KeyOk P kt enc ok) (hm : MapObj enc ok D es clock) {x y : MapEntry} (hx : x ∈ es.toList) (hy : y ∈ es.toList) (h : x.key = y.key ∨ x.born = y.born) : x = y := by
  obtain ⟨i, hi⟩ := List.getElem?_of_mem hx
  obtain ⟨j, hj⟩ := List.getElem?_of_mem hy
  have hk := keys_of hm
  have key : ∀ (l : List Nat), l.Nodup → ∀ (i j : Nat) (a : Nat), l[i]? = some a → l[j]? = some a → i = j := by
    intro l hl i j a h1 h2
    exact (List.getElem?_inj (List.getElem?_eq_some_iff.1 h1).1 hl).1 (h1.trans h2.symm)
  have hij : i = j := by
    rcases h with h | h
    · have e1 := congrArg (·[i]?) hk
      have e2 := congrArg (·[j]?) hk
      simp only [List.getElem?_map, hi, hj, Option.map_some] at e1 e2
      cases hd1 : D[i]? with
      | none => rw [hd1] at e1; simp at e1
      | some d1 =>
        cases hd2 : D[j]? with
        | none => rw [hd2] at e2; simp at e2
        | some d2 =>
          rw [hd1] at e1; rw [hd2] at e2
          simp at e1 e2
          have hdd : d1.1 = d2.1 := K.inj _ _ (by rw [← e1, ← e2, h])
          have q1 : (D.map (·.1))[i]? = some d1.1 := by simp [hd1]
          have q2 : (D.map (·.1))[j]? = some d1.1 := by simp [hd2, hdd]
          exact (List.getElem?_inj (List.getElem?_eq_some_iff.1 q1).1 hm.2.2.2.1).1 (q1.trans q2.symm)
    · exact key _ hm.2.1 i j x.born (by simp [hi]) (by simp [hj, h])
  subst hij
  rw [hi] at hj
  exact Option.some.inj hj

theorem S.next (K : KeyOk P kt enc ok) {r : Nat} {done : List (κ × Value)} {ty : TypeId} (h : S w0 w (ranging enc ok b r D done :: L)) :
    (∃ d w', d ∈ D ∧ d ∉ done ∧ (Instr.next (.pointer (some ⟨r, 0, none⟩)) false ty).run P w = .ok (.tuple #[.bool true, enc d.1, d.2]) w' ∧ S w0 w' (ranging enc ok b r D (done ++ [d]) :: L)) ∨
    ((∀ d ∈ D, d ∈ done) ∧ (Instr.next (.pointer (some ⟨r, 0, none⟩)) false ty).run P w = .ok (.tuple #[.bool false]) w) := by
  obtain ⟨es, h⟩ := h.ex_elim
  obtain ⟨clock, h⟩ := h.ex_elim
  obtain ⟨seen, h⟩ := h.ex_elim
  obtain ⟨⟨hm, hn, hsub, xs, hseen, hxs, hdone⟩, h⟩ := h.sep_elim.pur_elim
  have h := h.sep_elim
  have hb := h.obj
  have h := h.perm (List.Perm.swap _ _ _)
  have hr := h.obj
  have hold : ∀ x ∈ es.toList, x.born < clock := hm.2.2.1
  rcases run_next_at (P := P) w ty r b clock clock seen es clock hr hb hold (Nat.le_refl _) with ⟨h0, hrun⟩ | ⟨e, he, w1, hw1, hrun⟩
  · right
    have hlf : es.filter (fun e => !seen.contains e.born) = #[] := Array.eq_empty_of_size_eq_zero h0
    refine ⟨?_, hrun⟩
    intro d hd
    obtain ⟨i, hi⟩ := List.getElem?_of_mem hd
    have e1 := congrArg (·[i]?) hm.1
    simp only [List.getElem?_map, hi, Option.map_some] at e1
    cases hei : es.toList[i]? with
    | none => rw [hei] at e1; simp at e1
    | some e =>
      rw [hei] at e1
      simp at e1
      have hemem : e ∈ es.toList := List.mem_of_getElem? hei
      have hs : e.born ∈ seen.toList := by
        have := Array.filter_eq_empty_iff.1 hlf e (by rw [← Array.mem_toList_iff]; exact hemem)
        simpa using this
      rw [hseen] at hs
      obtain ⟨x, hx, hxb⟩ := List.mem_map.1 hs
      have hxe := entry_inj K hm (hxs x hx) hemem (.inr hxb)
      subst hxe
      have : (x.key, x.val) ∈ done.map (fun d => (enc d.1, d.2)) := by rw [← hdone]; exact List.mem_map.2 ⟨x, hx, rfl⟩
      obtain ⟨d', hd', he'⟩ := List.mem_map.1 this
      simp at he'
      have e3 : d'.1 = d.1 := K.inj _ _ (by rw [he'.1, e1.1])
      have : d' = d := Prod.ext e3 (by rw [he'.2, e1.2])
      rw [← this]; exact hd'
  · left
    have hemem : e ∈ es.toList := by
      have := (Array.mem_filter.1 (Array.mem_toList_iff.1 he)).1
      exact Array.mem_toList_iff.2 this
    have hns : e.born ∉ seen.toList := by
      have := (Array.mem_filter.1 (Array.mem_toList_iff.1 he)).2
      simpa using this
    have : (e.key, e.val) ∈ D.map (fun d => (enc d.1, d.2)) := by rw [← hm.1]; exact List.mem_map.2 ⟨e, hemem, rfl⟩
    obtain ⟨d, hd, hde⟩ := List.mem_map.1 this
    simp at hde
    have hnd : d ∉ done := by
      intro hdd
      have : (enc d.1, d.2) ∈ xs.map (fun e => (e.key, e.val)) := by rw [hdone]; exact List.mem_map.2 ⟨d, hdd, rfl⟩
      obtain ⟨x, hx, hxe⟩ := List.mem_map.1 this
      simp at hxe
      have := entry_inj K hm (hxs x hx) hemem (.inl (by rw [hxe.1, hde.1]))
      subst this
      exact hns (by rw [hseen]; exact List.mem_map.2 ⟨x, hx, rfl⟩)
    have h1 : S w0 w1 (ob r (.mapIter (some b) clock seen clock) :: ob b (.map es clock) :: L) := by
      rcases hw1 with rfl | rfl
      · exact h
      · exact h.drew
    have h2 : S w0 (setObjW w1 r (.mapIter (some b) clock (seen.push e.born) clock)) (ob b (.map es clock) :: ob r (.mapIter (some b) clock (seen.push e.born) clock) :: L) :=
      (h1.set_obj (by simp) (by simp)).perm (List.Perm.swap _ _ _)
    refine ⟨d, _, hd, hnd, ?_, .ex_intro es (.ex_intro clock (.ex_intro (seen.push e.born) (.sep_intro (.pur_intro ⟨hm, ?_, ?_, xs ++ [e], ?_, ?_, ?_⟩ (.sep_intro h2)))))⟩
    · rw [hrun, hde.1, hde.2]; rfl
    · rw [List.nodup_append]; exact ⟨hn, by simp, by intro a ha c hc; simp at hc; subst hc; intro e; subst e; exact hnd ha⟩
    · intro d' hd'; rcases List.mem_append.1 hd' with h' | h'
      · exact hsub _ h'
      · simp at h'; rw [h']; exact hd
    · simp [hseen]
    · intro x hx; rcases List.mem_append.1 hx with h' | h'
      · exact hxs _ h'
      · simp at h'; rw [h']; exact hemem
    · simp [hdone, hde.1, hde.2]

/-- The round's key and value, read behind the step. -/
theorem S.entry {r : Nat} {done : List (κ × Value)} {d : κ × Value} (h : S w0 w (ranging enc ok b r D (done ++ [d]) :: L)) :
    (Instr.entry (.pointer (some ⟨r, 0, none⟩))).run P w = .ok (.tuple #[enc d.1, d.2]) w := by
  obtain ⟨es, h⟩ := h.ex_elim
  obtain ⟨clock, h⟩ := h.ex_elim
  obtain ⟨seen, h⟩ := h.ex_elim
  obtain ⟨⟨hm, hn, hsub, xs, hseen, hxs, hdone⟩, h⟩ := h.sep_elim.pur_elim
  have h := h.sep_elim
  have hb := h.obj
  have h := h.perm (List.Perm.swap _ _ _)
  have hr := h.obj
  have hxs0 : xs ≠ [] := by intro e; subst e; simp at hdone
  obtain ⟨ys, y, rfl⟩ : ∃ ys y, xs = ys ++ [y] := ⟨xs.dropLast, xs.getLast hxs0, (List.dropLast_concat_getLast hxs0).symm⟩
  simp only [List.map_append, List.map_cons, List.map_nil] at hdone hseen
  have hd := (List.append_inj' hdone rfl).2
  simp at hd
  have hs : seen = (ys.map (·.born)).toArray.push y.born := by apply Array.ext'; simp [hseen]
  rw [hs] at hr
  have := run_entry_at (P := P) w r b clock (ys.map (·.born)).toArray es clock y hr hb (hxs y (by simp)) hm.2.1
  rw [this, hd.1, hd.2]
theorem S.range_over (h : S w0 w (ranging enc ok b r D done :: L)) (hall : ∀ d ∈ D, d ∈ done) : done.Perm D ∧ S w0 w (mp enc ok b D :: L) := by
  obtain ⟨h1, h2, h3⟩ := h.ranging_sub
  exact ⟨(List.perm_ext_iff_of_nodup h1 (List.Pairwise.of_map _ (fun a b h e => h (by rw [e])) h3)).2 fun a => ⟨h2 a, hall a⟩, h.ranging_done⟩
end

/-! ### Keys that are integers, or strings -/
def encI (k : Int) : Value := .int .i64 k
theorem findNow_int (k : Int) : ∀ (es : List MapEntry) (ks : List Int) (n : Nat) (q : IntKind), es.map (·.key) = ks.map encI →
    Instr.findNow (.int q) (encI k) es n = some ((((ks.zip es).zipIdx n).find? fun x => decide (x.1.1 = k)).map fun x => (x.2, x.1.2.val))
  | [], [], _, _, _ => rfl
  | [], _ :: _, _, _, h => by simp at h
  | _ :: _, [], _, _, h => by simp at h
  | e :: es, x :: ks, n, q, h => by
    simp only [List.map_cons, List.cons.injEq] at h
    simp only [Instr.findNow, h.1, encI, Instr.sameNow, ↓reduceIte, List.zip_cons_cons, List.zipIdx_cons, List.find?_cons]
    by_cases hk : k = x
    · subst hk; simp
    · have hk' : ¬ x = k := fun e => hk e.symm
      have : (k == x) = false := by simpa using hk
      simp only [this, hk', decide_false]
      exact findNow_int k es ks (n + 1) q h.2
theorem check_int {P : Program} {kt : TypeId} {q : IntKind} (hk : P.underlying kt = some (.int q)) (em : Bool) (k : Int) (w : World) (n : Nat) : (Instr.checkKey em (n + 1) kt (encI k)).run P w = .ok () w := by
  simp [Instr.checkKey, run_underlying hk, encI]
theorem check_str {P : Program} {kt : TypeId} (hk : P.underlying kt = some .string) (em : Bool) (k : ByteArray) (w : World) (n : Nat) : (Instr.checkKey em (n + 1) kt (.string k)).run P w = .ok () w := by
  simp [Instr.checkKey, run_underlying hk]
theorem keyOk_int {P : Program} {kt : TypeId} {q : IntKind} (hk : P.underlying kt = some (.int q)) : KeyOk P kt encI (fun _ => True) where
  check em k w := check_int hk em k w 9999
  find k es ks w _ _ h := by simp only [Instr.findKey, Sem.run_bind, run_underlying hk, Result.andThen_ok, findNow_int k es ks 0 q h, Sem.run_pure]
  inj a b h := by simpa [encI] using h
  stays k w := by simp [Instr.keyThatStays, Instr.sameBits, encI]

def encS (k : ByteArray) : Value := .string k
theorem findNow_str (k : ByteArray) : ∀ (es : List MapEntry) (ks : List ByteArray) (n : Nat), es.map (·.key) = ks.map encS →
    Instr.findNow .string (encS k) es n = some ((((ks.zip es).zipIdx n).find? fun x => decide (x.1.1 = k)).map fun x => (x.2, x.1.2.val))
  | [], [], _, _ => rfl
  | [], _ :: _, _, h => by simp at h
  | _ :: _, [], _, h => by simp at h
  | e :: es, x :: ks, n, h => by
    simp only [List.map_cons, List.cons.injEq] at h
    simp only [Instr.findNow, h.1, encS, Instr.sameNow, List.zip_cons_cons, List.zipIdx_cons, List.find?_cons]
    by_cases hk : k = x
    · subst hk; simp [(MapKept.bytes_beq k k).2 rfl]
    · have hk' : ¬ x = k := fun e => hk e.symm
      have : (k == x) = false := by rw [← Bool.not_eq_true, MapKept.bytes_beq]; exact hk
      simp only [this, hk', decide_false]
      exact findNow_str k es ks (n + 1) h.2
theorem keyOk_str {P : Program} {kt : TypeId} (hk : P.underlying kt = some .string) : KeyOk P kt encS (fun _ => True) where
  check em k w := check_str hk em k w 9999
  find k es ks w _ _ h := by simp only [Instr.findKey, Sem.run_bind, run_underlying hk, Result.andThen_ok, findNow_str k es ks 0 h, Sem.run_pure]
  inj a b h := by simpa [encS] using h
  stays k w := by simp [Instr.keyThatStays, Instr.sameBits, encS, (MapKept.bytes_beq k k).2 rfl]
end Go.Sep
