/- An owned slice, sorted by the library. No program in sight. -/
import Derived.Test.YthdiphfbjlooaaaDoorWords
import Derived.Sort.OwnSortedInts
namespace Go.Sep
open Go Go.RowKit Go.Sort Go.Proofs
variable {w w0 : World} {L : List HProp} {e : TypeId} {g o n cap : Nat}

theorem putCells_mid {α : Type} [Inhabited α] (enc : α → Value) (pre post : List Value) (l m : List α) (hl : m.length = l.length) :
    (putCells enc pre.length m.toArray (pre ++ (l.map enc ++ post)).toArray).toList = pre ++ (m.map enc ++ post) := by
  apply List.ext_getElem?
  intro j
  rw [Array.getElem?_toList]
  simp only [putCells, Array.getElem?_mapIdx, List.getElem?_toArray, List.size_toArray]
  by_cases h1 : j < pre.length
  · rw [List.getElem?_append_left h1, List.getElem?_append_left h1]
    rw [List.getElem?_eq_getElem h1]
    simp; omega
  · obtain ⟨i, rfl⟩ : ∃ i, j = pre.length + i := ⟨j - pre.length, by omega⟩
    have e1 : ∀ x : List Value, (pre ++ x)[pre.length + i]? = x[i]? := by intro x; rw [List.getElem?_append_right (by omega)]; congr 1; omega
    rw [e1, e1]
    by_cases h2 : i < l.length
    · have h3 : i < m.length := by omega
      rw [List.getElem?_append_left (l₁ := l.map enc) (by simpa using h2), List.getElem?_append_left (l₁ := m.map enc) (by simpa using h3)]
      simp [h2, h3]
    · have e2 : ∀ x : List α, x.length = l.length → (x.map enc ++ post)[i]? = post[i - l.length]? := by
        intro x hx; rw [List.getElem?_append_right (by simp; omega)]; simp [hx]
      rw [e2 l rfl, e2 m hl]
      cases post[i - l.length]? with
      | none => rfl
      | some u => simp; intro hx; omega
theorem heap_putRow {α : Type} [Inhabited α] (enc : α → Value) {g off n : Nat} {os : Array Obj} {cur : Array Value} {e : TypeId} {fr : Nat × Nat} (d : Array α) (hb : w.heap[g]? = some (.cells cur e fr)) :
    (grow (putRow enc (Sort.ahead w n) g off d) os).heap[g]? = some (.cells (putCells enc off d cur) e fr) := by
  have hg : g < w.heap.size := (Array.getElem?_eq_some_iff.1 hb).1
  rw [heap_grow_old _ _ (by simpa using hg)]
  simp [putRow, mapBlock, Sort.ahead, Array.getElem?_modify, hb, onCells]
theorem grownBy_putRow {α : Type} [Inhabited α] (enc : α → Value) {g off n : Nat} {os : Array Obj} (d : Array α) : w.grownBy (grow (putRow enc (Sort.ahead w n) g off d) os) (some g) := by
  refine ⟨rfl, rfl, rfl, by simp, fun k hk hne => ?_⟩
  rw [heap_grow_old _ _ (by simpa using hk)]
  have : g ≠ k := fun e => hne (by rw [e])
  simp [putRow, mapBlock, Sort.ahead, Array.getElem?_modify, this]
/-- What the sort asks of an owned slice, and what stands behind it. -/
theorem S.sl_sort {l : List Int} (h : S w0 w (sl e 1 (.slice (some ⟨g, o, none⟩) l.length cap) l.length (icells l) :: L)) : Holds (Value.int .i64) w g o l.toArray ∧ g < w.heap.size ∧
    ∀ (m : List Int) (k : Nat) (os : Array Obj), m.length = l.length → S w0 (grow (putRow (Value.int .i64) (Sort.ahead w k) g o m.toArray) os) (sl e 1 (.slice (some ⟨g, o, none⟩) l.length cap) l.length (icells m) :: L) := by
  rcases h.sl_elim with ⟨hv, _⟩ | ⟨g', cap', pre, sp, post, hp, hb⟩
  · simp at hv
  have hv := hp.val
  simp at hv
  obtain ⟨⟨rfl, rfl⟩, rfl⟩ := hv
  refine ⟨fun j hj => ?_, hb.blk_lt, fun m k os hm => ?_⟩
  · have hj' : j < l.length := by simpa using hj
    refine ⟨?_, hb.blk_free _⟩
    refine hb.blk_cell (pre.length + j) ?_
    rw [List.getElem?_append_right (by omega), Nat.add_sub_cancel_left, List.getElem?_append_left (by rw [icells_length]; exact hj')]
    simp [icells, hj']
  · have hh := hb.blk_heap
    have h1 := heap_putRow (w := w) (Value.int .i64) (off := pre.length) (n := k) (os := os) m.toArray hh
    have e1 : putCells (Value.int .i64) pre.length m.toArray (pre ++ (icells l ++ (sp ++ post))).toArray = (pre ++ (icells m ++ (sp ++ post))).toArray := by
      apply Array.toList_inj.1
      have := putCells_mid (Value.int .i64) pre (sp ++ post) l m hm
      simpa [icells] using this
    rw [e1] at h1
    have h2 := hb.blk_turn (grownBy_putRow (Value.int .i64) (off := pre.length) (n := k) (os := os) m.toArray) h1
    exact .sl_intro ⟨rfl, by rw [icells_length, hm]; simp, by have := hp.room; rw [icells_length] at this ⊢; omega, hp.le, hp.max⟩ h2
end Go.Sep
