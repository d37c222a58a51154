/- The reference's table of locks: what its memory is. No program in sight. -/
import Derived.Test.YtbcoddibdipjkaaDoorTabLaw
import Derived.Test.YtbcoddibdipjkaaDoorWords
namespace Go.Sep
open Go Go.RowKit

/-- A table at place 'o' of block 'b': of each key its queue; 'kv': the slices' values. -/
def rtabK (T b o : Nat) (kv : List Value) (V : List (List Int)) : HProp :=
  sep (pur (kv.length = 10 ∧ V.length = 10)) (sep (cells b o kv) (all ((kv.zip V).map fun p => sl T 1 p.1 p.2.length (icells p.2))))
def rtabP (T b o : Nat) (V : List (List Int)) : HProp := ex fun kv => rtabK T b o kv V

variable {w w0 : World} {L : List HProp} {T b o : Nat} {kv : List Value} {V : List (List Int)}

theorem S.rtabK_len (h : S w0 w (rtabK T b o kv V :: L)) : kv.length = 10 ∧ V.length = 10 := h.sep_elim.pur_elim.1
theorem S.rtab_len (h : S w0 w (rtabP T b o V :: L)) : V.length = 10 := by
  obtain ⟨kv, h⟩ := h.ex_elim
  exact h.rtabK_len.2
/-- The array of the slices' values. -/
theorem S.rtabK_arr (h : S w0 w (rtabK T b o kv V :: L)) : ∀ j u, kv[j]? = some u → w.cell? ⟨b, o + j, none⟩ = some u := by
  obtain ⟨hp, h⟩ := h.sep_elim.pur_elim
  intro j u hj
  exact h.sep_elim.cells_cell j hj

/-- One key's queue, taken out of the table, and put back. -/
theorem S.rtabK_key (h : S w0 w (rtabK T b o kv V :: L)) (k : Nat) (hk : k < 10) : ∃ v vs X, kv[k]? = some v ∧ V[k]? = some vs ∧ S w0 w (sl T 1 v vs.length (icells vs) :: X :: L) ∧
    (∀ w' M, S w0 w' (X :: M) → w'.cell? ⟨b, o + k, none⟩ = some v ∧ w'.frozen? ⟨b, o + k, none⟩ = false ∧ w0.heap.size ≤ b ∧ b < w'.heap.size) ∧
    (∀ w' M, S w0 w' (sl T 1 v vs.length (icells vs) :: X :: M) → S w0 w' (rtabK T b o kv V :: M)) ∧
    (∀ w' v' vs' M, S w0 w' (sl T 1 v' vs'.length (icells vs') :: X :: M) → S w0 (w'.setCell ⟨b, o + k, none⟩ v') (rtabK T b o (kv.set k v') (V.set k vs') :: M)) := by
  obtain ⟨⟨hkv, hV⟩, h⟩ := h.sep_elim.pur_elim
  have h := h.sep_elim
  have hz : k < ((kv.zip V).map fun p => sl T 1 p.1 p.2.length (icells p.2)).length := by simp; omega
  have hkk : k < kv.length := by omega
  have hVk : k < V.length := by omega
  refine ⟨kv[k], V[k], sep (cells b o kv) (all (((kv.zip V).map fun p => sl T 1 p.1 p.2.length (icells p.2)).eraseIdx k)), by simp [hkk], by simp [hVk], ?_, ?_, ?_, ?_⟩
  · have h2 := h.swap.pick k hz
    simp only [List.getElem_map, List.getElem_zip] at h2
    exact h2.conv (by simp only [all]; rw [sep_assoc, sep_left_comm (cells _ _ _)])
  · intro w' M hs
    have hg : kv[k]? = some kv[k] := by simp [hkk]
    exact ⟨hs.sep_elim.cells_cell k hg, hs.sep_elim.cells_free k hg, hs.sep_elim.cells_new (List.ne_nil_of_length_pos (by omega)), hs.sep_elim.cells_lt (List.ne_nil_of_length_pos (by omega))⟩
  · intro w' M hs
    refine .sep_intro (.pur_intro ⟨hkv, hV⟩ (.sep_intro ?_))
    refine hs.conv ?_
    simp only [all]
    rw [all_pick _ k hz]
    simp only [List.getElem_map, List.getElem_zip]
    rw [sep_assoc, sep_left_comm, sep_assoc]
  all_goals
    have hset : ∀ v' vs', ((kv.set k v').zip (V.set k vs')).map (fun p => sl T 1 p.1 p.2.length (icells p.2)) = ((kv.zip V).map fun p => sl T 1 p.1 p.2.length (icells p.2)).set k (sl T 1 v' vs'.length (icells vs')) := by
      intro v' vs'
      apply List.ext_getElem?
      intro j
      simp only [List.getElem?_map, List.getElem?_set, List.zip, List.getElem?_zipWith]
      by_cases hj : k = j
      · subst hj; simp [hkv, hV, hk]
      · simp [hj]
  · intro w' v' vs' M hs
    have h3 : S w0 w' (cells b o kv :: sl T 1 v' vs'.length (icells vs') :: all (((kv.zip V).map fun p => sl T 1 p.1 p.2.length (icells p.2)).eraseIdx k) :: M) :=
      hs.conv (by simp only [all]; rw [sep_assoc, sep_left_comm])
    have h4 := h3.set k (by omega) v'
    refine .sep_intro (.pur_intro ⟨by simpa using hkv, by simpa using hV⟩ (.sep_intro ?_))
    rw [hset]
    exact h4.conv (by simp only [all]; rw [all_set _ k hz, sep_assoc])
theorem S.rtab_key (h : S w0 w (rtabP T b o V :: L)) (k : Nat) (hk : k < 10) : ∃ v vs X, V[k]? = some vs ∧ S w0 w (sl T 1 v vs.length (icells vs) :: X :: L) ∧
    (∀ w' M, S w0 w' (X :: M) → w'.cell? ⟨b, o + k, none⟩ = some v ∧ w'.frozen? ⟨b, o + k, none⟩ = false ∧ w0.heap.size ≤ b ∧ b < w'.heap.size) ∧
    (∀ w' M, S w0 w' (sl T 1 v vs.length (icells vs) :: X :: M) → S w0 w' (rtabP T b o V :: M)) ∧
    (∀ w' v' vs' M, S w0 w' (sl T 1 v' vs'.length (icells vs') :: X :: M) → S w0 (w'.setCell ⟨b, o + k, none⟩ v') (rtabP T b o (V.set k vs') :: M)) := by
  obtain ⟨kv, h⟩ := h.ex_elim
  obtain ⟨v, vs, X, _, h1, h2, h3, h4, h5⟩ := h.rtabK_key k hk
  exact ⟨v, vs, X, h1, h2, h3, fun w' M hs => .ex_intro _ (h4 w' M hs), fun w' v' vs' M hs => .ex_intro _ (h5 w' v' vs' M hs)⟩
/-- What the slices' values look like. -/
theorem S.rtabK_vals (h : S w0 w (rtabK T b o kv V :: L)) : ∀ (k : Nat) (vs : List Int), V[k]? = some vs → ∃ a cap, kv[k]? = some (Value.slice a vs.length cap) ∧ vs.length ≤ cap ∧ cap ≤ maxLen := by
  intro k vs hv
  have hk : k < 10 := by have h1 := h.rtabK_len.2; have h2 := (List.getElem?_eq_some_iff.1 hv).1; omega
  obtain ⟨v, vs', X, h1, h2, h3, _⟩ := h.rtabK_key k hk
  obtain rfl : vs = vs' := Option.some.inj (hv.symm.trans h2)
  obtain ⟨a, cap, hv', h4, h5, _⟩ := h3.sl_val
  exact ⟨a, cap, by rw [h1, hv'], h4, h5⟩
theorem S.rtab_new {b T T' : Nat} (h : S w0 w (blk b T (List.replicate 10 (.slice none 0 0)) :: L)) : S w0 w (rtabP T' b 0 (List.replicate 10 []) :: L) := by
  refine .ex_intro (List.replicate 10 (.slice none 0 0)) (.sep_intro (.pur_intro ⟨rfl, rfl⟩ (.sep_intro ?_)))
  have h1 := h.blk_cells
  have h2 : ∀ n, S w0 w (cells b 0 (List.replicate 10 (.slice none 0 0)) :: all (List.replicate n (sl T' 1 (.slice none 0 0) 0 [])) :: L) := by
    intro n
    induction n with
    | zero => exact h1.conv (by simp [all, emp_sep])
    | succ n ih => exact (S.sl_nil (e := T') (size := 1) ih).conv (by simp only [all, List.replicate_succ]; rw [sep_left_comm]; simp only [sep_assoc])
  have h3 := h2 10
  exact h3
end Go.Sep
