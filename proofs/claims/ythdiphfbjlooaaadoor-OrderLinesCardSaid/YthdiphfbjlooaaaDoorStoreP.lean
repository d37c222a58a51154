/- The program's store: what its memory is, and what each of its functions computes. -/
import Derived.Test.YthdiphfbjlooaaaDoorWords
namespace Go.Sep
open Go Go.RowKit
abbrev Vers := List (Int × Int)

/-- A store at place 'o' of block 'b': of each key its versions; the last time; 'kv': the slices' values. -/
def storeK (T b o : Nat) (kv : List Value) (V : List Vers) (last : Int) : HProp :=
  sep (pur (kv.length = 10 ∧ V.length = 10)) (sep (cells b o (kv ++ [.int .i64 last])) (all ((kv.zip V).map fun p => sl T 2 p.1 p.2.length (pcells p.2))))
def storeP (T b o : Nat) (V : List Vers) (last : Int) : HProp := ex fun kv => storeK T b o kv V last

variable {w w0 : World} {L : List HProp} {T b o : Nat} {kv : List Value} {V : List Vers} {last : Int}

theorem S.storeK_len (h : S w0 w (storeK T b o kv V last :: L)) : kv.length = 10 ∧ V.length = 10 := h.sep_elim.pur_elim.1
theorem S.store_len (h : S w0 w (storeP T b o V last :: L)) : V.length = 10 := by
  obtain ⟨kv, h⟩ := h.ex_elim
  exact h.storeK_len.2
/-- The last time: read, and written. -/
theorem S.storeK_last (h : S w0 w (storeK T b o kv V last :: L)) : w.cell? ⟨b, o + 10, none⟩ = some (.int .i64 last) ∧ w.frozen? ⟨b, o + 10, none⟩ = false ∧ w0.heap.size ≤ b ∧ ∀ l', S w0 (w.setCell ⟨b, o + 10, none⟩ (.int .i64 l')) (storeK T b o kv V l' :: L) := by
  obtain ⟨hp, h⟩ := h.sep_elim.pur_elim
  have h := h.sep_elim
  have hg : (kv ++ [Value.int .i64 last])[10]? = some (.int .i64 last) := by rw [List.getElem?_append_right (by omega), hp.1]; rfl
  refine ⟨h.cells_cell 10 hg, h.cells_free 10 hg, h.cells_new (by simp), fun l' => ?_⟩
  have h2 := h.set 10 (by simp [hp.1]) (.int .i64 l')
  rw [List.set_append_right _ _ (by omega), hp.1] at h2
  exact .sep_intro (.pur_intro hp (.sep_intro h2))
theorem S.store_last (h : S w0 w (storeP T b o V last :: L)) : w.cell? ⟨b, o + 10, none⟩ = some (.int .i64 last) ∧ w.frozen? ⟨b, o + 10, none⟩ = false ∧ ∀ l', S w0 (w.setCell ⟨b, o + 10, none⟩ (.int .i64 l')) (storeP T b o V l' :: L) := by
  obtain ⟨kv, h⟩ := h.ex_elim
  obtain ⟨h1, h2, _, h3⟩ := h.storeK_last
  exact ⟨h1, h2, fun l' => .ex_intro kv (h3 l')⟩
/-- The array of the slices' values. -/
theorem S.storeK_arr (h : S w0 w (storeK T b o kv V last :: L)) : ∀ j u, kv[j]? = some u → w.cell? ⟨b, o + j, none⟩ = some u := by
  obtain ⟨hp, h⟩ := h.sep_elim.pur_elim
  intro j u hj
  exact h.sep_elim.cells_cell j (by rw [List.getElem?_append_left (List.getElem?_eq_some_iff.1 hj).1, hj])

/-- One key's versions, taken out of the store, and put back. -/
theorem S.storeK_key (h : S w0 w (storeK T b o kv V last :: L)) (k : Nat) (hk : k < 10) : ∃ v vs X, kv[k]? = some v ∧ V[k]? = some vs ∧ S w0 w (sl T 2 v vs.length (pcells vs) :: X :: L) ∧
    (∀ w' M, S w0 w' (X :: M) → w'.cell? ⟨b, o + k, none⟩ = some v ∧ w'.frozen? ⟨b, o + k, none⟩ = false ∧ w0.heap.size ≤ b ∧ b < w'.heap.size) ∧
    (∀ w' M, S w0 w' (sl T 2 v vs.length (pcells vs) :: X :: M) → S w0 w' (storeK T b o kv V last :: M)) ∧
    (∀ w' v' vs' M, S w0 w' (sl T 2 v' vs'.length (pcells vs') :: X :: M) → S w0 (w'.setCell ⟨b, o + k, none⟩ v') (storeK T b o (kv.set k v') (V.set k vs') last :: M)) ∧
    (∀ w' vs' M, S w0 w' (sl T 2 v vs'.length (pcells vs') :: X :: M) → S w0 w' (storeK T b o kv (V.set k vs') last :: M)) := by
  obtain ⟨⟨hkv, hV⟩, h⟩ := h.sep_elim.pur_elim
  have h := h.sep_elim
  have hz : k < ((kv.zip V).map fun p => sl T 2 p.1 p.2.length (pcells p.2)).length := by simp; omega
  have hkk : k < kv.length := by omega
  have hVk : k < V.length := by omega
  refine ⟨kv[k], V[k], sep (cells b o (kv ++ [.int .i64 last])) (all (((kv.zip V).map fun p => sl T 2 p.1 p.2.length (pcells p.2)).eraseIdx k)), by simp [hkk], by simp [hVk], ?_, ?_, ?_, ?_, ?_⟩
  · have h2 := h.swap.pick k hz
    simp only [List.getElem_map, List.getElem_zip] at h2
    exact h2.conv (by simp only [all]; rw [sep_assoc, sep_left_comm (cells _ _ _)])
  · intro w' M hs
    have hg : (kv ++ [Value.int .i64 last])[k]? = some kv[k] := by rw [List.getElem?_append_left hkk]; simp [hkk]
    exact ⟨hs.sep_elim.cells_cell k hg, hs.sep_elim.cells_free k hg, hs.sep_elim.cells_new (by simp), hs.sep_elim.cells_lt (by simp)⟩
  · intro w' M hs
    refine .sep_intro (.pur_intro ⟨hkv, hV⟩ (.sep_intro ?_))
    refine hs.conv ?_
    simp only [all]
    rw [all_pick _ k hz]
    simp only [List.getElem_map, List.getElem_zip]
    rw [sep_assoc, sep_left_comm, sep_assoc]
  all_goals
    have hset : ∀ v' vs', ((kv.set k v').zip (V.set k vs')).map (fun p => sl T 2 p.1 p.2.length (pcells p.2)) = ((kv.zip V).map fun p => sl T 2 p.1 p.2.length (pcells p.2)).set k (sl T 2 v' vs'.length (pcells vs')) := by
      intro v' vs'
      apply List.ext_getElem?
      intro j
      simp only [List.getElem?_map, List.getElem?_set, List.zip, List.getElem?_zipWith]
      by_cases hj : k = j
      · subst hj; simp [hkv, hV, hk]
      · simp [hj]
  · intro w' v' vs' M hs
    have h3 : S w0 w' (cells b o (kv ++ [.int .i64 last]) :: sl T 2 v' vs'.length (pcells vs') :: all (((kv.zip V).map fun p => sl T 2 p.1 p.2.length (pcells p.2)).eraseIdx k) :: M) :=
      hs.conv (by simp only [all]; rw [sep_assoc, sep_left_comm])
    have h4 := h3.set k (by simp; omega) v'
    rw [List.set_append_left _ _ hkk] at h4
    refine .sep_intro (.pur_intro ⟨by simpa using hkv, by simpa using hV⟩ (.sep_intro ?_))
    rw [hset]
    exact h4.conv (by simp only [all]; rw [all_set _ k hz, sep_assoc])
  · intro w' vs' M hs
    refine .sep_intro (.pur_intro ⟨hkv, by simpa using hV⟩ (.sep_intro ?_))
    have := hset kv[k] vs'
    rw [List.set_getElem_self] at this
    rw [this]
    exact hs.conv (by simp only [all]; rw [all_set _ k hz, sep_assoc, sep_left_comm, sep_assoc])
theorem S.store_key (h : S w0 w (storeP T b o V last :: L)) (k : Nat) (hk : k < 10) : ∃ v vs X, V[k]? = some vs ∧ S w0 w (sl T 2 v vs.length (pcells vs) :: X :: L) ∧
    (∀ w', S w0 w' (X :: L) → w'.cell? ⟨b, o + k, none⟩ = some v ∧ w'.frozen? ⟨b, o + k, none⟩ = false ∧ w0.heap.size ≤ b) ∧
    (∀ w' M, S w0 w' (sl T 2 v vs.length (pcells vs) :: X :: M) → S w0 w' (storeP T b o V last :: M)) ∧
    (∀ w' v' vs' M, S w0 w' (sl T 2 v' vs'.length (pcells vs') :: X :: M) → S w0 (w'.setCell ⟨b, o + k, none⟩ v') (storeP T b o (V.set k vs') last :: M)) ∧
    (∀ w' vs' M, S w0 w' (sl T 2 v vs'.length (pcells vs') :: X :: M) → S w0 w' (storeP T b o (V.set k vs') last :: M)) := by
  obtain ⟨kv, h⟩ := h.ex_elim
  obtain ⟨v, vs, X, _, h1, h2, h3, h4, h5, h6⟩ := h.storeK_key k hk
  exact ⟨v, vs, X, h1, h2, fun w' hs => ⟨(h3 w' _ hs).1, (h3 w' _ hs).2.1, (h3 w' _ hs).2.2.1⟩, fun w' M hs => .ex_intro _ (h4 w' M hs), fun w' v' vs' M hs => .ex_intro _ (h5 w' v' vs' M hs), fun w' vs' M hs => .ex_intro _ (h6 w' vs' M hs)⟩
/-- What the slices' values look like. -/
theorem S.storeK_vals (h : S w0 w (storeK T b o kv V last :: L)) : ∀ (k : Nat) (vs : Vers), V[k]? = some vs → ∃ a cap, kv[k]? = some (Value.slice a vs.length cap) ∧ vs.length ≤ cap ∧ cap ≤ maxLen := by
  intro k vs hv
  have hk : k < 10 := by have h1 := h.storeK_len.2; have h2 := (List.getElem?_eq_some_iff.1 hv).1; omega
  obtain ⟨v, vs', X, h1, h2, h3, _⟩ := h.storeK_key k hk
  obtain rfl : vs = vs' := Option.some.inj (hv.symm.trans h2)
  obtain ⟨a, cap, hv', h4, h5, _⟩ := h3.sl_val
  exact ⟨a, cap, by rw [h1, hv'], h4, h5⟩

/-! ### What the functions compute -/
def keyOk (k : Int) : Prop := 0 ≤ k ∧ k < 10
instance : DecidablePred keyOk := fun k => by unfold keyOk; infer_instance
def valOk (v : Int) : Prop := -1099511627776 ≤ v ∧ v ≤ 1099511627776
instance : DecidablePred valOk := fun k => by unfold valOk; infer_instance
/-- The first write that may not be: the error, and where. -/
def badAt : Nat → Vers → Option (Int × Int)
  | _, [] => none
  | i, p :: l => if ¬ keyOk p.1 then some (2, (i : Int)) else if ¬ valOk p.2 then some (1, (i : Int)) else badAt (i + 1) l
/-- One write of a commit. -/
def put1 (at_ : Int) (V : List Vers) (p : Int × Int) : List Vers :=
  let vs := (V[p.1.toNat]?).getD []
  V.set p.1.toNat (if (vs.getLast?.map (·.1)) = some at_ then vs.dropLast ++ [(at_, p.2)] else vs ++ [(at_, p.2)])
def putAll (at_ : Int) (V : List Vers) (l : Vers) : List Vers := l.foldl (put1 at_) V

theorem badAt_none {i : Nat} {l : Vers} (h : badAt i l = none) : ∀ p ∈ l, keyOk p.1 ∧ valOk p.2 := by
  induction l generalizing i with
  | nil => simp
  | cons q l ih =>
    unfold badAt at h
    split at h
    · simp at h
    · split at h
      · simp at h
      · rename_i h1 h2
        intro p hp
        cases hp with
        | head => exact ⟨Decidable.not_not.1 h1, Decidable.not_not.1 h2⟩
        | tail _ hp => exact ih h p hp
theorem put1_length (at_ : Int) (V : List Vers) (p : Int × Int) : (put1 at_ V p).length = V.length := by simp [put1]
theorem putAll_length (at_ : Int) (l : Vers) : ∀ (V : List Vers), (putAll at_ V l).length = V.length := by
  induction l with
  | nil => intro V; rfl
  | cons p l ih => intro V; exact (ih (put1 at_ V p)).trans (put1_length at_ V p)
theorem put1_le {N : Nat} {at_ : Int} {V : List Vers} (p : Int × Int) (h : ∀ vs ∈ V, vs.length ≤ N) : ∀ vs ∈ put1 at_ V p, vs.length ≤ N + 1 := by
  intro vs hvs
  unfold put1 at hvs
  rcases List.mem_or_eq_of_mem_set hvs with h1 | rfl
  · have := h vs h1; omega
  · have hv : ((V[p.1.toNat]?).getD []).length ≤ N := by
      cases hg : V[p.1.toNat]? with
      | none => simp
      | some x => exact h x (List.mem_of_getElem? hg)
    split <;> simp <;> omega
theorem putAll_le {at_ : Int} (l : Vers) : ∀ {N : Nat} {V : List Vers}, (∀ vs ∈ V, vs.length ≤ N) → ∀ vs ∈ putAll at_ V l, vs.length ≤ N + l.length := by
  induction l with
  | nil => intro N V h; simpa [putAll] using h
  | cons p l ih =>
    intro N V h vs hvs
    have := ih (put1_le (at_ := at_) p h) vs hvs
    simp only [List.length_cons]; omega
end Go.Sep
