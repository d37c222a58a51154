/- Ownership of cells and objects on the model's heap, as lists of assertions: the words in which all contracts of this claim are stated. No program in sight. -/
import Derived.WalkKit
namespace Go.Sep
open Go Go.RowKit

/-- What lies at a place. -/
inductive Thing where
  | val (v : Value)
  | shape (e : TypeId) (n : Nat)
  | obj (o : Obj)

/-- What the world has at place 'i' of block 'b' ('none': the block's shape, or the object that it is). A frozen cell counts for nothing. -/
def holds (w : World) (b : Nat) (i : Option Nat) : Option Thing :=
  match w.heap[b]?, i with
  | some (.cells c _ (lo, hi)), some i => if lo ≤ i ∧ i < hi then none else (c[i]?).map .val
  | some (.cells c e (lo, hi)), none => if lo = 0 ∧ hi = 0 then some (.shape e c.size) else none
  | some _, some _ => none
  | some o, none => some (.obj o)
  | none, _ => none

abbrev Hp := Nat → Option Nat → Option Thing
def HProp := Hp → Prop

def Hp.disj (g h : Hp) : Prop := ∀ b i, g b i = none ∨ h b i = none
def Hp.join (g h : Hp) : Hp := fun b i => (g b i).or (h b i)
def Hp.emp : Hp := fun _ _ => none

theorem Hp.join_comm {g h : Hp} (d : g.disj h) : g.join h = h.join g := by
  funext b i; unfold Hp.join; rcases d b i with e | e <;> simp [e]
theorem Hp.join_assoc (f g h : Hp) : (f.join g).join h = f.join (g.join h) := by
  funext b i; unfold Hp.join; cases f b i <;> simp
theorem Hp.disj_comm {g h : Hp} (d : g.disj h) : h.disj g := fun b i => (d b i).symm
theorem Hp.disj_join_left {f g h : Hp} : (f.join g).disj h ↔ f.disj h ∧ g.disj h := by
  constructor
  · intro d
    refine ⟨fun b i => ?_, fun b i => ?_⟩ <;> rcases d b i with e | e
    · unfold Hp.join at e; cases hf : f b i <;> simp_all
    · exact .inr e
    · unfold Hp.join at e; cases hf : f b i <;> simp_all
    · exact .inr e
  · intro ⟨a, c⟩ b i
    unfold Hp.join
    rcases a b i with e | e
    · rcases c b i with e' | e' <;> simp [e, e']
    · simp [e]
theorem Hp.disj_join_right {f g h : Hp} : f.disj (g.join h) ↔ f.disj g ∧ f.disj h := by
  constructor
  · intro d; have := Hp.disj_join_left.1 (Hp.disj_comm d); exact ⟨Hp.disj_comm this.1, Hp.disj_comm this.2⟩
  · intro ⟨a, c⟩; exact Hp.disj_comm (Hp.disj_join_left.2 ⟨Hp.disj_comm a, Hp.disj_comm c⟩)
theorem Hp.emp_join (h : Hp) : Hp.emp.join h = h := by funext b i; simp [Hp.emp, Hp.join]
theorem Hp.join_emp (h : Hp) : h.join Hp.emp = h := by funext b i; simp [Hp.emp, Hp.join]
theorem Hp.disj_emp (h : Hp) : h.disj Hp.emp := fun _ _ => .inr rfl
theorem Hp.emp_disj (h : Hp) : Hp.emp.disj h := fun _ _ => .inl rfl

def sep (P Q : HProp) : HProp := fun h => ∃ g k, Hp.disj g k ∧ h = Hp.join g k ∧ P g ∧ Q k
def emp : HProp := fun h => h = Hp.emp
def pur (p : Prop) : HProp := fun h => p ∧ h = Hp.emp
def ex {α : Sort _} (P : α → HProp) : HProp := fun h => ∃ x, P x h

theorem sep_comm (P Q : HProp) : sep P Q = sep Q P := by
  funext h; apply propext; constructor
  all_goals
    rintro ⟨g, k, d, rfl, p, q⟩
    exact ⟨k, g, Hp.disj_comm d, Hp.join_comm d, q, p⟩
theorem sep_assoc (P Q R : HProp) : sep (sep P Q) R = sep P (sep Q R) := by
  funext h; apply propext; constructor
  · rintro ⟨g, k, d, rfl, ⟨g1, g2, d1, rfl, p, q⟩, r⟩
    obtain ⟨da, db⟩ := Hp.disj_join_left.1 d
    exact ⟨g1, g2.join k, Hp.disj_join_right.2 ⟨d1, da⟩, Hp.join_assoc _ _ _, p, g2, k, db, rfl, q, r⟩
  · rintro ⟨g, k, d, rfl, p, ⟨k1, k2, d1, rfl, q, r⟩⟩
    obtain ⟨da, db⟩ := Hp.disj_join_right.1 d
    exact ⟨g.join k1, k2, Hp.disj_join_left.2 ⟨db, d1⟩, (Hp.join_assoc _ _ _).symm, ⟨g, k1, da, rfl, p, q⟩, r⟩
theorem emp_sep (P : HProp) : sep emp P = P := by
  funext h; apply propext; constructor
  · rintro ⟨g, k, _, rfl, rfl, p⟩; rw [Hp.emp_join]; exact p
  · intro p; exact ⟨Hp.emp, h, Hp.emp_disj h, (Hp.emp_join h).symm, rfl, p⟩
theorem sep_emp (P : HProp) : sep P emp = P := by rw [sep_comm, emp_sep]
theorem sep_left_comm (P Q R : HProp) : sep P (sep Q R) = sep Q (sep P R) := by
  rw [← sep_assoc, sep_comm P Q, sep_assoc]

/-- All of a list, each with memory of its own. -/
def all : List HProp → HProp
  | [] => emp
  | P :: L => sep P (all L)
theorem all_append (L M : List HProp) : all (L ++ M) = sep (all L) (all M) := by
  induction L with
  | nil => simp [all, emp_sep]
  | cons P L ih => simp [all, ih, sep_assoc]
theorem all_perm {L M : List HProp} (h : L.Perm M) : all L = all M := by
  induction h with
  | nil => rfl
  | cons _ _ ih => simp [all, ih]
  | swap _ _ _ => simp only [all]; rw [sep_left_comm]
  | trans _ _ h1 h2 => exact h1.trans h2

def cell (b i : Nat) (v : Value) : HProp := fun h => h = fun b' i' => if b' = b ∧ i' = some i then some (.val v) else none
def shp (b : Nat) (e : TypeId) (n : Nat) : HProp := fun h => h = fun b' i' => if b' = b ∧ i' = none then some (.shape e n) else none
def ob (b : Nat) (o : Obj) : HProp := fun h => h = fun b' i' => if b' = b ∧ i' = none then some (.obj o) else none
/-- The cells from place 'i' of block 'b' on. -/
def cells (b : Nat) : Nat → List Value → HProp
  | _, [] => emp
  | i, v :: vs => sep (cell b i v) (cells b (i + 1) vs)
theorem cells_append (b i : Nat) (xs ys : List Value) : cells b i (xs ++ ys) = sep (cells b i xs) (cells b (i + xs.length) ys) := by
  induction xs generalizing i with
  | nil => simp [cells, emp_sep]
  | cons x xs ih => simp only [List.cons_append, cells, ih, sep_assoc, List.length_cons]; rw [show i + 1 + xs.length = i + (xs.length + 1) from by omega]
/-- A whole block of cells. -/
def blk (b : Nat) (e : TypeId) (vs : List Value) : HProp := sep (shp b e vs.length) (cells b 0 vs)

/-- The world 'w' is the world 'w0' with new memory; of that the list says what is whose. -/
structure S (w0 w : World) (L : List HProp) : Prop where
  below : Below w0.heap.size w0 w
  has : ∃ h, all L h ∧ ∀ b i t, h b i = some t → w0.heap.size ≤ b ∧ holds w b i = some t

theorem S.perm {w0 w : World} {L M : List HProp} (h : S w0 w L) (p : L.Perm M) : S w0 w M := ⟨h.1, by rw [← all_perm p]; exact h.2⟩
theorem S.conv {w0 w : World} {L M : List HProp} (h : S w0 w L) (p : all L = all M) : S w0 w M := ⟨h.1, by rw [← p]; exact h.2⟩
theorem S.start (w : World) : S w w [] := ⟨Below.refl _ _, Hp.emp, rfl, by intro b i t h; simp [Hp.emp] at h⟩
/-- What is no longer wanted may be let go. -/
theorem S.tail {w0 w : World} {P : HProp} {L : List HProp} (h : S w0 w (P :: L)) : S w0 w L := by
  obtain ⟨hb, h, ⟨g, k, d, rfl, p, q⟩, hh⟩ := h
  refine ⟨hb, k, q, fun b i t e => hh b i t ?_⟩
  rcases d b i with e' | e'
  · simp [Hp.join, e', e]
  · rw [e'] at e; cases e
theorem S.mono {w0 w : World} {P Q : HProp} {L : List HProp} (h : S w0 w (P :: L)) (pq : ∀ h, P h → Q h) : S w0 w (Q :: L) := by
  obtain ⟨hb, h, ⟨g, k, d, rfl, p, q⟩, hh⟩ := h
  exact ⟨hb, _, ⟨g, k, d, rfl, pq _ p, q⟩, hh⟩
theorem S.ex_elim {w0 w : World} {α : Sort _} {P : α → HProp} {L : List HProp} (h : S w0 w (ex P :: L)) : ∃ x, S w0 w (P x :: L) := by
  obtain ⟨hb, h, ⟨g, k, d, rfl, ⟨x, p⟩, q⟩, hh⟩ := h
  exact ⟨x, hb, _, ⟨g, k, d, rfl, p, q⟩, hh⟩
theorem S.ex_intro {w0 w : World} {α : Sort _} {P : α → HProp} {L : List HProp} (x : α) (h : S w0 w (P x :: L)) : S w0 w (ex P :: L) := h.mono fun _ p => ⟨x, p⟩
theorem S.pur_elim {w0 w : World} {p : Prop} {L : List HProp} (h : S w0 w (pur p :: L)) : p ∧ S w0 w L := by
  refine ⟨?_, h.tail⟩
  obtain ⟨_, h, ⟨g, k, d, rfl, ⟨hp, _⟩, q⟩, hh⟩ := h
  exact hp
theorem S.pur_intro {w0 w : World} {p : Prop} {L : List HProp} (hp : p) (h : S w0 w L) : S w0 w (pur p :: L) := by
  obtain ⟨hb, h, q, hh⟩ := h
  exact ⟨hb, h, ⟨Hp.emp, h, Hp.emp_disj h, (Hp.emp_join h).symm, ⟨hp, rfl⟩, q⟩, hh⟩
/-- One whole list as one assertion, and back. -/
theorem S.pack {w0 w : World} (A L : List HProp) (h : S w0 w (A ++ L)) : S w0 w (all A :: L) := h.conv (by simp [all_append, all])
theorem S.unpack {w0 w : World} {A L : List HProp} (h : S w0 w (all A :: L)) : S w0 w (A ++ L) := h.conv (by simp [all_append, all])
theorem S.sep_elim {w0 w : World} {P Q : HProp} {L : List HProp} (h : S w0 w (sep P Q :: L)) : S w0 w (P :: Q :: L) := h.conv (by simp [all, sep_assoc])
theorem S.sep_intro {w0 w : World} {P Q : HProp} {L : List HProp} (h : S w0 w (P :: Q :: L)) : S w0 w (sep P Q :: L) := h.conv (by simp [all, sep_assoc])

/-! ### One cell, one object -/

theorem holds_val {w : World} {b i : Nat} {v : Value} (h : holds w b (some i) = some (.val v)) : w.cell? ⟨b, i, none⟩ = some v ∧ w.frozen? ⟨b, i, none⟩ = false := by
  unfold holds at h
  split at h <;> try (simp at h; done)
  rename_i c e lo hi i' hb hi'
  simp only [Option.some.injEq] at hi'
  subst hi'
  by_cases hf : lo ≤ i ∧ i < hi
  · rw [if_pos hf] at h; simp at h
  · rw [if_neg hf] at h
    simp only [Option.map_eq_some_iff, Thing.val.injEq] at h
    obtain ⟨x, hx, rfl⟩ := h
    refine ⟨by simp [World.cell?, hb, hx], ?_⟩
    simp [World.frozen?, hb]; omega
theorem holds_obj {w : World} {b : Nat} {o : Obj} (h : holds w b none = some (.obj o)) : w.heap[b]? = some o := by
  unfold holds at h
  split at h <;> simp_all
theorem holds_shape {w : World} {b : Nat} {e : TypeId} {n : Nat} (h : holds w b none = some (.shape e n)) : ∃ c, w.heap[b]? = some (.cells c e (0, 0)) ∧ c.size = n := by
  unfold holds at h
  split at h <;> simp_all

variable {w0 w : World} {L : List HProp}

theorem S.at {b : Nat} {i : Option Nat} {t : Thing} {P : HProp} (h : S w0 w (P :: L)) (hp : ∀ g, P g → g b i = some t) : w0.heap.size ≤ b ∧ holds w b i = some t := by
  obtain ⟨_, h, ⟨g, k, d, rfl, p, q⟩, hh⟩ := h
  exact hh b i t (by simp [Hp.join, hp g p])
theorem S.cell1 {b i : Nat} {v : Value} (h : S w0 w (cell b i v :: L)) : w.cell? ⟨b, i, none⟩ = some v := (holds_val (h.at (b := b) (i := some i) (t := .val v) (by rintro _ rfl; simp)).2).1
theorem S.free1 {b i : Nat} {v : Value} (h : S w0 w (cell b i v :: L)) : w.frozen? ⟨b, i, none⟩ = false := (holds_val (h.at (b := b) (i := some i) (t := .val v) (by rintro _ rfl; simp)).2).2
theorem S.new1 {b i : Nat} {v : Value} (h : S w0 w (cell b i v :: L)) : w0.heap.size ≤ b := (h.at (b := b) (i := some i) (t := .val v) (by rintro _ rfl; simp)).1
theorem S.lt1 {b i : Nat} {v : Value} (h : S w0 w (cell b i v :: L)) : b < w.heap.size := World.block_lt_of_cell? w ⟨b, i, none⟩ h.cell1
theorem S.obj {b : Nat} {o : Obj} (h : S w0 w (ob b o :: L)) : w.heap[b]? = some o := holds_obj (h.at (b := b) (i := none) (t := .obj o) (by rintro _ rfl; simp)).2
theorem S.obj_new {b : Nat} {o : Obj} (h : S w0 w (ob b o :: L)) : w0.heap.size ≤ b := (h.at (b := b) (i := none) (t := .obj o) (by rintro _ rfl; simp)).1
theorem S.obj_lt {b : Nat} {o : Obj} (h : S w0 w (ob b o :: L)) : b < w.heap.size := (Array.getElem?_eq_some_iff.1 h.obj).1

theorem cells_at : ∀ (vs : List Value) (b i j : Nat) (v : Value), vs[j]? = some v → ∀ g, cells b i vs g → g b (some (i + j)) = some (.val v)
  | [], _, _, _, _, h, _, _ => by simp at h
  | x :: xs, b, i, 0, v, h, g, ⟨g1, k, d, hg, p, q⟩ => by
    simp at h; subst h; subst hg
    have p' : g1 = _ := p
    simp [Hp.join, p']
  | x :: xs, b, i, j + 1, v, h, g, ⟨g1, k, d, hg, p, q⟩ => by
    subst hg
    have := cells_at xs b (i + 1) j v (by simpa using h) k q
    have p' : g1 = _ := p
    simp only [Hp.join, p']
    rw [show i + (j + 1) = i + 1 + j from by omega, this]
    have : i + 1 + j ≠ i := by omega
    simp [this]
theorem S.cells_cell {b i : Nat} {vs : List Value} (h : S w0 w (cells b i vs :: L)) (j : Nat) {v : Value} (hj : vs[j]? = some v) : w.cell? ⟨b, i + j, none⟩ = some v :=
  (holds_val (h.at (cells_at vs b i j v hj)).2).1
theorem S.cells_free {b i : Nat} {vs : List Value} (h : S w0 w (cells b i vs :: L)) (j : Nat) {v : Value} (hj : vs[j]? = some v) : w.frozen? ⟨b, i + j, none⟩ = false :=
  (holds_val (h.at (cells_at vs b i j v hj)).2).2
theorem S.cells_new {b i : Nat} {vs : List Value} (h : S w0 w (cells b i vs :: L)) (hne : vs ≠ []) : w0.heap.size ≤ b := by
  obtain ⟨v, vs', rfl⟩ := List.exists_cons_of_ne_nil hne
  exact (h.at (cells_at (v :: vs') b i 0 v rfl)).1
theorem S.cells_lt {b i : Nat} {vs : List Value} (h : S w0 w (cells b i vs :: L)) (hne : vs ≠ []) : b < w.heap.size := by
  obtain ⟨v, vs', rfl⟩ := List.exists_cons_of_ne_nil hne
  exact World.block_lt_of_cell? w ⟨b, i + 0, none⟩ (h.cells_cell 0 rfl)

/-! ### What becomes of it -/

theorem S.drew (h : S w0 w L) : S w0 w.drew L := ⟨h.1.drew, h.2⟩

/-- A call, or an operation, that turned no block that there was. -/
theorem S.onto {w' : World} (h : S w0 w L) (hb : Below w.heap.size w w') : S w0 w' L := by
  obtain ⟨b0, g, p, hh⟩ := h
  refine ⟨b0.trans (hb.mono b0.size), g, p, fun b i t e => ⟨(hh b i t e).1, ?_⟩⟩
  have := (hh b i t e).2
  have hlt : b < w.heap.size := by
    rcases Nat.lt_or_ge b w.heap.size with h' | h'
    · exact h'
    · unfold holds at this; rw [Array.getElem?_eq_none h'] at this; simp at this
  rw [← this]
  unfold holds
  rw [hb.block b hlt]

theorem holds_setCell {b i : Nat} {v u : Value} (h : holds w b (some i) = some (.val v)) : holds (w.setCell ⟨b, i, none⟩ u) b (some i) = some (.val u) := by
  have hc := (holds_val h).1
  have hf := (holds_val h).2
  unfold holds at h ⊢
  simp only [World.setCell, Array.getElem?_modify, ↓reduceIte]
  split at h <;> try (simp at h; done)
  rename_i c e lo hi i' hb hi'
  simp only [Option.some.injEq] at hi'
  subst hi'
  rw [hb]
  simp only [Option.map_some]
  by_cases hfz : lo ≤ i ∧ i < hi
  · rw [if_pos hfz] at h; simp at h
  · rw [if_neg hfz] at h ⊢
    simp only [Option.map_eq_some_iff, Thing.val.injEq] at h
    obtain ⟨x, hx, rfl⟩ := h
    have := (Array.getElem?_eq_some_iff.1 hx).1
    simp [this]
theorem holds_setCell_other {b i b' : Nat} {j : Option Nat} {u : Value} (h : ¬ (b' = b ∧ j = some i)) : holds (w.setCell ⟨b, i, none⟩ u) b' j = holds w b' j := by
  unfold holds
  simp only [World.setCell, Array.getElem?_modify]
  by_cases hb : b = b'
  · subst hb
    simp only [↓reduceIte]
    cases hx : w.heap[b]? with
    | none => simp
    | some o =>
      cases o <;> cases j <;> simp
      rename_i c e f j
      have : i ≠ j := fun e => h ⟨rfl, by rw [e]⟩
      simp [this]
  · rw [if_neg hb]

theorem S.set1 {b i : Nat} {v u : Value} (h : S w0 w (cell b i v :: L)) : S w0 (w.setCell ⟨b, i, none⟩ u) (cell b i u :: L) := by
  have hn := h.new1
  obtain ⟨b0, x, ⟨g, k, d, rfl, p, q⟩, hh⟩ := h
  have p' : g = _ := p
  refine ⟨b0.setCell hn _, _, ⟨_, k, ?_, rfl, rfl, q⟩, ?_⟩
  · intro b' i'
    rcases d b' i' with e | e
    · rw [p'] at e; simp only at e; left; split at e <;> simp_all
    · exact .inr e
  · intro b' i' t e
    simp only [Hp.join] at e
    by_cases hx : b' = b ∧ i' = some i
    · rw [if_pos hx] at e
      obtain ⟨rfl, rfl⟩ := hx
      simp at e; subst e
      exact ⟨hn, holds_setCell (v := v) (hh b' (some i) (.val v) (by simp [Hp.join, p'])).2⟩
    · rw [if_neg hx] at e
      have := hh b' i' t (by simp only [Hp.join, p']; rw [if_neg hx]; exact e)
      exact ⟨this.1, by rw [holds_setCell_other hx]; exact this.2⟩

theorem cells_set : ∀ (vs : List Value) (b i j : Nat) (v : Value), vs[j]? = some v → ∃ F : HProp, cells b i vs = sep (cell b (i + j) v) F ∧ ∀ u, cells b i (vs.set j u) = sep (cell b (i + j) u) F
  | [], _, _, _, _, h => by simp at h
  | x :: xs, b, i, 0, v, h => by simp at h; subst h; exact ⟨cells b (i + 1) xs, rfl, fun u => rfl⟩
  | x :: xs, b, i, j + 1, v, h => by
    obtain ⟨F, h1, h2⟩ := cells_set xs b (i + 1) j v (by simpa using h)
    refine ⟨sep (cell b i x) F, ?_, fun u => ?_⟩
    · simp only [cells]; rw [h1, sep_left_comm, show i + 1 + j = i + (j + 1) from by omega]
    · simp only [List.set_cons_succ, cells]; rw [h2, sep_left_comm, show i + 1 + j = i + (j + 1) from by omega]
theorem S.set {b i : Nat} {vs : List Value} (h : S w0 w (cells b i vs :: L)) (j : Nat) (hj : j < vs.length) (u : Value) : S w0 (w.setCell ⟨b, i + j, none⟩ u) (cells b i (vs.set j u) :: L) := by
  obtain ⟨F, h1, h2⟩ := cells_set vs b i j vs[j] (by simp [hj])
  rw [h1] at h
  rw [h2]
  exact (h.sep_elim.set1 (u := u)).sep_intro

theorem holds_alloc_new (o : Obj) (j : Option Nat) : holds (w.alloc o) w.heap.size j = match o, j with
    | .cells c _ (lo, hi), some i => if lo ≤ i ∧ i < hi then none else (c[i]?).map .val
    | .cells c e (lo, hi), none => if lo = 0 ∧ hi = 0 then some (.shape e c.size) else none
    | _, some _ => none
    | o, none => some (.obj o) := by
  unfold holds
  simp only [World.alloc, Array.getElem?_push_size]
  cases o <;> cases j <;> rfl

/-- New memory. -/
theorem S.add {P : HProp} {w' : World} (h : S w0 w L) (hb : Below w.heap.size w w') (hp : ∃ g, P g ∧ ∀ b i t, g b i = some t → w.heap.size ≤ b ∧ holds w' b i = some t) : S w0 w' (P :: L) := by
  have hz := h.1.size
  obtain ⟨b1, k, q, hh⟩ := h.onto hb
  obtain ⟨_, k0, q0, hh0⟩ := h
  obtain ⟨g, p, hg⟩ := hp
  have hlt : ∀ b i t, k0 b i = some t → b < w.heap.size := by
    intro b i t e
    have := (hh0 b i t e).2
    rcases Nat.lt_or_ge b w.heap.size with h' | h'
    · exact h'
    · unfold holds at this; rw [Array.getElem?_eq_none h'] at this; simp at this
  have hsame : ∀ b i t, k0 b i = some t → holds w' b i = some t := by
    intro b i t e
    rw [← (hh0 b i t e).2]; unfold holds; rw [hb.block b (hlt b i t e)]
  refine ⟨b1, g.join k0, ⟨g, k0, ?_, rfl, p, q0⟩, ?_⟩
  · intro b i
    cases hgi : g b i with
    | none => exact .inl rfl
    | some t =>
      right
      cases hki : k0 b i with
      | none => rfl
      | some t' => have := (hg b i t hgi).1; have := hlt b i t' hki; omega
  · intro b i t e
    simp only [Hp.join] at e
    cases hgi : g b i with
    | none => rw [hgi] at e; simp at e; exact ⟨(hh0 b i t e).1, hsame b i t e⟩
    | some t' => rw [hgi] at e; simp at e; subst e; exact ⟨by have := (hg b i t' hgi).1; omega, (hg b i t' hgi).2⟩

def cellsHp (b i : Nat) (vs : List Value) : Hp := fun b' j => if b' = b then (match j with | some j => if i ≤ j then (vs[j - i]?).map .val else none | none => none) else none
theorem cells_hp : ∀ (vs : List Value) (b i : Nat), cells b i vs (cellsHp b i vs)
  | [], b, i => by
    show cellsHp b i [] = Hp.emp
    funext b' j; unfold cellsHp Hp.emp; split <;> cases j <;> simp
  | v :: vs, b, i => by
    refine ⟨_, cellsHp b (i + 1) vs, ?_, ?_, rfl, cells_hp vs b (i + 1)⟩
    · intro b' j
      by_cases hx : b' = b ∧ j = some i
      · obtain ⟨rfl, rfl⟩ := hx; right; simp [cellsHp]; intro hh; omega
      · left; exact if_neg hx
    · funext b' j
      simp only [Hp.join, cellsHp]
      by_cases hb : b' = b
      · subst hb
        cases j with
        | none => simp
        | some j =>
          simp only [↓reduceIte, Option.some.injEq, true_and]
          by_cases h1 : j = i
          · subst h1; simp
          · by_cases h2 : i ≤ j
            · rw [if_pos h2, if_neg h1, if_pos (by omega), show j - i = (j - (i + 1)) + 1 from by omega]; simp
            · rw [if_neg h2, if_neg h1, if_neg (by omega)]; simp
      · simp [hb]
theorem blk_hp (b : Nat) (e : TypeId) (vs : List Value) : ∃ g, blk b e vs g ∧ ∀ b' i t, g b' i = some t → b' = b ∧ match i with | some i => ∃ v, vs[i]? = some v ∧ t = .val v | none => t = .shape e vs.length := by
  refine ⟨_, ⟨_, cellsHp b 0 vs, ?_, rfl, rfl, cells_hp vs b 0⟩, ?_⟩
  · intro b' j
    by_cases hx : b' = b ∧ j = none
    · obtain ⟨rfl, rfl⟩ := hx; right; simp [cellsHp]
    · left; exact if_neg hx
  · intro b' j t ht
    simp only [Hp.join, cellsHp] at ht
    by_cases hb : b' = b
    · refine ⟨hb, ?_⟩
      subst hb
      cases j with
      | none => simp at ht; exact ht.symm
      | some j =>
        simp at ht
        obtain ⟨v, hv, rfl⟩ := ht
        exact ⟨v, by simp [hv], rfl⟩
    · simp [hb] at ht

theorem S.alloc (h : S w0 w L) (cs : Array Value) (e : TypeId) : S w0 (w.alloc (.cells cs e)) (blk w.heap.size e cs.toList :: L) := by
  refine h.add ((Below.refl _ _).alloc (Nat.le_refl _) _) ?_
  obtain ⟨g, p, hg⟩ := blk_hp w.heap.size e cs.toList
  refine ⟨g, p, fun b i t ht => ?_⟩
  obtain ⟨rfl, ht'⟩ := hg b i t ht
  refine ⟨Nat.le_refl _, ?_⟩
  rw [holds_alloc_new]
  cases i with
  | none => simp at ht'; subst ht'; simp
  | some i => obtain ⟨v, hv, rfl⟩ := ht'; simp at hv ⊢; exact hv
theorem S.alloc_obj (h : S w0 w L) (o : Obj) (ho : ∀ c e f, o ≠ .cells c e f) : S w0 (w.alloc o) (ob w.heap.size o :: L) := by
  refine h.add ((Below.refl _ _).alloc (Nat.le_refl _) _) ⟨_, rfl, fun b i t ht => ?_⟩
  split at ht
  · rename_i hx; obtain ⟨rfl, rfl⟩ := hx
    simp at ht; subst ht
    refine ⟨Nat.le_refl _, ?_⟩
    rw [holds_alloc_new]
    cases o <;> simp_all
  · simp at ht

/-- The world with another object in a block. -/
def setObjW (w : World) (r : Nat) (o : Obj) : World := { w with heap := w.heap.setIfInBounds r o }
theorem S.set_obj {b : Nat} {o o' : Obj} (h : S w0 w (ob b o :: L)) (ho : ∀ c e f, o ≠ .cells c e f) (ho' : ∀ c e f, o' ≠ .cells c e f) : S w0 (setObjW w b o') (ob b o' :: L) := by
  have hn := h.obj_new
  have hl := h.obj_lt
  have hob := h.obj
  obtain ⟨b0, x, ⟨g, k, d, rfl, p, q⟩, hh⟩ := h
  have p' : g = _ := p
  refine ⟨?_, _, ⟨_, k, ?_, rfl, rfl, q⟩, ?_⟩
  · refine ⟨b0.os, b0.tape, b0.output, by simpa [setObjW] using b0.size, fun j hj => ?_⟩
    rw [← b0.block j hj]
    simp only [setObjW]
    rw [Array.getElem?_setIfInBounds_ne (by omega)]
  · intro b' i'
    rcases d b' i' with e | e
    · rw [p'] at e; simp only at e; left; split at e <;> simp_all
    · exact .inr e
  · intro b' i' t e
    simp only [Hp.join] at e
    by_cases hx : b' = b ∧ i' = none
    · rw [if_pos hx] at e
      obtain ⟨rfl, rfl⟩ := hx
      simp at e; subst e
      refine ⟨hn, ?_⟩
      unfold holds setObjW
      simp only [Array.getElem?_setIfInBounds_self, hl, ↓reduceIte]
      cases o' <;> simp_all
    · rw [if_neg hx] at e
      simp at e
      have := hh b' i' t (by simp only [Hp.join, p']; rw [if_neg hx]; exact e)
      refine ⟨this.1, ?_⟩
      rw [← this.2]
      unfold holds setObjW
      by_cases hb : b' = b
      · subst hb
        have hi : i' ≠ none := fun e => hx ⟨rfl, e⟩
        cases i' with
        | none => exact absurd rfl hi
        | some i' =>
          simp only [Array.getElem?_setIfInBounds_self, hl, ↓reduceIte, hob]
          cases o' <;> cases o <;> simp_all
      · rw [Array.getElem?_setIfInBounds_ne (fun e => hb e.symm)]

end Go.Sep
