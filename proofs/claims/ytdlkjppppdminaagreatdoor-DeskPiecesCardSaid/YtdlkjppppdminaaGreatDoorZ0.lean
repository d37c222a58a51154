/- The program's store: what its memory is, and what each of its functions computes. -/
import Derived.WalkKit
import Derived.Maps.RangeRun
import Derived.Deep.QuietTactic
/- One of the texts. -/
namespace Go.Proofs.YtdlkjppppdminaaGreatDoor
open Go Go.RowKit
theorem putU : (∀ (a : Act) (i : Nat) (v : Value), a.put (some i) v = { a with tmps := a.tmps.setIfInBounds i v }) ∧ (∀ (a : Act) (v : Value), a.put none v = a) ∧ (∀ (l : List Value) (i : Nat) (v : Value), l.toArray.setIfInBounds i v = (l.set i v).toArray) ∧
  (∀ (a b : Value) (l : List Value), (a :: l).set 0 b = b :: l) ∧ (∀ (a b : Value) (l : List Value) (n : Nat), (a :: l).set (n + 1) b = a :: l.set n b) ∧ (∀ (l : List Oper) (i : Nat) (h : i < l.toArray.size), l.toArray[i] = l[i]'(by simpa using h)) ∧
  (∀ (a : Oper) (l : List Oper) (h : 0 < (a :: l).length), (a :: l)[0] = a) ∧ (∀ (a : Oper) (l : List Oper) (i : Nat) (h : i + 1 < (a :: l).length), (a :: l)[i + 1] = l[i]'(by simpa using h)) :=
 ⟨fun _ _ _ => rfl, fun _ _ => rfl, fun l i v => by simp, fun _ _ _ => rfl, fun _ _ _ _ => rfl, fun l i h => by simp, fun _ _ _ => rfl, fun _ _ _ _ => rfl⟩
end Go.Proofs.YtdlkjppppdminaaGreatDoor
/- Ownership of cells and objects on the model's heap, as lists of assertions: the words in which all contracts of this claim are stated. No program in sight. -/
namespace Go.Sep
open Go Go.RowKit
inductive Thing where
 | val (v : Value)
 | shape (e : TypeId) (n : Nat)
 | obj (o : Obj)
def holds (w : World) (b : Nat) (i : Option Nat) : Option Thing :=
 match w.heap[b]?, i with
 | some (.cells c _ (lo, hi)), some i => if lo ≤ i ∧ i < hi then none else (c[i]?).map .val
 | some (.cells c e (lo, hi)), none => if lo = 0 ∧ hi = 0 then some (.shape e c.size) else none
 | some _, some _ => none
 | some o, none => some (.obj o)
 | none, _ => none
abbrev Hp := Nat → Option Nat → Option Thing
def HProp := Hp → Prop
def Hp.disj (g h : Hp) : Prop := ∀ b i, g b i = none ∨ h b i = none
def Hp.join (g h : Hp) : Hp := fun b i => (g b i).or (h b i)
def Hp.emp : Hp := fun _ _ => none
theorem Hp.join_comm {g h : Hp} (d : g.disj h) : g.join h = h.join g := by
 funext b i; unfold Hp.join; rcases d b i with e | e <;> simp [e]
theorem Hp.join_assoc (f g h : Hp) : (f.join g).join h = f.join (g.join h) := by
 funext b i; unfold Hp.join; cases f b i <;> simp
theorem Hp.disj_comm {g h : Hp} (d : g.disj h) : h.disj g := fun b i => (d b i).symm
theorem Hp.disj_join_left {f g h : Hp} : (f.join g).disj h ↔ f.disj h ∧ g.disj h := by
 constructor
 ·intro d
  refine ⟨fun b i => ?_, fun b i => ?_⟩ <;> rcases d b i with e | e
  ·unfold Hp.join at e; cases hf : f b i <;> simp_all
  ·exact .inr e
  ·unfold Hp.join at e; cases hf : f b i <;> simp_all
  ·exact .inr e
 ·intro ⟨a, c⟩ b i
  unfold Hp.join
  rcases a b i with e | e
  ·rcases c b i with e' | e' <;> simp [e, e']
  ·simp [e]
theorem Hp.disj_join_right {f g h : Hp} : f.disj (g.join h) ↔ f.disj g ∧ f.disj h := by
 constructor
 ·intro d; have := Hp.disj_join_left.1 (Hp.disj_comm d); exact ⟨Hp.disj_comm this.1, Hp.disj_comm this.2⟩
 ·intro ⟨a, c⟩; exact Hp.disj_comm (Hp.disj_join_left.2 ⟨Hp.disj_comm a, Hp.disj_comm c⟩)
theorem Hp.emp_join (h : Hp) : Hp.emp.join h = h := by funext b i; simp [Hp.emp, Hp.join]
theorem Hp.emp_disj (h : Hp) : Hp.emp.disj h := fun _ _ => .inl rfl
def sep (P Q : HProp) : HProp := fun h => ∃ g k, Hp.disj g k ∧ h = Hp.join g k ∧ P g ∧ Q k
def emp : HProp := fun h => h = Hp.emp
def pur (p : Prop) : HProp := fun h => p ∧ h = Hp.emp
def ex {α : Sort _} (P : α → HProp) : HProp := fun h => ∃ x, P x h
theorem sep_comm (P Q : HProp) : sep P Q = sep Q P := by
 funext h; apply propext; constructor
 all_goals
  rintro ⟨g, k, d, rfl, p, q⟩
  exact ⟨k, g, Hp.disj_comm d, Hp.join_comm d, q, p⟩
theorem sep_assoc (P Q R : HProp) : sep (sep P Q) R = sep P (sep Q R) := by
 funext h; apply propext; constructor
 ·rintro ⟨g, k, d, rfl, ⟨g1, g2, d1, rfl, p, q⟩, r⟩
  obtain ⟨da, db⟩ := Hp.disj_join_left.1 d
  exact ⟨g1, g2.join k, Hp.disj_join_right.2 ⟨d1, da⟩, Hp.join_assoc _ _ _, p, g2, k, db, rfl, q, r⟩
 ·rintro ⟨g, k, d, rfl, p, ⟨k1, k2, d1, rfl, q, r⟩⟩
  obtain ⟨da, db⟩ := Hp.disj_join_right.1 d
  exact ⟨g.join k1, k2, Hp.disj_join_left.2 ⟨db, d1⟩, (Hp.join_assoc _ _ _).symm, ⟨g, k1, da, rfl, p, q⟩, r⟩
theorem emp_sep (P : HProp) : sep emp P = P := by
 funext h; apply propext; constructor
 ·rintro ⟨g, k, _, rfl, rfl, p⟩; rw [Hp.emp_join]; exact p
 ·intro p; exact ⟨Hp.emp, h, Hp.emp_disj h, (Hp.emp_join h).symm, rfl, p⟩
theorem sep_emp (P : HProp) : sep P emp = P := by rw [sep_comm, emp_sep]
theorem sep_left_comm (P Q R : HProp) : sep P (sep Q R) = sep Q (sep P R) := by
 rw [← sep_assoc, sep_comm P Q, sep_assoc]
def all : List HProp → HProp
 | [] => emp
 | P :: L => sep P (all L)
theorem all_append (L M : List HProp) : all (L ++ M) = sep (all L) (all M) := by
 induction L with
 | nil => simp [all, emp_sep]
 | cons P L ih => simp [all, ih, sep_assoc]
theorem all_perm {L M : List HProp} (h : L.Perm M) : all L = all M := by
 induction h with
 | nil => rfl
 | cons _ _ ih => simp [all, ih]
 | swap _ _ _ => simp only [all]; rw [sep_left_comm]
 | trans _ _ h1 h2 => exact h1.trans h2
def cell (b i : Nat) (v : Value) : HProp := fun h => h = fun b' i' => if b' = b ∧ i' = some i then some (.val v) else none
def shp (b : Nat) (e : TypeId) (n : Nat) : HProp := fun h => h = fun b' i' => if b' = b ∧ i' = none then some (.shape e n) else none
def ob (b : Nat) (o : Obj) : HProp := fun h => h = fun b' i' => if b' = b ∧ i' = none then some (.obj o) else none
def cells (b : Nat) : Nat → List Value → HProp
 | _, [] => emp
 | i, v :: vs => sep (cell b i v) (cells b (i + 1) vs)
theorem cells_append (b i : Nat) (xs ys : List Value) : cells b i (xs ++ ys) = sep (cells b i xs) (cells b (i + xs.length) ys) := by
 induction xs generalizing i with
 | nil => simp [cells, emp_sep]
 | cons x xs ih => simp only [List.cons_append, cells, ih, sep_assoc, List.length_cons]; rw [show i + 1 + xs.length = i + (xs.length + 1) from by omega]
def blk (b : Nat) (e : TypeId) (vs : List Value) : HProp := sep (shp b e vs.length) (cells b 0 vs)
structure S (w0 w : World) (L : List HProp) : Prop where
 below : Below w0.heap.size w0 w
 has : ∃ h, all L h ∧ ∀ b i t, h b i = some t → w0.heap.size ≤ b ∧ holds w b i = some t
theorem S.perm {w0 w : World} {L M : List HProp} (h : S w0 w L) (p : L.Perm M) : S w0 w M := ⟨h.1, by rw [← all_perm p]; exact h.2⟩
theorem S.conv {w0 w : World} {L M : List HProp} (h : S w0 w L) (p : all L = all M) : S w0 w M := ⟨h.1, by rw [← p]; exact h.2⟩
theorem S.start (w : World) : S w w [] := ⟨Below.refl _ _, Hp.emp, rfl, by intro b i t h; simp [Hp.emp] at h⟩
theorem S.tail {w0 w : World} {P : HProp} {L : List HProp} (h : S w0 w (P :: L)) : S w0 w L := by
 obtain ⟨hb, h, ⟨g, k, d, rfl, p, q⟩, hh⟩ := h
 refine ⟨hb, k, q, fun b i t e => hh b i t ?_⟩
 rcases d b i with e' | e'
 ·simp [Hp.join, e', e]
 ·rw [e'] at e; cases e
theorem S.mono {w0 w : World} {P Q : HProp} {L : List HProp} (h : S w0 w (P :: L)) (pq : ∀ h, P h → Q h) : S w0 w (Q :: L) := by
 obtain ⟨hb, h, ⟨g, k, d, rfl, p, q⟩, hh⟩ := h
 exact ⟨hb, _, ⟨g, k, d, rfl, pq _ p, q⟩, hh⟩
theorem S.ex_elim {w0 w : World} {α : Sort _} {P : α → HProp} {L : List HProp} (h : S w0 w (ex P :: L)) : ∃ x, S w0 w (P x :: L) := by
 obtain ⟨hb, h, ⟨g, k, d, rfl, ⟨x, p⟩, q⟩, hh⟩ := h
 exact ⟨x, hb, _, ⟨g, k, d, rfl, p, q⟩, hh⟩
theorem S.ex_intro {w0 w : World} {α : Sort _} {P : α → HProp} {L : List HProp} (x : α) (h : S w0 w (P x :: L)) : S w0 w (ex P :: L) := h.mono fun _ p => ⟨x, p⟩
theorem S.pur_elim {w0 w : World} {p : Prop} {L : List HProp} (h : S w0 w (pur p :: L)) : p ∧ S w0 w L := by
 refine ⟨?_, h.tail⟩
 obtain ⟨_, h, ⟨g, k, d, rfl, ⟨hp, _⟩, q⟩, hh⟩ := h
 exact hp
theorem S.pur_intro {w0 w : World} {p : Prop} {L : List HProp} (hp : p) (h : S w0 w L) : S w0 w (pur p :: L) := by
 obtain ⟨hb, h, q, hh⟩ := h
 exact ⟨hb, h, ⟨Hp.emp, h, Hp.emp_disj h, (Hp.emp_join h).symm, ⟨hp, rfl⟩, q⟩, hh⟩
theorem S.pack {w0 w : World} (A L : List HProp) (h : S w0 w (A ++ L)) : S w0 w (all A :: L) := h.conv (by simp [all_append, all])
theorem S.unpack {w0 w : World} {A L : List HProp} (h : S w0 w (all A :: L)) : S w0 w (A ++ L) := h.conv (by simp [all_append, all])
theorem S.sep_elim {w0 w : World} {P Q : HProp} {L : List HProp} (h : S w0 w (sep P Q :: L)) : S w0 w (P :: Q :: L) := h.conv (by simp [all, sep_assoc])
theorem S.sep_intro {w0 w : World} {P Q : HProp} {L : List HProp} (h : S w0 w (P :: Q :: L)) : S w0 w (sep P Q :: L) := h.conv (by simp [all, sep_assoc])
theorem holds_val {w : World} {b i : Nat} {v : Value} (h : holds w b (some i) = some (.val v)) : w.cell? ⟨b, i, none⟩ = some v ∧ w.frozen? ⟨b, i, none⟩ = false := by
 unfold holds at h
 split at h <;> try (simp at h; done)
 rename_i c e lo hi i' hb hi'
 simp only [Option.some.injEq] at hi'
 subst hi'
 by_cases hf : lo ≤ i ∧ i < hi
 ·rw [if_pos hf] at h; simp at h
 ·rw [if_neg hf] at h
  simp only [Option.map_eq_some_iff, Thing.val.injEq] at h
  obtain ⟨x, hx, rfl⟩ := h
  refine ⟨by simp [World.cell?, hb, hx], ?_⟩
  simp [World.frozen?, hb]; omega
theorem holds_obj {w : World} {b : Nat} {o : Obj} (h : holds w b none = some (.obj o)) : w.heap[b]? = some o := by
 unfold holds at h
 split at h <;> simp_all
theorem holds_shape {w : World} {b : Nat} {e : TypeId} {n : Nat} (h : holds w b none = some (.shape e n)) : ∃ c, w.heap[b]? = some (.cells c e (0, 0)) ∧ c.size = n := by
 unfold holds at h
 split at h <;> simp_all
variable {w0 w : World} {L : List HProp}
theorem S.at {b : Nat} {i : Option Nat} {t : Thing} {P : HProp} (h : S w0 w (P :: L)) (hp : ∀ g, P g → g b i = some t) : w0.heap.size ≤ b ∧ holds w b i = some t := by
 obtain ⟨_, h, ⟨g, k, d, rfl, p, q⟩, hh⟩ := h
 exact hh b i t (by simp [Hp.join, hp g p])
theorem S.new1 {b i : Nat} {v : Value} (h : S w0 w (cell b i v :: L)) : w0.heap.size ≤ b := (h.at (b := b) (i := some i) (t := .val v) (by rintro _ rfl; simp)).1
theorem S.obj {b : Nat} {o : Obj} (h : S w0 w (ob b o :: L)) : w.heap[b]? = some o := holds_obj (h.at (b := b) (i := none) (t := .obj o) (by rintro _ rfl; simp)).2
theorem S.obj_new {b : Nat} {o : Obj} (h : S w0 w (ob b o :: L)) : w0.heap.size ≤ b := (h.at (b := b) (i := none) (t := .obj o) (by rintro _ rfl; simp)).1
theorem S.obj_lt {b : Nat} {o : Obj} (h : S w0 w (ob b o :: L)) : b < w.heap.size := (Array.getElem?_eq_some_iff.1 h.obj).1
theorem cells_at : ∀ (vs : List Value) (b i j : Nat) (v : Value), vs[j]? = some v → ∀ g, cells b i vs g → g b (some (i + j)) = some (.val v)
 | [], _, _, _, _, h, _, _ => by simp at h
 | x :: xs, b, i, 0, v, h, g, ⟨g1, k, d, hg, p, q⟩ => by
  simp at h; subst h; subst hg
  have p' : g1 = _ := p
  simp [Hp.join, p']
 | x :: xs, b, i, j + 1, v, h, g, ⟨g1, k, d, hg, p, q⟩ => by
  subst hg
  have := cells_at xs b (i + 1) j v (by simpa using h) k q
  have p' : g1 = _ := p
  simp only [Hp.join, p']
  rw [show i + (j + 1) = i + 1 + j from by omega, this]
  have : i + 1 + j ≠ i := by omega
  simp [this]
theorem S.cells_cell {b i : Nat} {vs : List Value} (h : S w0 w (cells b i vs :: L)) (j : Nat) {v : Value} (hj : vs[j]? = some v) : w.cell? ⟨b, i + j, none⟩ = some v :=
 (holds_val (h.at (cells_at vs b i j v hj)).2).1
theorem S.cells_free {b i : Nat} {vs : List Value} (h : S w0 w (cells b i vs :: L)) (j : Nat) {v : Value} (hj : vs[j]? = some v) : w.frozen? ⟨b, i + j, none⟩ = false :=
 (holds_val (h.at (cells_at vs b i j v hj)).2).2
theorem S.cells_new {b i : Nat} {vs : List Value} (h : S w0 w (cells b i vs :: L)) (hne : vs ≠ []) : w0.heap.size ≤ b := by
 obtain ⟨v, vs', rfl⟩ := List.exists_cons_of_ne_nil hne
 exact (h.at (cells_at (v :: vs') b i 0 v rfl)).1
theorem S.cells_lt {b i : Nat} {vs : List Value} (h : S w0 w (cells b i vs :: L)) (hne : vs ≠ []) : b < w.heap.size := by
 obtain ⟨v, vs', rfl⟩ := List.exists_cons_of_ne_nil hne
 exact World.block_lt_of_cell? w ⟨b, i + 0, none⟩ (h.cells_cell 0 rfl)
theorem S.drew (h : S w0 w L) : S w0 w.drew L := ⟨h.1.drew, h.2⟩
theorem S.onto {w' : World} (h : S w0 w L) (hb : Below w.heap.size w w') : S w0 w' L := by
 obtain ⟨b0, g, p, hh⟩ := h
 refine ⟨b0.trans (hb.mono b0.size), g, p, fun b i t e => ⟨(hh b i t e).1, ?_⟩⟩
 have := (hh b i t e).2
 have hlt : b < w.heap.size := by
  rcases Nat.lt_or_ge b w.heap.size with h' | h'
  ·exact h'
  ·unfold holds at this; rw [Array.getElem?_eq_none h'] at this; simp at this
 rw [← this]
 unfold holds
 rw [hb.block b hlt]
theorem holds_setCell {b i : Nat} {v u : Value} (h : holds w b (some i) = some (.val v)) : holds (w.setCell ⟨b, i, none⟩ u) b (some i) = some (.val u) := by
 have hc := (holds_val h).1
 have hf := (holds_val h).2
 unfold holds at h ⊢
 simp only [World.setCell, Array.getElem?_modify, ↓reduceIte]
 split at h <;> try (simp at h; done)
 rename_i c e lo hi i' hb hi'
 simp only [Option.some.injEq] at hi'
 subst hi'
 rw [hb]
 simp only [Option.map_some]
 by_cases hfz : lo ≤ i ∧ i < hi
 ·rw [if_pos hfz] at h; simp at h
 ·rw [if_neg hfz] at h ⊢
  simp only [Option.map_eq_some_iff, Thing.val.injEq] at h
  obtain ⟨x, hx, rfl⟩ := h
  have := (Array.getElem?_eq_some_iff.1 hx).1
  simp [this]
theorem holds_setCell_other {b i b' : Nat} {j : Option Nat} {u : Value} (h : ¬ (b' = b ∧ j = some i)) : holds (w.setCell ⟨b, i, none⟩ u) b' j = holds w b' j := by
 unfold holds
 simp only [World.setCell, Array.getElem?_modify]
 by_cases hb : b = b'
 ·subst hb
  simp only [↓reduceIte]
  cases hx : w.heap[b]? with
  | none => simp
  | some o =>
   cases o <;> cases j <;> simp
   rename_i c e f j
   have : i ≠ j := fun e => h ⟨rfl, by rw [e]⟩
   simp [this]
 ·rw [if_neg hb]
theorem S.set1 {b i : Nat} {v u : Value} (h : S w0 w (cell b i v :: L)) : S w0 (w.setCell ⟨b, i, none⟩ u) (cell b i u :: L) := by
 have hn := h.new1
 obtain ⟨b0, x, ⟨g, k, d, rfl, p, q⟩, hh⟩ := h
 have p' : g = _ := p
 refine ⟨b0.setCell hn _, _, ⟨_, k, ?_, rfl, rfl, q⟩, ?_⟩
 ·intro b' i'
  rcases d b' i' with e | e
  ·rw [p'] at e; simp only at e; left; split at e <;> simp_all
  ·exact .inr e
 ·intro b' i' t e
  simp only [Hp.join] at e
  by_cases hx : b' = b ∧ i' = some i
  ·rw [if_pos hx] at e
   obtain ⟨rfl, rfl⟩ := hx
   simp at e; subst e
   exact ⟨hn, holds_setCell (v := v) (hh b' (some i) (.val v) (by simp [Hp.join, p'])).2⟩
  ·rw [if_neg hx] at e
   have := hh b' i' t (by simp only [Hp.join, p']; rw [if_neg hx]; exact e)
   exact ⟨this.1, by rw [holds_setCell_other hx]; exact this.2⟩
theorem cells_set : ∀ (vs : List Value) (b i j : Nat) (v : Value), vs[j]? = some v → ∃ F : HProp, cells b i vs = sep (cell b (i + j) v) F ∧ ∀ u, cells b i (vs.set j u) = sep (cell b (i + j) u) F
 | [], _, _, _, _, h => by simp at h
 | x :: xs, b, i, 0, v, h => by simp at h; subst h; exact ⟨cells b (i + 1) xs, rfl, fun u => rfl⟩
 | x :: xs, b, i, j + 1, v, h => by
  obtain ⟨F, h1, h2⟩ := cells_set xs b (i + 1) j v (by simpa using h)
  refine ⟨sep (cell b i x) F, ?_, fun u => ?_⟩
  ·simp only [cells]; rw [h1, sep_left_comm, show i + 1 + j = i + (j + 1) from by omega]
  ·simp only [List.set_cons_succ, cells]; rw [h2, sep_left_comm, show i + 1 + j = i + (j + 1) from by omega]
theorem S.set {b i : Nat} {vs : List Value} (h : S w0 w (cells b i vs :: L)) (j : Nat) (hj : j < vs.length) (u : Value) : S w0 (w.setCell ⟨b, i + j, none⟩ u) (cells b i (vs.set j u) :: L) := by
 obtain ⟨F, h1, h2⟩ := cells_set vs b i j vs[j] (by simp [hj])
 rw [h1] at h
 rw [h2]
 exact (h.sep_elim.set1 (u := u)).sep_intro
theorem holds_alloc_new (o : Obj) (j : Option Nat) : holds (w.alloc o) w.heap.size j = match o, j with
  | .cells c _ (lo, hi), some i => if lo ≤ i ∧ i < hi then none else (c[i]?).map .val
  | .cells c e (lo, hi), none => if lo = 0 ∧ hi = 0 then some (.shape e c.size) else none
  | _, some _ => none
  | o, none => some (.obj o) := by
 unfold holds
 simp only [World.alloc, Array.getElem?_push_size]
 cases o <;> cases j <;> rfl
theorem S.add {P : HProp} {w' : World} (h : S w0 w L) (hb : Below w.heap.size w w') (hp : ∃ g, P g ∧ ∀ b i t, g b i = some t → w.heap.size ≤ b ∧ holds w' b i = some t) : S w0 w' (P :: L) := by
 have hz := h.1.size
 obtain ⟨b1, k, q, hh⟩ := h.onto hb
 obtain ⟨_, k0, q0, hh0⟩ := h
 obtain ⟨g, p, hg⟩ := hp
 have hlt : ∀ b i t, k0 b i = some t → b < w.heap.size := by
  intro b i t e
  have := (hh0 b i t e).2
  rcases Nat.lt_or_ge b w.heap.size with h' | h'
  ·exact h'
  ·unfold holds at this; rw [Array.getElem?_eq_none h'] at this; simp at this
 have hsame : ∀ b i t, k0 b i = some t → holds w' b i = some t := by
  intro b i t e
  rw [← (hh0 b i t e).2]; unfold holds; rw [hb.block b (hlt b i t e)]
 refine ⟨b1, g.join k0, ⟨g, k0, ?_, rfl, p, q0⟩, ?_⟩
 ·intro b i
  cases hgi : g b i with
  | none => exact .inl rfl
  | some t =>
   right
   cases hki : k0 b i with
   | none => rfl
   | some t' => have := (hg b i t hgi).1; have := hlt b i t' hki; omega
 ·intro b i t e
  simp only [Hp.join] at e
  cases hgi : g b i with
  | none => rw [hgi] at e; simp at e; exact ⟨(hh0 b i t e).1, hsame b i t e⟩
  | some t' => rw [hgi] at e; simp at e; subst e; exact ⟨by have := (hg b i t' hgi).1; omega, (hg b i t' hgi).2⟩
def cellsHp (b i : Nat) (vs : List Value) : Hp := fun b' j => if b' = b then (match j with | some j => if i ≤ j then (vs[j - i]?).map .val else none | none => none) else none
theorem cells_hp : ∀ (vs : List Value) (b i : Nat), cells b i vs (cellsHp b i vs)
 | [], b, i => by
  show cellsHp b i [] = Hp.emp
  funext b' j; unfold cellsHp Hp.emp; split <;> cases j <;> simp
 | v :: vs, b, i => by
  refine ⟨_, cellsHp b (i + 1) vs, ?_, ?_, rfl, cells_hp vs b (i + 1)⟩
  ·intro b' j
   by_cases hx : b' = b ∧ j = some i
   ·obtain ⟨rfl, rfl⟩ := hx; right; simp [cellsHp]; intro hh; omega
   ·left; exact if_neg hx
  ·funext b' j
   simp only [Hp.join, cellsHp]
   by_cases hb : b' = b
   ·subst hb
    cases j with
    | none => simp
    | some j =>
     simp only [↓reduceIte, Option.some.injEq, true_and]
     by_cases h1 : j = i
     ·subst h1; simp
     ·by_cases h2 : i ≤ j
      ·rw [if_pos h2, if_neg h1, if_pos (by omega), show j - i = (j - (i + 1)) + 1 from by omega]; simp
      ·rw [if_neg h2, if_neg h1, if_neg (by omega)]; simp
   ·simp [hb]
theorem blk_hp (b : Nat) (e : TypeId) (vs : List Value) : ∃ g, blk b e vs g ∧ ∀ b' i t, g b' i = some t → b' = b ∧ match i with | some i => ∃ v, vs[i]? = some v ∧ t = .val v | none => t = .shape e vs.length := by
 refine ⟨_, ⟨_, cellsHp b 0 vs, ?_, rfl, rfl, cells_hp vs b 0⟩, ?_⟩
 ·intro b' j
  by_cases hx : b' = b ∧ j = none
  ·obtain ⟨rfl, rfl⟩ := hx; right; simp [cellsHp]
  ·left; exact if_neg hx
 ·intro b' j t ht
  simp only [Hp.join, cellsHp] at ht
  by_cases hb : b' = b
  ·refine ⟨hb, ?_⟩
   subst hb
   cases j with
   | none => simp at ht; exact ht.symm
   | some j =>
    simp at ht
    obtain ⟨v, hv, rfl⟩ := ht
    exact ⟨v, by simp [hv], rfl⟩
  ·simp [hb] at ht
theorem S.alloc (h : S w0 w L) (cs : Array Value) (e : TypeId) : S w0 (w.alloc (.cells cs e)) (blk w.heap.size e cs.toList :: L) := by
 refine h.add ((Below.refl _ _).alloc (Nat.le_refl _) _) ?_
 obtain ⟨g, p, hg⟩ := blk_hp w.heap.size e cs.toList
 refine ⟨g, p, fun b i t ht => ?_⟩
 obtain ⟨rfl, ht'⟩ := hg b i t ht
 refine ⟨Nat.le_refl _, ?_⟩
 rw [holds_alloc_new]
 cases i with
 | none => simp at ht'; subst ht'; simp
 | some i => obtain ⟨v, hv, rfl⟩ := ht'; simp at hv ⊢; exact hv
theorem S.alloc_obj (h : S w0 w L) (o : Obj) (ho : ∀ c e f, o ≠ .cells c e f) : S w0 (w.alloc o) (ob w.heap.size o :: L) := by
 refine h.add ((Below.refl _ _).alloc (Nat.le_refl _) _) ⟨_, rfl, fun b i t ht => ?_⟩
 split at ht
 ·rename_i hx; obtain ⟨rfl, rfl⟩ := hx
  simp at ht; subst ht
  refine ⟨Nat.le_refl _, ?_⟩
  rw [holds_alloc_new]
  cases o <;> simp_all
 ·simp at ht
def setObjW (w : World) (r : Nat) (o : Obj) : World := { w with heap := w.heap.setIfInBounds r o }
theorem S.set_obj {b : Nat} {o o' : Obj} (h : S w0 w (ob b o :: L)) (ho : ∀ c e f, o ≠ .cells c e f) (ho' : ∀ c e f, o' ≠ .cells c e f) : S w0 (setObjW w b o') (ob b o' :: L) := by
 have hn := h.obj_new
 have hl := h.obj_lt
 have hob := h.obj
 obtain ⟨b0, x, ⟨g, k, d, rfl, p, q⟩, hh⟩ := h
 have p' : g = _ := p
 refine ⟨?_, _, ⟨_, k, ?_, rfl, rfl, q⟩, ?_⟩
 ·refine ⟨b0.os, b0.tape, b0.output, by simpa [setObjW] using b0.size, fun j hj => ?_⟩
  rw [← b0.block j hj]
  simp only [setObjW]
  rw [Array.getElem?_setIfInBounds_ne (by omega)]
 ·intro b' i'
  rcases d b' i' with e | e
  ·rw [p'] at e; simp only at e; left; split at e <;> simp_all
  ·exact .inr e
 ·intro b' i' t e
  simp only [Hp.join] at e
  by_cases hx : b' = b ∧ i' = none
  ·rw [if_pos hx] at e
   obtain ⟨rfl, rfl⟩ := hx
   simp at e; subst e
   refine ⟨hn, ?_⟩
   unfold holds setObjW
   simp only [Array.getElem?_setIfInBounds_self, hl, ↓reduceIte]
   cases o' <;> simp_all
  ·rw [if_neg hx] at e
   simp at e
   have := hh b' i' t (by simp only [Hp.join, p']; rw [if_neg hx]; exact e)
   refine ⟨this.1, ?_⟩
   rw [← this.2]
   unfold holds setObjW
   by_cases hb : b' = b
   ·subst hb
    have hi : i' ≠ none := fun e => hx ⟨rfl, e⟩
    cases i' with
    | none => exact absurd rfl hi
    | some i' =>
     simp only [Array.getElem?_setIfInBounds_self, hl, ↓reduceIte, hob]
     cases o' <;> cases o <;> simp_all
   ·rw [Array.getElem?_setIfInBounds_ne (fun e => hb e.symm)]
end Go.Sep
/- Maps on the model's heap, by a list of keys and values: look-up, store, delete, len, range. No program in sight. -/
namespace Go.Sep
open Go Go.RowKit
section plain
variable {κ ν : Type} [DecidableEq κ]
def mget (D : List (κ × ν)) (k : κ) : Option ν := (D.find? fun d => decide (d.1 = k)).map (·.2)
def mput (D : List (κ × ν)) (k : κ) (v : ν) : List (κ × ν) := if (mget D k).isSome then D.map fun d => if d.1 = k then (k, v) else d else D ++ [(k, v)]
def mdel (D : List (κ × ν)) (k : κ) : List (κ × ν) := D.filter fun d => decide (d.1 ≠ k)
theorem mget_nil (k : κ) : mget ([] : List (κ × ν)) k = none := rfl
theorem mget_cons (d : κ × ν) (D : List (κ × ν)) (k : κ) : mget (d :: D) k = if d.1 = k then some d.2 else mget D k := by
 unfold mget; rw [List.find?_cons]; by_cases h : d.1 = k <;> simp [h]
theorem mget_append (D E : List (κ × ν)) (k : κ) : mget (D ++ E) k = (mget D k).or (mget E k) := by
 induction D with
 | nil => simp [mget_nil]
 | cons d D ih => simp only [List.cons_append, mget_cons, ih]; split <;> simp
theorem mget_map_if (D : List (κ × ν)) (k : κ) (v : ν) (j : κ) : mget (D.map fun d => if d.1 = k then (k, v) else d) j = if j = k then (if (mget D k).isSome then some v else none) else mget D j := by
 induction D with
 | nil => simp [mget_nil]
 | cons d D ih =>
  simp only [List.map_cons, mget_cons, ih]
  by_cases h1 : d.1 = k <;> by_cases h2 : j = k <;> simp [h1, h2]
  have h3 : ¬ k = j := fun e => h2 e.symm
  simp [h3]
theorem mget_put (D : List (κ × ν)) (k j : κ) (v : ν) : mget (mput D k v) j = if j = k then some v else mget D j := by
 unfold mput
 split
 ·rename_i h; rw [mget_map_if, if_pos h]
 ·rename_i h
  rw [mget_append, mget_cons, mget_nil]
  have : mget D k = none := by simpa using h
  by_cases e : j = k
  ·subst e; simp [this]
  ·have e' : ¬ k = j := fun x => e x.symm
   simp [e, e']
theorem mget_del (D : List (κ × ν)) (k j : κ) : mget (mdel D k) j = if j = k then none else mget D j := by
 unfold mdel
 induction D with
 | nil => simp [mget_nil]
 | cons d D ih =>
  rw [List.filter_cons]
  by_cases h1 : d.1 = k
  ·simp only [h1, ne_eq, not_true, decide_false, Bool.false_eq_true, ↓reduceIte, ih, mget_cons]
   by_cases h2 : j = k
   ·simp [h2]
   ·have : ¬ k = j := fun x => h2 x.symm
    simp [h2, this]
  ·simp only [h1, ne_eq, not_false_eq_true, decide_true, ↓reduceIte, mget_cons, ih]
   by_cases h2 : j = k
   ·simp [h2, h1]
   ·simp [h2]
theorem mget_some {D : List (κ × ν)} {k : κ} {v : ν} (h : mget D k = some v) : (k, v) ∈ D := by
 induction D with
 | nil => simp [mget_nil] at h
 | cons d D ih =>
  rw [mget_cons] at h
  by_cases e : d.1 = k
  ·simp [e] at h; subst h; subst e; simp
  ·simp [e] at h; exact .tail _ (ih h)
theorem mget_none {D : List (κ × ν)} {k : κ} : mget D k = none ↔ k ∉ D.map (·.1) := by
 induction D with
 | nil => simp [mget_nil]
 | cons d D ih =>
  rw [mget_cons]
  by_cases e : d.1 = k
  ·simp [e]
  ·have e' : ¬ k = d.1 := fun x => e x.symm
   simp [e, ih, e']
theorem mget_mem {D : List (κ × ν)} (hn : (D.map (·.1)).Nodup) {k : κ} {v : ν} (h : (k, v) ∈ D) : mget D k = some v := by
 induction D with
 | nil => simp at h
 | cons d D ih =>
  rw [mget_cons]
  simp only [List.map_cons, List.nodup_cons] at hn
  cases h with
  | head => simp
  | tail _ h =>
   have : ¬ d.1 = k := fun e => hn.1 (List.mem_map.2 ⟨_, h, e.symm⟩)
   rw [if_neg this]; exact ih hn.2 h
theorem keys_put (D : List (κ × ν)) (k : κ) (v : ν) : (mput D k v).map (·.1) = if (mget D k).isSome then D.map (·.1) else D.map (·.1) ++ [k] := by
 unfold mput
 split
 ·rw [List.map_map]; apply List.map_congr_left; intro d _; simp only [Function.comp]; split <;> simp_all
 ·simp
theorem keys_put_nodup {D : List (κ × ν)} (hn : (D.map (·.1)).Nodup) (k : κ) (v : ν) : ((mput D k v).map (·.1)).Nodup := by
 rw [keys_put]
 split
 ·exact hn
 ·rename_i h
  have h' : k ∉ D.map (·.1) := mget_none.1 (by simpa using h)
  rw [List.nodup_append]
  exact ⟨hn, by simp, by intro a ha b hb; simp at hb; subst hb; intro e; subst e; exact h' ha⟩
theorem keys_del_nodup {D : List (κ × ν)} (hn : (D.map (·.1)).Nodup) (k : κ) : ((mdel D k).map (·.1)).Nodup :=
 hn.sublist (List.Sublist.map _ List.filter_sublist)
theorem length_put_le (D : List (κ × ν)) (k : κ) (v : ν) : (mput D k v).length ≤ D.length + 1 := by
 unfold mput; split <;> simp
end plain
structure KeyOk {κ : Type} [DecidableEq κ] (P : Program) (kt : TypeId) (enc : κ → Value) (ok : κ → Prop) : Prop where
 check : ∀ (em : Bool) k w, (Instr.checkKey em 10000 kt (enc k)).run P w = .ok () w
 find : ∀ k (es : List MapEntry) (ks : List κ) w, ok k → (∀ x ∈ ks, ok x) → es.map (·.key) = ks.map enc →
  (Instr.findKey kt (enc k) es).run P w = .ok (((ks.zip es).zipIdx.find? fun x => decide (x.1.1 = k)).map fun x => (x.2, x.1.2.val)) w
 inj : ∀ a b, enc a = enc b → a = b
 stays : ∀ k w, (Instr.keyThatStays (enc k) (enc k)).run P w = .ok (enc k) w
def MapObj {κ : Type} (enc : κ → Value) (ok : κ → Prop) (D : List (κ × Value)) (es : Array MapEntry) (clock : Nat) : Prop :=
 es.toList.map (fun e => (e.key, e.val)) = D.map (fun d => (enc d.1, d.2)) ∧ (es.toList.map (·.born)).Nodup ∧ (∀ e ∈ es.toList, e.born < clock) ∧ (D.map (·.1)).Nodup ∧ ∀ d ∈ D, ok d.1
def MapAt {κ : Type} (enc : κ → Value) (ok : κ → Prop) (w : World) (b : Nat) (D : List (κ × Value)) : Prop := ∃ es clock, w.heap[b]? = some (.map es clock) ∧ MapObj enc ok D es clock
def mp {κ : Type} (enc : κ → Value) (ok : κ → Prop) (b : Nat) (D : List (κ × Value)) : HProp := ex fun es => ex fun clock => sep (pur (MapObj enc ok D es clock)) (ob b (.map es clock))
section
set_option linter.unusedSectionVars false
variable {κ : Type} [DecidableEq κ] {P : Program} {kt : TypeId} {enc : κ → Value} {ok : κ → Prop} {w w0 : World} {L : List HProp} {b r : Nat} {D done : List (κ × Value)}
theorem S.mapAt (h : S w0 w (mp enc ok b D :: L)) : MapAt enc ok w b D := by
 obtain ⟨es, h⟩ := h.ex_elim
 obtain ⟨clock, h⟩ := h.ex_elim
 obtain ⟨hm, h⟩ := h.sep_elim.pur_elim
 exact ⟨es, clock, h.obj, hm⟩
theorem S.nodup (h : S w0 w (mp enc ok b D :: L)) : (D.map (·.1)).Nodup := by
 obtain ⟨_, _, _, _, _, _, h, _⟩ := h.mapAt; exact h
theorem S.mp_of {es : Array MapEntry} {clock : Nat} (hm : MapObj enc ok D es clock) (h : S w0 w (ob b (.map es clock) :: L)) : S w0 w (mp enc ok b D :: L) :=
 .ex_intro es (.ex_intro clock (.sep_intro (.pur_intro hm h)))
theorem S.made (h : S w0 w L) : S w0 (w.alloc (.map #[] 0)) (mp enc ok w.heap.size [] :: L) :=
 .mp_of ⟨rfl, by simp, by simp, by simp, by simp⟩ (h.alloc_obj _ (by simp))
theorem keys_of {es : Array MapEntry} {clock : Nat} (h : MapObj enc ok D es clock) : es.toList.map (·.key) = (D.map (·.1)).map enc := by
 have := congrArg (List.map Prod.fst) h.1
 simpa [List.map_map, Function.comp_def] using this
theorem find_zip : ∀ (D : List (κ × Value)) (es : List MapEntry) (k : κ) (n : Nat), es.map (fun e => (e.key, e.val)) = D.map (fun d => (enc d.1, d.2)) →
  ((((D.map (·.1)).zip es).zipIdx n).find? fun x => decide (x.1.1 = k)).map (fun x => x.1.2.val) = mget D k
 | [], [], _, _, _ => rfl
 | [], e :: es, _, _, h => by simp at h
 | d :: D, [], _, _, h => by simp at h
 | d :: D, e :: es, k, n, h => by
  simp only [List.map_cons, List.cons.injEq, Prod.mk.injEq] at h
  simp only [List.map_cons, List.zip_cons_cons, List.zipIdx_cons, List.find?_cons, mget_cons]
  by_cases hk : d.1 = k
  ·simp [hk, h.1.2]
  ·simp only [hk, decide_false, ↓reduceIte]
   exact find_zip D es k (n + 1) h.2
theorem find_zip_idx : ∀ (D : List (κ × Value)) (es : List MapEntry) (k : κ) (n : Nat) (x : (κ × MapEntry) × Nat), es.map (fun e => (e.key, e.val)) = D.map (fun d => (enc d.1, d.2)) → (D.map (·.1)).Nodup →
  (((D.map (·.1)).zip es).zipIdx n).find? (fun x => decide (x.1.1 = k)) = some x → ∃ i, x.2 = n + i ∧ i < D.length ∧ (∀ j, (D.map (·.1))[j]? = some k ↔ j = i) ∧ es[i]? = some x.1.2
 | [], _, _, _, _, _, _, h => by simp at h
 | d :: D, [], _, _, _, h, _, _ => by simp at h
 | d :: D, e :: es, k, n, x, h, hn, hx => by
  simp only [List.map_cons, List.cons.injEq, Prod.mk.injEq] at h
  simp only [List.map_cons, List.nodup_cons] at hn
  simp only [List.map_cons, List.zip_cons_cons, List.zipIdx_cons, List.find?_cons] at hx
  by_cases hk : d.1 = k
  ·simp only [hk, decide_true, Option.some.injEq] at hx
   subst hx
   refine ⟨0, rfl, by simp, fun j => ?_, rfl⟩
   cases j with
   | zero => simp [hk]
   | succ j =>
    simp only [List.map_cons, List.getElem?_cons_succ]
    constructor
    ·intro hj; exact absurd (List.mem_of_getElem? hj) (by rw [← hk]; exact hn.1)
    ·intro hj; omega
  ·simp only [hk, decide_false] at hx
   obtain ⟨i, h1, h2, h3, h4⟩ := find_zip_idx D es k (n + 1) x h.2 hn.2 hx
   refine ⟨i + 1, by omega, by simpa using h2, fun j => ?_, by simpa using h4⟩
   cases j with
   | zero => simp [hk]
   | succ j => simp only [List.map_cons, List.getElem?_cons_succ]; rw [h3 j]; omega
theorem run_getObj_map {es : Array MapEntry} {clock : Nat} (h : w.heap[b]? = some (.map es clock)) : (getObj b).run P w = .ok (.map es clock) w := by
 simp [getObj, Sem.run, h]
theorem run_lookup_at (K : KeyOk P kt enc ok) {t e : TypeId} (ht : P.underlying t = some (.map kt e)) {z : Value} (hz : (zeroValue e).run P w = .ok z w) (h : MapAt enc ok w b D) (k : κ) (hk : ok k) (c : Bool) :
  (Instr.lookup t (.map (some b)) (enc k) c).run P w = .ok (if c then .tuple #[(mget D k).getD z, .bool (mget D k).isSome] else (mget D k).getD z) w := by
 obtain ⟨es, clock, hb, hm⟩ := h
 have hf := K.find k es.toList (D.map (·.1)) w hk (by intro x hx; obtain ⟨d, hd, rfl⟩ := List.mem_map.1 hx; exact hm.2.2.2.2 d hd) (keys_of hm)
 have hg := find_zip D es.toList k 0 hm.1
 simp only [Instr.lookup, Sem.run_bind, run_underlying ht, Result.andThen_ok, run_getObj_map hb, Sem.run_pure, K.check, hf]
 rw [← hg]
 cases hx : ((D.map (·.1)).zip es.toList).zipIdx.find? (fun x => decide (x.1.1 = k)) with
 | none => cases c <;> simp [hz]
 | some x => cases c <;> simp
theorem run_lookup_nil (K : KeyOk P kt enc ok) {t e : TypeId} (ht : P.underlying t = some (.map kt e)) {z : Value} (hz : (zeroValue e).run P w = .ok z w) (k : κ) (hk : ok k) (c : Bool) :
  (Instr.lookup t (.map none) (enc k) c).run P w = .ok (if c then .tuple #[z, .bool false] else z) w := by
 have hf := K.find k [] [] w hk (by simp) rfl
 simp only [Instr.lookup, Sem.run_bind, run_underlying ht, Result.andThen_ok, Sem.run_pure, K.check, hf]
 cases c <;> simp [hz]
theorem run_len_at {t ty : TypeId} {e : TypeId} (ht : P.underlying t = some (.map kt e)) (h : MapAt enc ok w b D) :
  (Builtin.len_ #[t] ty #[.map (some b)]).run P w = .ok (.int .i64 D.length) w := by
 obtain ⟨es, clock, hb, hm⟩ := h
 have hl : es.size = D.length := by have := congrArg List.length hm.1; simpa using this
 simp [Builtin.len_, run_underlying ht, run_getObj_map hb, goInt, hl]
theorem run_setObj_map {es : Array MapEntry} {clock : Nat} {o : Obj} (h : w.heap[b]? = some (.map es clock)) : (setObj b o).run P w = .ok () (setObjW w b o) := by
 simp [setObj, Sem.run, h, setObjW]
theorem map_modify_eq {es : List MapEntry} {D : List (κ × Value)} {k : κ} {i : Nat} (v : Value) (h : es.map (fun e => (e.key, e.val)) = D.map (fun d => (enc d.1, d.2)))
  (hi : ∀ j, (D.map (·.1))[j]? = some k ↔ j = i) :
  (es.modify i fun e => { e with key := enc k, val := v }).map (fun e => (e.key, e.val)) = (D.map fun d => if d.1 = k then (k, v) else d).map (fun d => (enc d.1, d.2)) := by
 apply List.ext_getElem?
 intro j
 have hj := congrArg (·[j]?) h
 simp only [List.getElem?_map, List.getElem?_modify] at hj ⊢
 have hij := hi j
 simp only [List.getElem?_map] at hij
 cases hd : D[j]? with
 | none =>
  rw [hd] at hj hij
  cases he : es[j]? with
  | none => simp
  | some e => rw [he] at hj; simp at hj
 | some d =>
  rw [hd] at hj hij
  cases he : es[j]? with
  | none => rw [he] at hj; simp at hj
  | some e =>
   rw [he] at hj
   simp at hj hij ⊢
   by_cases hx : i = j
   ·have := hij.2 hx.symm; simp [hx, this]
   ·have : ¬ d.1 = k := fun e => hx (hij.1 e).symm
    simp [hx, this, hj]
theorem S.put (K : KeyOk P kt enc ok) {t e : TypeId} (ht : P.underlying t = some (.map kt e)) (h : S w0 w (mp enc ok b D :: L)) (k : κ) (hk : ok k) (v : Value) :
  ∃ w', (Instr.mapUpdate t (.map (some b)) (enc k) v).run P w = .ok () w' ∧ S w0 w' (mp enc ok b (mput D k v) :: L) := by
 obtain ⟨es, h⟩ := h.ex_elim
 obtain ⟨clock, h⟩ := h.ex_elim
 obtain ⟨hm, h⟩ := h.sep_elim.pur_elim
 have hb := h.obj
 have hf := K.find k es.toList (D.map (·.1)) w hk (by intro x hx; obtain ⟨d, hd, rfl⟩ := List.mem_map.1 hx; exact hm.2.2.2.2 d hd) (keys_of hm)
 have hg := find_zip D es.toList k 0 hm.1
 have hnd := keys_put_nodup hm.2.2.2.1 k v
 have hok : ∀ d ∈ mput D k v, ok d.1 := by
  intro d hd
  have : d.1 ∈ (mput D k v).map (·.1) := List.mem_map_of_mem hd
  rw [keys_put] at this
  split at this
  ·obtain ⟨d', hd', e⟩ := List.mem_map.1 this; rw [← e]; exact hm.2.2.2.2 d' hd'
  ·rcases List.mem_append.1 this with h1 | h1
   ·obtain ⟨d', hd', e⟩ := List.mem_map.1 h1; rw [← e]; exact hm.2.2.2.2 d' hd'
   ·simp at h1; rw [h1]; exact hk
 cases hx : ((D.map (·.1)).zip es.toList).zipIdx.find? (fun x => decide (x.1.1 = k)) with
 | none =>
  refine ⟨setObjW w b (.map (es.push { key := enc k, val := v, born := clock }) (clock + 1)), ?_, ?_⟩
  ·simp only [Instr.mapUpdate, Sem.run_bind, run_underlying ht, Result.andThen_ok, run_getObj_map hb, K.check, hf, hx, Option.map_none, run_setObj_map hb]
  ·rw [hx] at hg
   simp at hg
   have hp : mput D k v = D ++ [(k, v)] := by unfold mput; rw [← hg]; simp
   refine .mp_of ?_ (h.set_obj (by simp) (by simp))
   refine ⟨?_, ?_, ?_, hnd, hok⟩
   ·rw [hp]; simp [hm.1]
   ·simp only [Array.toList_push, List.map_append, List.map_cons, List.map_nil]
    rw [List.nodup_append]
    refine ⟨hm.2.1, by simp, ?_⟩
    intro a ha c hc
    simp at hc; subst hc
    obtain ⟨e', he', rfl⟩ := List.mem_map.1 ha
    have := hm.2.2.1 e' he'; omega
   ·intro e' he'
    simp only [Array.toList_push, List.mem_append, List.mem_singleton] at he'
    rcases he' with he' | rfl
    ·have := hm.2.2.1 e' he'; omega
    ·simp
 | some x =>
  obtain ⟨i, h1, h2, h3, h4⟩ := find_zip_idx (enc := enc) D es.toList k 0 x hm.1 hm.2.2.2.1 hx
  simp only [Nat.zero_add] at h1
  have hkey : x.1.2.key = enc k := by
   have e1 := congrArg (·[i]?) (keys_of hm)
   simp only [List.getElem?_map, h4] at e1
   have e2 := (h3 i).2 rfl
   simp only [List.getElem?_map] at e2
   cases hd : D[i]? with
   | none => rw [hd] at e2; simp at e2
   | some d => rw [hd] at e1 e2; simp at e1 e2; rw [e1, e2]
  have hget : es[i]? = some x.1.2 := by simpa using h4
  refine ⟨setObjW w b (.map (es.modify i fun e => { e with key := enc k, val := v }) clock), ?_, ?_⟩
  ·simp only [Instr.mapUpdate, Sem.run_bind, run_underlying ht, Result.andThen_ok, run_getObj_map hb, K.check, hf, hx, Option.map_some, h1, hget, Option.getD_some, hkey, K.stays, run_setObj_map hb]
  ·rw [hx] at hg
   simp at hg
   have hp : mput D k v = D.map fun d => if d.1 = k then (k, v) else d := by unfold mput; rw [← hg]; simp
   refine .mp_of ?_ (h.set_obj (by simp) (by simp))
   have hborn : (es.modify i fun e => { e with key := enc k, val := v }).toList.map (·.born) = es.toList.map (·.born) := by
    rw [Array.toList_modify]
    apply List.ext_getElem?
    intro j
    simp only [List.getElem?_map, List.getElem?_modify]
    cases es.toList[j]? with
    | none => simp
    | some e => by_cases hij : i = j <;> simp [hij]
   refine ⟨?_, by rw [hborn]; exact hm.2.1, ?_, hnd, hok⟩
   ·rw [hp, Array.toList_modify]; exact map_modify_eq v hm.1 h3
   ·intro e' he'
    have : e'.born ∈ (es.modify i fun e => { e with key := enc k, val := v }).toList.map (·.born) := List.mem_map_of_mem he'
    rw [hborn] at this
    obtain ⟨e'', he'', hbb⟩ := List.mem_map.1 this
    rw [← hbb]; exact hm.2.2.1 e'' he''
theorem filter_erase {es : List MapEntry} {D : List (κ × Value)} {k : κ} {i : Nat} (h : es.map (fun e => (e.key, e.val)) = D.map (fun d => (enc d.1, d.2)))
  (hi : ∀ j, (D.map (·.1))[j]? = some k ↔ j = i) (hlt : i < D.length) :
  (es.eraseIdx i).map (fun e => (e.key, e.val)) = (mdel D k).map (fun d => (enc d.1, d.2)) := by
 have hD : mdel D k = D.eraseIdx i := by
  unfold mdel
  clear h
  induction D generalizing i with
  | nil => simp at hlt
  | cons d D ih =>
   have h0 := hi 0
   simp only [List.map_cons, List.getElem?_cons_zero, Option.some.injEq] at h0
   cases i with
   | zero =>
    have hk := h0.2 rfl
    rw [List.filter_cons]
    simp only [hk, ne_eq, not_true, decide_false, Bool.false_eq_true, ↓reduceIte, List.eraseIdx_zero, List.tail_cons]
    apply List.filter_eq_self.2
    intro d' hd'
    obtain ⟨j, hj⟩ := List.getElem?_of_mem hd'
    have := hi (j + 1)
    simp only [List.map_cons, List.getElem?_cons_succ, List.getElem?_map, hj] at this
    simp at this ⊢
    exact this
   | succ i =>
    have hk : ¬ d.1 = k := fun e => by have := h0.1 e; omega
    rw [List.filter_cons]
    simp only [hk, ne_eq, not_false_eq_true, decide_true, ↓reduceIte, List.eraseIdx_cons_succ]
    rw [ih (i := i) ?_ (by simpa using hlt)]
    intro j
    have := hi (j + 1)
    simp only [List.map_cons, List.getElem?_cons_succ] at this
    rw [this]; omega
 have he : ∀ {α β : Type} (f : α → β) (l : List α) (i : Nat), (l.eraseIdx i).map f = (l.map f).eraseIdx i := by
  intro α β f l
  induction l with
  | nil => simp
  | cons a l ih => intro i; cases i <;> simp [ih]
 rw [hD, he, h, ← he]
theorem S.del (K : KeyOk P kt enc ok) {t e ty : TypeId} (ht : P.underlying t = some (.map kt e)) (h : S w0 w (mp enc ok b D :: L)) (k : κ) (hk : ok k) :
  ∃ w', (Builtin.delete_ #[t, kt] ty #[.map (some b), enc k]).run P w = .ok (.tuple #[]) w' ∧ S w0 w' (mp enc ok b (mdel D k) :: L) := by
 obtain ⟨es, h⟩ := h.ex_elim
 obtain ⟨clock, h⟩ := h.ex_elim
 obtain ⟨hm, h⟩ := h.sep_elim.pur_elim
 have hb := h.obj
 have hf := K.find k es.toList (D.map (·.1)) w hk (by intro x hx; obtain ⟨d, hd, rfl⟩ := List.mem_map.1 hx; exact hm.2.2.2.2 d hd) (keys_of hm)
 have hg := find_zip D es.toList k 0 hm.1
 have hok : ∀ d ∈ mdel D k, ok d.1 := fun d hd => hm.2.2.2.2 d (List.mem_filter.1 hd).1
 cases hx : ((D.map (·.1)).zip es.toList).zipIdx.find? (fun x => decide (x.1.1 = k)) with
 | none =>
  refine ⟨setObjW w b (.map es clock), ?_, ?_⟩
  ·simp [Builtin.delete_, run_underlying ht, run_getObj_map hb, K.check, hf, hx, run_setObj_map hb]
  ·rw [hx] at hg
   simp at hg
   have hp : mdel D k = D := by
    unfold mdel
    apply List.filter_eq_self.2
    intro d hd
    have := mget_none.1 hg.symm
    simp only [decide_eq_true_eq]
    intro e; exact this (List.mem_map.2 ⟨d, hd, e⟩)
   rw [hp]
   exact .mp_of hm (h.set_obj (by simp) (by simp))
 | some x =>
  obtain ⟨i, h1, h2, h3, h4⟩ := find_zip_idx (enc := enc) D es.toList k 0 x hm.1 hm.2.2.2.1 hx
  simp only [Nat.zero_add] at h1
  have hlt : i < es.size := by have := (List.getElem?_eq_some_iff.1 h4).1; simpa using this
  refine ⟨setObjW w b (.map (es.eraseIdxIfInBounds i) clock), ?_, ?_⟩
  ·simp [Builtin.delete_, run_underlying ht, run_getObj_map hb, K.check, hf, hx, run_setObj_map hb, h1]
  ·refine .mp_of ?_ (h.set_obj (by simp) (by simp))
   have hl : (es.eraseIdxIfInBounds i).toList = es.toList.eraseIdx i := by simp [Array.eraseIdxIfInBounds, hlt, Array.toList_eraseIdx]
   refine ⟨by rw [hl]; exact filter_erase hm.1 h3 h2, ?_, ?_, keys_del_nodup hm.2.2.2.1 k, hok⟩
   ·rw [hl]; exact hm.2.1.sublist ((List.eraseIdx_sublist _ _).map _)
   ·intro e' he'; rw [hl] at he'; exact hm.2.2.1 e' ((List.eraseIdx_sublist _ _).mem he')
def Ranged (enc : κ → Value) (D done : List (κ × Value)) (es : Array MapEntry) (seen : Array Nat) : Prop :=
 done.Nodup ∧ (∀ d ∈ done, d ∈ D) ∧ ∃ xs : List MapEntry, seen.toList = xs.map (·.born) ∧ (∀ x ∈ xs, x ∈ es.toList) ∧ xs.map (fun e => (e.key, e.val)) = done.map (fun d => (enc d.1, d.2))
def ranging (enc : κ → Value) (ok : κ → Prop) (b r : Nat) (D done : List (κ × Value)) : HProp :=
 ex fun es => ex fun clock => ex fun seen => sep (pur (MapObj enc ok D es clock ∧ Ranged enc D done es seen)) (sep (ob b (.map es clock)) (ob r (.mapIter (some b) clock seen clock)))
theorem S.ranging_done {r : Nat} {done : List (κ × Value)} (h : S w0 w (ranging enc ok b r D done :: L)) : S w0 w (mp enc ok b D :: L) := by
 obtain ⟨es, h⟩ := h.ex_elim
 obtain ⟨clock, h⟩ := h.ex_elim
 obtain ⟨seen, h⟩ := h.ex_elim
 obtain ⟨hm, h⟩ := h.sep_elim.pur_elim
 have h := h.sep_elim
 exact .mp_of hm.1 ((h.perm (List.Perm.swap _ _ _)).tail)
theorem S.ranging_sub {r : Nat} {done : List (κ × Value)} (h : S w0 w (ranging enc ok b r D done :: L)) : done.Nodup ∧ (∀ d ∈ done, d ∈ D) ∧ (D.map (·.1)).Nodup := by
 obtain ⟨es, h⟩ := h.ex_elim
 obtain ⟨clock, h⟩ := h.ex_elim
 obtain ⟨seen, h⟩ := h.ex_elim
 obtain ⟨hm, h⟩ := h.sep_elim.pur_elim
 exact ⟨hm.2.1, hm.2.2.1, hm.1.2.2.2.1⟩
theorem S.range (h : S w0 w (mp enc ok b D :: L)) {t e : TypeId} (ht : P.underlying t = some (.map kt e)) :
  ∃ w', (Instr.range t (.map (some b))).run P w = .ok (.pointer (some ⟨w.heap.size, 0, none⟩)) w' ∧ S w0 w' (ranging enc ok b w.heap.size D [] :: L) := by
 obtain ⟨es, h⟩ := h.ex_elim
 obtain ⟨clock, h⟩ := h.ex_elim
 obtain ⟨hm, h⟩ := h.sep_elim.pur_elim
 have hb := h.obj
 refine ⟨w.alloc (.mapIter (some b) clock #[] clock), ?_, ?_⟩
 ·simp [Instr.range, run_underlying ht, run_getObj_map hb]
 ·have h' := (h.alloc_obj (.mapIter (some b) clock #[] clock) (by simp)).perm (List.Perm.swap _ _ _)
  exact .ex_intro es (.ex_intro clock (.ex_intro #[] (.sep_intro (.pur_intro ⟨hm, by simp, by simp, [], rfl, by simp, rfl⟩ (.sep_intro h')))))
theorem run_getObj_iter {r : Nat} {m : Option Nat} {s l : Nat} {seen : Array Nat} (h : w.heap[r]? = some (.mapIter m s seen l)) : (getObj r).run P w = .ok (.mapIter m s seen l) w := by
 simp [getObj, Sem.run, h]
theorem entry_inj {es : Array MapEntry} {clock : Nat} (K : KeyOk P kt enc ok) (hm : MapObj enc ok D es clock) {x y : MapEntry} (hx : x ∈ es.toList) (hy : y ∈ es.toList) (h : x.key = y.key ∨ x.born = y.born) : x = y := by
 obtain ⟨i, hi⟩ := List.getElem?_of_mem hx
 obtain ⟨j, hj⟩ := List.getElem?_of_mem hy
 have hk := keys_of hm
 have key : ∀ (l : List Nat), l.Nodup → ∀ (i j : Nat) (a : Nat), l[i]? = some a → l[j]? = some a → i = j := by
  intro l hl i j a h1 h2
  exact (List.getElem?_inj (List.getElem?_eq_some_iff.1 h1).1 hl).1 (h1.trans h2.symm)
 have hij : i = j := by
  rcases h with h | h
  ·have e1 := congrArg (·[i]?) hk
   have e2 := congrArg (·[j]?) hk
   simp only [List.getElem?_map, hi, hj, Option.map_some] at e1 e2
   cases hd1 : D[i]? with
   | none => rw [hd1] at e1; simp at e1
   | some d1 =>
    cases hd2 : D[j]? with
    | none => rw [hd2] at e2; simp at e2
    | some d2 =>
     rw [hd1] at e1; rw [hd2] at e2
     simp at e1 e2
     have hdd : d1.1 = d2.1 := K.inj _ _ (by rw [← e1, ← e2, h])
     have q1 : (D.map (·.1))[i]? = some d1.1 := by simp [hd1]
     have q2 : (D.map (·.1))[j]? = some d1.1 := by simp [hd2, hdd]
     exact (List.getElem?_inj (List.getElem?_eq_some_iff.1 q1).1 hm.2.2.2.1).1 (q1.trans q2.symm)
  ·exact key _ hm.2.1 i j x.born (by simp [hi]) (by simp [hj, h])
 subst hij
 rw [hi] at hj
 exact Option.some.inj hj
theorem S.next (K : KeyOk P kt enc ok) {r : Nat} {done : List (κ × Value)} {ty : TypeId} (h : S w0 w (ranging enc ok b r D done :: L)) :
  (∃ d w', d ∈ D ∧ d ∉ done ∧ (Instr.next (.pointer (some ⟨r, 0, none⟩)) false ty).run P w = .ok (.tuple #[.bool true, enc d.1, d.2]) w' ∧ S w0 w' (ranging enc ok b r D (done ++ [d]) :: L)) ∨
  ((∀ d ∈ D, d ∈ done) ∧ (Instr.next (.pointer (some ⟨r, 0, none⟩)) false ty).run P w = .ok (.tuple #[.bool false]) w) := by
 obtain ⟨es, h⟩ := h.ex_elim
 obtain ⟨clock, h⟩ := h.ex_elim
 obtain ⟨seen, h⟩ := h.ex_elim
 obtain ⟨⟨hm, hn, hsub, xs, hseen, hxs, hdone⟩, h⟩ := h.sep_elim.pur_elim
 have h := h.sep_elim
 have hb := h.obj
 have h := h.perm (List.Perm.swap _ _ _)
 have hr := h.obj
 have hold : ∀ x ∈ es.toList, x.born < clock := hm.2.2.1
 rcases run_next_at (P := P) w ty r b clock clock seen es clock hr hb hold (Nat.le_refl _) with ⟨h0, hrun⟩ | ⟨e, he, w1, hw1, hrun⟩
 ·right
  have hlf : es.filter (fun e => !seen.contains e.born) = #[] := Array.eq_empty_of_size_eq_zero h0
  refine ⟨?_, hrun⟩
  intro d hd
  obtain ⟨i, hi⟩ := List.getElem?_of_mem hd
  have e1 := congrArg (·[i]?) hm.1
  simp only [List.getElem?_map, hi, Option.map_some] at e1
  cases hei : es.toList[i]? with
  | none => rw [hei] at e1; simp at e1
  | some e =>
   rw [hei] at e1
   simp at e1
   have hemem : e ∈ es.toList := List.mem_of_getElem? hei
   have hs : e.born ∈ seen.toList := by
    have := Array.filter_eq_empty_iff.1 hlf e (by rw [← Array.mem_toList_iff]; exact hemem)
    simpa using this
   rw [hseen] at hs
   obtain ⟨x, hx, hxb⟩ := List.mem_map.1 hs
   have hxe := entry_inj K hm (hxs x hx) hemem (.inr hxb)
   subst hxe
   have : (x.key, x.val) ∈ done.map (fun d => (enc d.1, d.2)) := by rw [← hdone]; exact List.mem_map.2 ⟨x, hx, rfl⟩
   obtain ⟨d', hd', he'⟩ := List.mem_map.1 this
   simp at he'
   have e3 : d'.1 = d.1 := K.inj _ _ (by rw [he'.1, e1.1])
   have : d' = d := Prod.ext e3 (by rw [he'.2, e1.2])
   rw [← this]; exact hd'
 ·left
  have hemem : e ∈ es.toList := by
   have := (Array.mem_filter.1 (Array.mem_toList_iff.1 he)).1
   exact Array.mem_toList_iff.2 this
  have hns : e.born ∉ seen.toList := by
   have := (Array.mem_filter.1 (Array.mem_toList_iff.1 he)).2
   simpa using this
  have : (e.key, e.val) ∈ D.map (fun d => (enc d.1, d.2)) := by rw [← hm.1]; exact List.mem_map.2 ⟨e, hemem, rfl⟩
  obtain ⟨d, hd, hde⟩ := List.mem_map.1 this
  simp at hde
  have hnd : d ∉ done := by
   intro hdd
   have : (enc d.1, d.2) ∈ xs.map (fun e => (e.key, e.val)) := by rw [hdone]; exact List.mem_map.2 ⟨d, hdd, rfl⟩
   obtain ⟨x, hx, hxe⟩ := List.mem_map.1 this
   simp at hxe
   have := entry_inj K hm (hxs x hx) hemem (.inl (by rw [hxe.1, hde.1]))
   subst this
   exact hns (by rw [hseen]; exact List.mem_map.2 ⟨x, hx, rfl⟩)
  have h1 : S w0 w1 (ob r (.mapIter (some b) clock seen clock) :: ob b (.map es clock) :: L) := by
   rcases hw1 with rfl | rfl
   ·exact h
   ·exact h.drew
  have h2 : S w0 (setObjW w1 r (.mapIter (some b) clock (seen.push e.born) clock)) (ob b (.map es clock) :: ob r (.mapIter (some b) clock (seen.push e.born) clock) :: L) :=
   (h1.set_obj (by simp) (by simp)).perm (List.Perm.swap _ _ _)
  refine ⟨d, _, hd, hnd, ?_, .ex_intro es (.ex_intro clock (.ex_intro (seen.push e.born) (.sep_intro (.pur_intro ⟨hm, ?_, ?_, xs ++ [e], ?_, ?_, ?_⟩ (.sep_intro h2)))))⟩
  ·rw [hrun, hde.1, hde.2]; rfl
  ·rw [List.nodup_append]; exact ⟨hn, by simp, by intro a ha c hc; simp at hc; subst hc; intro e; subst e; exact hnd ha⟩
  ·intro d' hd'; rcases List.mem_append.1 hd' with h' | h'
   ·exact hsub _ h'
   ·simp at h'; rw [h']; exact hd
  ·simp [hseen]
  ·intro x hx; rcases List.mem_append.1 hx with h' | h'
   ·exact hxs _ h'
   ·simp at h'; rw [h']; exact hemem
  ·simp [hdone, hde.1, hde.2]
theorem S.entry {r : Nat} {done : List (κ × Value)} {d : κ × Value} (h : S w0 w (ranging enc ok b r D (done ++ [d]) :: L)) :
  (Instr.entry (.pointer (some ⟨r, 0, none⟩))).run P w = .ok (.tuple #[enc d.1, d.2]) w := by
 obtain ⟨es, h⟩ := h.ex_elim
 obtain ⟨clock, h⟩ := h.ex_elim
 obtain ⟨seen, h⟩ := h.ex_elim
 obtain ⟨⟨hm, hn, hsub, xs, hseen, hxs, hdone⟩, h⟩ := h.sep_elim.pur_elim
 have h := h.sep_elim
 have hb := h.obj
 have h := h.perm (List.Perm.swap _ _ _)
 have hr := h.obj
 have hxs0 : xs ≠ [] := by intro e; subst e; simp at hdone
 obtain ⟨ys, y, rfl⟩ : ∃ ys y, xs = ys ++ [y] := ⟨xs.dropLast, xs.getLast hxs0, (List.dropLast_concat_getLast hxs0).symm⟩
 simp only [List.map_append, List.map_cons, List.map_nil] at hdone hseen
 have hd := (List.append_inj' hdone rfl).2
 simp at hd
 have hs : seen = (ys.map (·.born)).toArray.push y.born := by apply Array.ext'; simp [hseen]
 rw [hs] at hr
 have := run_entry_at (P := P) w r b clock (ys.map (·.born)).toArray es clock y hr hb (hxs y (by simp)) hm.2.1
 rw [this, hd.1, hd.2]
theorem S.range_over (h : S w0 w (ranging enc ok b r D done :: L)) (hall : ∀ d ∈ D, d ∈ done) : done.Perm D ∧ S w0 w (mp enc ok b D :: L) := by
 obtain ⟨h1, h2, h3⟩ := h.ranging_sub
 exact ⟨(List.perm_ext_iff_of_nodup h1 (List.Pairwise.of_map _ (fun a b h e => h (by rw [e])) h3)).2 fun a => ⟨h2 a, hall a⟩, h.ranging_done⟩
end
def encI (k : Int) : Value := .int .i64 k
theorem findNow_int (k : Int) : ∀ (es : List MapEntry) (ks : List Int) (n : Nat) (q : IntKind), es.map (·.key) = ks.map encI →
  Instr.findNow (.int q) (encI k) es n = some ((((ks.zip es).zipIdx n).find? fun x => decide (x.1.1 = k)).map fun x => (x.2, x.1.2.val))
 | [], [], _, _, _ => rfl
 | [], _ :: _, _, _, h => by simp at h
 | _ :: _, [], _, _, h => by simp at h
 | e :: es, x :: ks, n, q, h => by
  simp only [List.map_cons, List.cons.injEq] at h
  simp only [Instr.findNow, h.1, encI, Instr.sameNow, ↓reduceIte, List.zip_cons_cons, List.zipIdx_cons, List.find?_cons]
  by_cases hk : k = x
  ·subst hk; simp
  ·have hk' : ¬ x = k := fun e => hk e.symm
   have : (k == x) = false := by simpa using hk
   simp only [this, hk', decide_false]
   exact findNow_int k es ks (n + 1) q h.2
theorem check_int {P : Program} {kt : TypeId} {q : IntKind} (hk : P.underlying kt = some (.int q)) (em : Bool) (k : Int) (w : World) (n : Nat) : (Instr.checkKey em (n + 1) kt (encI k)).run P w = .ok () w := by
 simp [Instr.checkKey, run_underlying hk, encI]
theorem check_str {P : Program} {kt : TypeId} (hk : P.underlying kt = some .string) (em : Bool) (k : ByteArray) (w : World) (n : Nat) : (Instr.checkKey em (n + 1) kt (.string k)).run P w = .ok () w := by
 simp [Instr.checkKey, run_underlying hk]
theorem keyOk_int {P : Program} {kt : TypeId} {q : IntKind} (hk : P.underlying kt = some (.int q)) : KeyOk P kt encI (fun _ => True) where
 check em k w := check_int hk em k w 9999
 find k es ks w _ _ h := by simp only [Instr.findKey, Sem.run_bind, run_underlying hk, Result.andThen_ok, findNow_int k es ks 0 q h, Sem.run_pure]
 inj a b h := by simpa [encI] using h
 stays k w := by simp [Instr.keyThatStays, Instr.sameBits, encI]
def encS (k : ByteArray) : Value := .string k
theorem findNow_str (k : ByteArray) : ∀ (es : List MapEntry) (ks : List ByteArray) (n : Nat), es.map (·.key) = ks.map encS →
  Instr.findNow .string (encS k) es n = some ((((ks.zip es).zipIdx n).find? fun x => decide (x.1.1 = k)).map fun x => (x.2, x.1.2.val))
 | [], [], _, _ => rfl
 | [], _ :: _, _, h => by simp at h
 | _ :: _, [], _, h => by simp at h
 | e :: es, x :: ks, n, h => by
  simp only [List.map_cons, List.cons.injEq] at h
  simp only [Instr.findNow, h.1, encS, Instr.sameNow, List.zip_cons_cons, List.zipIdx_cons, List.find?_cons]
  by_cases hk : k = x
  ·subst hk; simp [(MapKept.bytes_beq k k).2 rfl]
  ·have hk' : ¬ x = k := fun e => hk e.symm
   have : (k == x) = false := by rw [← Bool.not_eq_true, MapKept.bytes_beq]; exact hk
   simp only [this, hk', decide_false]
   exact findNow_str k es ks (n + 1) h.2
theorem keyOk_str {P : Program} {kt : TypeId} (hk : P.underlying kt = some .string) : KeyOk P kt encS (fun _ => True) where
 check em k w := check_str hk em k w 9999
 find k es ks w _ _ h := by simp only [Instr.findKey, Sem.run_bind, run_underlying hk, Result.andThen_ok, findNow_str k es ks 0 h, Sem.run_pure]
 inj a b h := by simpa [encS] using h
 stays k w := by simp [Instr.keyThatStays, Instr.sameBits, encS, (MapKept.bytes_beq k k).2 rfl]
end Go.Sep
/- Slices whose array is the call's own: reading, writing, append. No program in sight. -/
namespace Go.Sep
open Go Go.RowKit
section
variable {P : Program} {w w0 : World} {L : List HProp}
theorem S.blk_cells {b : Nat} {e : TypeId} {vs : List Value} (h : S w0 w (blk b e vs :: L)) : S w0 w (cells b 0 vs :: L) := h.sep_elim.tail
theorem S.blk_heap {b : Nat} {e : TypeId} {vs : List Value} (h : S w0 w (blk b e vs :: L)) : w.heap[b]? = some (.cells vs.toArray e (0, 0)) := by
 have h1 := h.sep_elim
 obtain ⟨c, hc, hs⟩ := holds_shape (h1.at (b := b) (i := none) (t := .shape e vs.length) (by rintro _ rfl; simp)).2
 have : c = vs.toArray := by
  apply Array.ext'
  apply List.ext_getElem?
  intro j
  rcases Nat.lt_or_ge j vs.length with hj | hj
  ·have hv : vs[j]? = some vs[j] := by simp [hj]
   have := h.blk_cells.cells_cell j hv
   simp only [Nat.zero_add] at this
   rw [cell_of_row w b j c e (0, 0) hc] at this
   simp [this, hj]
  ·simp [hj, hs]
 rw [hc, this]
theorem S.blk_new {b : Nat} {e : TypeId} {vs : List Value} (h : S w0 w (blk b e vs :: L)) : w0.heap.size ≤ b := (h.sep_elim.at (b := b) (i := none) (t := .shape e vs.length) (by rintro _ rfl; simp)).1
theorem S.blk_lt {b : Nat} {e : TypeId} {vs : List Value} (h : S w0 w (blk b e vs :: L)) : b < w.heap.size := (Array.getElem?_eq_some_iff.1 h.blk_heap).1
theorem S.blk_cell {b : Nat} {e : TypeId} {vs : List Value} (h : S w0 w (blk b e vs :: L)) (j : Nat) {v : Value} (hj : vs[j]? = some v) : w.cell? ⟨b, j, none⟩ = some v := by
 have := h.blk_cells.cells_cell j hj; rwa [Nat.zero_add] at this
theorem S.blk_free {b : Nat} {e : TypeId} {vs : List Value} (h : S w0 w (blk b e vs :: L)) (j : Nat) : w.frozen? ⟨b, j, none⟩ = false := by
 simp [World.frozen?, h.blk_heap]
theorem S.blk_set {b : Nat} {e : TypeId} {vs : List Value} (h : S w0 w (blk b e vs :: L)) (j : Nat) (hj : j < vs.length) (u : Value) : S w0 (w.setCell ⟨b, j, none⟩ u) (blk b e (vs.set j u) :: L) := by
 have h1 := (h.sep_elim.perm (List.Perm.swap _ _ _)).set j hj u
 have h2 := (h1.perm (List.Perm.swap _ _ _)).sep_intro
 rw [Nat.zero_add] at h2
 simpa [blk] using h2
theorem S.blk_turn {b : Nat} {e e' : TypeId} {vs vs' : List Value} {w' : World} (h : S w0 w (blk b e vs :: L)) (hg : w.grownBy w' (some b)) (hb : w'.heap[b]? = some (.cells vs'.toArray e' (0, 0))) : S w0 w' (blk b e' vs' :: L) := by
 have hn := h.blk_new
 have hh0 := h.blk_heap
 have hcell := fun j v hj => h.blk_cells.cells_cell (j := j) (v := v) hj
 obtain ⟨b0, x, ⟨g, k, d, rfl, p, q⟩, hh⟩ := h
 obtain ⟨g', p', hg'⟩ := blk_hp b e' vs'
 have hkb : ∀ i, k b i = none := by
  intro i
  cases hk : k b i with
  | none => rfl
  | some t =>
   have h1 := (d b i).resolve_right (by rw [hk]; simp)
   have h2 := (hh b i t (by simp [Hp.join, h1, hk])).2
   obtain ⟨gs, gc, ds, rfl, ps, pc⟩ := p
   have ps' : gs = _ := ps
   cases i with
   | none => simp [Hp.join, ps'] at h1
   | some i =>
    unfold holds at h2
    rw [hh0] at h2
    simp at h2
    obtain ⟨v, hv, rfl⟩ := h2
    have := cells_at vs b 0 i v hv gc pc
    rw [Nat.zero_add] at this
    simp only [Hp.join] at h1
    rw [this] at h1
    simp at h1
 refine ⟨b0.trans ⟨hg.os, hg.tape, hg.output, hg.size, fun j hj => hg.block j (Nat.lt_of_lt_of_le hj b0.size) (by intro e; cases e; omega)⟩, _, ⟨g', k, ?_, rfl, p', q⟩, ?_⟩
 ·intro b' i
  cases hgi : g' b' i with
  | none => exact .inl rfl
  | some t => right; rw [(hg' b' i t hgi).1]; exact hkb i
 ·intro b' i t e1
  simp only [Hp.join] at e1
  cases hgi : g' b' i with
  | some t' =>
   rw [hgi] at e1; simp at e1; subst e1
   obtain ⟨rfl, ht⟩ := hg' b' i t' hgi
   refine ⟨hn, ?_⟩
   unfold holds
   rw [hb]
   cases i with
   | none => simp at ht; subst ht; simp
   | some i => obtain ⟨v, hv, rfl⟩ := ht; simp [hv]
  | none =>
   rw [hgi] at e1; simp at e1
   have h1 : g b' i = none := (d b' i).resolve_right (by rw [e1]; simp)
   have h2 := hh b' i t (by simp [Hp.join, h1, e1])
   refine ⟨h2.1, ?_⟩
   have hne : b' ≠ b := by intro e; subst e; rw [hkb i] at e1; simp at e1
   rw [← h2.2]
   have hlt : b' < w.heap.size := by
    rcases Nat.lt_or_ge b' w.heap.size with h' | h'
    ·exact h'
    ·have := h2.2; unfold holds at this; rw [Array.getElem?_eq_none h'] at this; simp at this
   unfold holds
   rw [hg.block b' hlt (by simpa using hne)]
structure SlAt (e : TypeId) (size : Nat) (v : Value) (n : Nat) (xs : List Value) (g cap : Nat) (pre sp post : List Value) : Prop where
 val : v = .slice (some ⟨g, pre.length, none⟩) n cap
 len : xs.length = n * size
 room : xs.length + sp.length = cap * size
 le : n ≤ cap
 max : cap ≤ maxLen
def slAt (e : TypeId) (size : Nat) (v : Value) (n : Nat) (xs : List Value) : HProp :=
 ex fun g => ex fun cap => ex fun pre => ex fun sp => ex fun post => sep (pur (SlAt e size v n xs g cap pre sp post)) (blk g e (pre ++ (xs ++ (sp ++ post))))
def sl (e : TypeId) (size : Nat) (v : Value) (n : Nat) (xs : List Value) : HProp := fun h => pur (v = .slice none 0 0 ∧ n = 0 ∧ xs = []) h ∨ slAt e size v n xs h
variable {e : TypeId} {size : Nat} {v : Value} {n : Nat} {xs : List Value}
theorem S.or_elim {A B : HProp} (h : S w0 w ((fun h => A h ∨ B h) :: L)) : S w0 w (A :: L) ∨ S w0 w (B :: L) := by
 obtain ⟨hb, h, ⟨g, k, d, rfl, p, q⟩, hh⟩ := h
 rcases p with p | p
 ·exact .inl ⟨hb, _, ⟨g, k, d, rfl, p, q⟩, hh⟩
 ·exact .inr ⟨hb, _, ⟨g, k, d, rfl, p, q⟩, hh⟩
theorem S.slAt_elim (h : S w0 w (slAt e size v n xs :: L)) : ∃ g cap pre sp post, SlAt e size v n xs g cap pre sp post ∧ S w0 w (blk g e (pre ++ (xs ++ (sp ++ post))) :: L) := by
 obtain ⟨g, h⟩ := h.ex_elim
 obtain ⟨cap, h⟩ := h.ex_elim
 obtain ⟨pre, h⟩ := h.ex_elim
 obtain ⟨sp, h⟩ := h.ex_elim
 obtain ⟨post, h⟩ := h.ex_elim
 obtain ⟨hp, h⟩ := h.sep_elim.pur_elim
 exact ⟨g, cap, pre, sp, post, hp, h⟩
theorem S.sl_elim (h : S w0 w (sl e size v n xs :: L)) : (v = .slice none 0 0 ∧ n = 0 ∧ xs = [] ∧ S w0 w L) ∨ ∃ g cap pre sp post, SlAt e size v n xs g cap pre sp post ∧ S w0 w (blk g e (pre ++ (xs ++ (sp ++ post))) :: L) := by
 rcases S.or_elim h with h | h
 ·obtain ⟨⟨h1, h2, h3⟩, h⟩ := h.pur_elim; exact .inl ⟨h1, h2, h3, h⟩
 ·exact .inr h.slAt_elim
theorem S.sl_nil (h : S w0 w L) : S w0 w (sl e size (.slice none 0 0) 0 [] :: L) := (S.pur_intro (p := Value.slice none 0 0 = .slice none 0 0 ∧ (0 : Nat) = 0 ∧ ([] : List Value) = []) ⟨rfl, rfl, rfl⟩ h).mono fun _ p => .inl p
theorem S.sl_intro {g cap : Nat} {pre sp post : List Value} (hp : SlAt e size v n xs g cap pre sp post) (h : S w0 w (blk g e (pre ++ (xs ++ (sp ++ post))) :: L)) : S w0 w (sl e size v n xs :: L) :=
 S.mono (P := slAt e size v n xs) (.ex_intro g (.ex_intro cap (.ex_intro pre (.ex_intro sp (.ex_intro post (.sep_intro (.pur_intro hp h))))))) fun _ p => .inr p
theorem S.sl_blk {g : Nat} (hl : xs.length = n * size) (hm : n ≤ maxLen) (h : S w0 w (blk g e xs :: L)) : S w0 w (sl e size (.slice (some ⟨g, 0, none⟩) n n) n xs :: L) :=
 .sl_intro (g := g) (cap := n) (pre := []) (sp := []) (post := []) ⟨rfl, hl, by simp [hl], Nat.le_refl _, hm⟩ (by simpa using h)
theorem S.sl_len (h : S w0 w (sl e size v n xs :: L)) : xs.length = n * size := by
 rcases h.sl_elim with ⟨rfl, rfl, rfl, _⟩ | ⟨g, cap, pre, sp, post, hp, _⟩
 ·simp
 ·exact hp.len
theorem S.sl_val (h : S w0 w (sl e size v n xs :: L)) : ∃ a cap, v = .slice a n cap ∧ n ≤ cap ∧ cap ≤ maxLen ∧ (∀ j u, xs[j]? = some u → ∃ g o, a = some ⟨g, o, none⟩ ∧ w.cell? ⟨g, o + j, none⟩ = some u ∧ w.frozen? ⟨g, o + j, none⟩ = false) := by
 rcases h.sl_elim with ⟨rfl, rfl, rfl, _⟩ | ⟨g, cap, pre, sp, post, hp, h⟩
 ·exact ⟨none, 0, rfl, Nat.le_refl _, by simp, by simp⟩
 ·refine ⟨_, cap, hp.val, hp.le, hp.max, fun j u hj => ⟨g, pre.length, rfl, h.blk_cell (pre.length + j) ?_, h.blk_free _⟩⟩
  rw [List.getElem?_append_right (by omega), Nat.add_sub_cancel_left, List.getElem?_append_left (List.getElem?_eq_some_iff.1 hj).1, hj]
theorem S.sl_some (h : S w0 w (sl e size v n xs :: L)) (hn : 0 < xs.length) : ∃ g o cap, v = .slice (some ⟨g, o, none⟩) n cap ∧ n ≤ cap ∧ cap ≤ maxLen ∧ w0.heap.size ≤ g ∧ g < w.heap.size ∧ (∀ j u, xs[j]? = some u → w.cell? ⟨g, o + j, none⟩ = some u) ∧ (∀ j, w.frozen? ⟨g, j, none⟩ = false) := by
 rcases h.sl_elim with ⟨rfl, rfl, rfl, _⟩ | ⟨g, cap, pre, sp, post, hp, h⟩
 ·simp at hn
 ·refine ⟨g, pre.length, cap, hp.val, hp.le, hp.max, h.blk_new, h.blk_lt, fun j u hj => h.blk_cell (pre.length + j) ?_, fun j => h.blk_free _⟩
  rw [List.getElem?_append_right (by omega), Nat.add_sub_cancel_left, List.getElem?_append_left (List.getElem?_eq_some_iff.1 hj).1, hj]
theorem S.sl_set (h : S w0 w (sl e size v n xs :: L)) {g o cap : Nat} (hv : v = .slice (some ⟨g, o, none⟩) n cap) (j : Nat) (hj : j < xs.length) (u : Value) : S w0 (w.setCell ⟨g, o + j, none⟩ u) (sl e size v n (xs.set j u) :: L) := by
 rcases h.sl_elim with ⟨rfl, rfl, rfl, _⟩ | ⟨g', cap', pre, sp, post, hp, h⟩
 ·simp at hj
 ·have := hp.val
  rw [hv] at this
  simp at this
  obtain ⟨⟨rfl, rfl⟩, rfl⟩ := this
  have h1 := h.blk_set (pre.length + j) (by simp; omega) u
  rw [List.set_append_right _ _ (by omega), Nat.add_sub_cancel_left, List.set_append_left _ _ hj] at h1
  exact .sl_intro ⟨hp.val, by simpa using hp.len, by simpa using hp.room, hp.le, hp.max⟩ h1
theorem grownBy_setRow {g : Nat} {c : Array Value} : w.grownBy (w.setRow g c) (some g) :=
 ⟨rfl, rfl, rfl, by simp [World.setRow], fun k _ hk => setRow_other w g k _ (by simpa using hk)⟩
theorem S.append (h : S w0 w (sl e size v n xs :: L)) (t ty : TypeId) (i : TypeInfo) (z : Value) (bytes : Nat) (ht : P.underlying t = some (.slice e)) (hi : P.info? e = some i) (hz : i.zero = some z)
  (hsize : i.size = size) (hby : i.bytes = bytes) (hzs : z.cells.size = size) (hsz : 0 < size)
  (a : Option Addr) (m c : Nat) (news : List Value) (hl : news.length = m * size) (hnews : ∀ j u, news[j]? = some u → ∃ b, a = some b ∧ w.cell? (b.add j) = some u) (h1 : ∀ u ∈ news, u.oneCell' = true)
  (h63 : n + m ≤ maxLen) (hbytes : (n + m) * bytes ≤ 140737488355328) :
  ∃ v' w', (Builtin.append_ #[t, t] ty #[v, .slice a m c]).run P w = .ok v' w' ∧ S w0 w' (sl e size v' (n + m) (xs ++ news) :: L) := by
 subst hsize; subst hby
 by_cases hm : m = 0
 ·subst hm
  have hn0 : news = [] := List.eq_nil_of_length_eq_zero (by simpa using hl)
  subst hn0
  simp only [List.append_nil, Nat.add_zero]
  have hf : (Builtin.firstCells i.size 0 (.slice a 0 c)).run P w = .ok #[] w := by cases a <;> simp [Builtin.firstCells, loadCells, loadCellsFrom]
  obtain ⟨a', cap, hv, hle, _, _⟩ := h.sl_val
  subst hv
  refine ⟨_, w, ?_, h⟩
  cases a' with
  | none => simp [Builtin.append_, run_underlying ht, sizeOf, typeInfo, hi, Builtin.lenOf, hle, hf]
  | some a' => simp [Builtin.append_, run_underlying ht, sizeOf, typeInfo, hi, Builtin.lenOf, hle, hf, storeCells]
 ·have hpos : 0 < news.length := by rw [hl]; exact Nat.mul_pos (by omega) hsz
  obtain ⟨b, rfl⟩ : ∃ b, a = some b := by
   obtain ⟨b, hb, _⟩ := hnews 0 news[0] (by simp)
   exact ⟨b, hb⟩
  have hnews' : ∀ j u, news[j]? = some u → w.cell? (b.add j) = some u := by
   intro j u hj
   obtain ⟨b', hb', hc⟩ := hnews j u hj
   cases hb'; exact hc
  have h63' : n + m ≤ 9223372036854775807 := by simp only [maxLen] at h63; omega
  have grown : ∀ old, old < n + m → ∀ L', S w0 w L' → xs.length = n * i.size →
    S w0 (w.drew.alloc (.cells (xs.toArray ++ news.toArray ++ Builtin.zeroCells z.cells (grownCap w (n + m) old e - (n + m))) e)) (sl e i.size (.slice (some ⟨w.heap.size, 0, none⟩) (n + m) (grownCap w (n + m) old e)) (n + m) (xs ++ news) :: L') := by
   intro old ho L' hL' hxl
   have hge := grownCap_ge w (n + m) old e
   have h2 := hL'.drew.alloc (xs.toArray ++ news.toArray ++ Builtin.zeroCells z.cells (grownCap w (n + m) old e - (n + m))) e
   refine .sl_intro (g := w.heap.size) (cap := grownCap w (n + m) old e) (pre := []) (sp := (Builtin.zeroCells z.cells (grownCap w (n + m) old e - (n + m))).toList) (post := []) ⟨rfl, ?_, ?_, hge, grownCap_le_maxLen w (n + m) old e h63⟩ ?_
   ·rw [List.length_append, hxl, hl, Nat.add_mul]
   ·simp only [List.length_append, Array.length_toList, size_zeroCells, hzs, hxl, hl, ← Nat.add_mul]; congr 1; omega
   ·simpa [List.append_assoc] using h2
  rcases h.sl_elim with ⟨rfl, rfl, rfl, h'⟩ | ⟨g, cap, pre, sp, post, hp, h'⟩
  ·have hr := run_append_nil (P := P) w t ty e i z ht hi hz b m c news hl hnews' (by omega) (by omega) (by have hb := hbytes; simp only [Nat.zero_add] at hb; omega)
   have hg := grown 0 (by omega) L h' (by simp)
   simp only [Nat.zero_add, List.nil_append, Array.empty_append] at hg ⊢
   exact ⟨_, _, hr, by simpa using hg⟩
  ·have hv := hp.val
   subst hv
   by_cases hroom : n + m ≤ cap
   ·have hb := h'.blk_heap
    have hml : news.length ≤ sp.length := by
     have h5 := hp.room
     have h6 := hp.len
     have : (n + m) * i.size ≤ cap * i.size := Nat.mul_le_mul_right _ hroom
     rw [Nat.add_mul] at this
     rw [hl]; omega
    have hf := run_firstCells_some (P := P) w i.size m b m c news hl hnews'
    have hst := run_storeCells_at P g (pre.length + n * i.size) e news 0 _ w hb (by simp; rw [← hp.len]; omega) h1
    simp only [Nat.add_zero] at hst
    have hcs : List.take (pre.length + n * i.size) (pre ++ (xs ++ (sp ++ post))) ++ news ++ List.drop (pre.length + n * i.size + news.length) (pre ++ (xs ++ (sp ++ post))) = pre ++ ((xs ++ news) ++ (sp.drop news.length ++ post)) := by
     rw [← hp.len]
     simp only [List.take_append, List.drop_append, Nat.add_sub_cancel_left, Nat.le_add_right, List.take_of_length_le]
     simp only [Nat.sub_self, List.take_zero, List.append_assoc]
     have e1 : pre.length + xs.length + news.length - pre.length - xs.length = news.length := by omega
     have e2 : List.drop (pre.length + xs.length + news.length) pre = [] := List.drop_of_length_le (by omega)
     have e3 : List.drop (pre.length + xs.length + news.length - pre.length) xs = [] := List.drop_of_length_le (by omega)
     have e4 : List.drop (news.length - sp.length) post = post := by rw [show news.length - sp.length = 0 from by omega]; rfl
     rw [e1, e2, e3, e4]; simp
    rw [hcs] at hst
    have hrow := setRow_heap w g _ (pre ++ ((xs ++ news) ++ (sp.drop news.length ++ post))).toArray e _ hb
    have h3 := h'.blk_turn grownBy_setRow hrow
    refine ⟨.slice (some ⟨g, pre.length, none⟩) (n + m) cap, w.setRow g (pre ++ ((xs ++ news) ++ (sp.drop news.length ++ post))).toArray, ?_, ?_⟩
    ·have hadd : (⟨g, pre.length, none⟩ : Addr).add (n * i.size) = ⟨g, pre.length + n * i.size, none⟩ := by unfold Addr.add; split <;> simp_all
     simp [Builtin.append_, run_underlying ht, sizeOf, typeInfo, hi, Builtin.lenOf, hroom, hf, hadd, hst]
    ·refine .sl_intro ⟨rfl, ?_, ?_, hroom, hp.max⟩ h3
     ·rw [List.length_append, hp.len, hl, Nat.add_mul]
     ·have := hp.room; simp only [List.length_append, List.length_drop]; omega
   ·have holds' : ∀ j u, xs[j]? = some u → w.cell? ((⟨g, pre.length, none⟩ : Addr).add j) = some u := by
     intro j u hj
     have hadd : (⟨g, pre.length, none⟩ : Addr).add j = ⟨g, pre.length + j, none⟩ := by unfold Addr.add; split <;> simp_all
     rw [hadd]
     refine h'.blk_cell _ ?_
     rw [List.getElem?_append_right (by omega), Nat.add_sub_cancel_left, List.getElem?_append_left (List.getElem?_eq_some_iff.1 hj).1, hj]
    have hr := run_append_grow (P := P) w t ty e i z ht hi hz ⟨g, pre.length, none⟩ n cap xs hp.len holds' b m c news hl hnews' (by omega) (by omega) (growslice_fits (by omega) hbytes)
    exact ⟨_, _, hr, grown cap (by omega) L h'.tail hp.len⟩
end
end Go.Sep
/- Small words for walks: focus on one of many, errors, readings of arguments. -/
namespace Go.Sep
open Go Go.RowKit
theorem hid {p : Prop} (h : p) : Hid p := h
theorem retB {a b : Bool} (h : a = b) : Ending.returned (.bool a) = .returned (.bool b) := by rw [h]
theorem retI {k : IntKind} {a b : Int} (h : a = b) : Ending.returned (.int k a) = .returned (.int k b) := by rw [h]
theorem all_pick : ∀ (L : List HProp) (i : Nat) (h : i < L.length), all L = sep L[i] (all (L.eraseIdx i))
 | P :: L, 0, _ => rfl
 | P :: L, i + 1, h => by
  simp only [all, List.getElem_cons_succ, List.eraseIdx_cons_succ]
  rw [all_pick L i (by simpa using h), sep_left_comm]
theorem all_set (L : List HProp) (i : Nat) (h : i < L.length) (P : HProp) : all (L.set i P) = sep P (all (L.eraseIdx i)) := by
 rw [all_pick (L.set i P) i (by simpa using h)]
 congr 1
 ·simp
 ·rw [List.eraseIdx_set_eq]
variable {w w0 : World} {L : List HProp}
theorem S.swap {P Q : HProp} (h : S w0 w (P :: Q :: L)) : S w0 w (Q :: P :: L) := h.perm (List.Perm.swap _ _ _)
theorem S.rot3 {P Q R : HProp} (h : S w0 w (P :: Q :: R :: L)) : S w0 w (R :: P :: Q :: L) := (h.conv (by simp only [all]; rw [sep_left_comm Q R, sep_left_comm P R]))
theorem S.pick {M : List HProp} (h : S w0 w (all M :: L)) (i : Nat) (hi : i < M.length) : S w0 w (M[i] :: all (M.eraseIdx i) :: L) := h.conv (by simp only [all]; rw [all_pick M i hi, sep_assoc])
def Rd (w : World) (v : Value) (n : Nat) (xs : List Value) : Prop :=
 ∃ a cap, v = .slice a n cap ∧ n ≤ cap ∧ cap ≤ maxLen ∧ ∀ j u, xs[j]? = some u → ∃ b o, a = some ⟨b, o, none⟩ ∧ w.cell? ⟨b, o + j, none⟩ = some u
def RdK (w0 : World) (L : List HProp) (v : Value) (n : Nat) (xs : List Value) : Prop := ∀ w, S w0 w L → Rd w v n xs
theorem RdK.pos {v : Value} {n : Nat} {xs : List Value} (h : RdK w0 L v n xs) (hs : S w0 w L) (hx : 0 < xs.length) :
  ∃ b o cap, v = .slice (some ⟨b, o, none⟩) n cap ∧ n ≤ cap ∧ cap ≤ maxLen ∧ ∀ w', S w0 w' L → ∀ j u, xs[j]? = some u → w'.cell? ⟨b, o + j, none⟩ = some u := by
 obtain ⟨a, cap, hv, h1, h2, h3⟩ := h w hs
 obtain ⟨b, o, hb, _⟩ := h3 0 xs[0] (by simp)
 refine ⟨b, o, cap, by rw [hv, hb], h1, h2, fun w' hs' j u hj => ?_⟩
 obtain ⟨a', cap', hv', _, _, h3'⟩ := h w' hs'
 obtain ⟨b', o', hb', hc⟩ := h3' j u hj
 rw [hv, hb] at hv'
 simp at hv'
 rw [hb'] at hv'
 simp at hv'
 obtain ⟨⟨rfl, rfl⟩, _⟩ := hv'
 exact hc
theorem RdK.zero {v : Value} {xs : List Value} (h : RdK w0 L v 0 xs) (hs : S w0 w L) : ∃ a cap, v = .slice a 0 cap := by
 obtain ⟨a, cap, hv, _⟩ := h w hs; exact ⟨a, cap, hv⟩
theorem RdK.mono {v : Value} {n : Nat} {xs : List Value} {M : List HProp} (h : RdK w0 L v n xs) (hm : ∀ w, S w0 w M → S w0 w L) : RdK w0 M v n xs := fun w hs => h w (hm w hs)
theorem RdK.own {e : TypeId} {size n : Nat} {v : Value} {xs : List Value} : RdK w0 (sl e size v n xs :: L) v n xs := by
 intro w hs
 obtain ⟨a, cap, hv, h1, h2, h3⟩ := hs.sl_val
 refine ⟨a, cap, hv, h1, h2, fun j u hj => ?_⟩
 obtain ⟨g, o, hg, hc, _⟩ := h3 j u hj
 exact ⟨g, o, hg, hc⟩
theorem RdK.old {v : Value} {n : Nat} {xs : List Value} (h : Rd w0 v n xs) (hlt : ∀ b o cap, v = .slice (some ⟨b, o, none⟩) n cap → xs ≠ [] → b < w0.heap.size) : RdK w0 L v n xs := by
 intro w hs
 obtain ⟨a, cap, hv, h1, h2, h3⟩ := h
 refine ⟨a, cap, hv, h1, h2, fun j u hj => ?_⟩
 obtain ⟨b, o, hb, hc⟩ := h3 j u hj
 refine ⟨b, o, hb, ?_⟩
 rw [hs.1.cell (p := ⟨b, o + j, none⟩) (hlt b o cap (by rw [hv, hb]) (by intro e; rw [e] at hj; simp at hj))]
 exact hc
theorem S.drewN (h : S w0 w L) (n : Nat) : S w0 (w.drewN n) L := by
 induction n with
 | zero => exact h
 | succ n ih => exact ⟨ih.1.drew, ih.2⟩
section
variable {P : Program} {e : TypeId} {size : Nat} {v : Value} {n : Nat} {xs : List Value}
theorem wp_append {o : Oper} {a : Act} {K : Act → World → Prop} {Q : Exit → Act → World → Prop} (s x : Operand) (t : TypeId)
  (hop : o.op = .call { callee := .builtin .append, args := #[s, x], argTypes := #[t, t] })
  (e : TypeId) (i : TypeInfo) (z : Value) (size bytes : Nat) (ht : P.underlying t = some (.slice e)) (hi : P.info? e = some i) (hz : i.zero = some z)
  (hsize : i.size = size) (hby : i.bytes = bytes) (hzs : z.cells.size = size) (hsz : 0 < size)
  (hs : S w0 w (sl e size v n xs :: L)) (hv : a.eval s = v)
  (ad : Option Addr) (m c : Nat) (news : List Value) (hx : a.eval x = .slice ad m c) (hl : news.length = m * size) (hnews : ∀ j u, news[j]? = some u → ∃ b, ad = some b ∧ w.cell? (b.add j) = some u) (h1 : ∀ u ∈ news, u.oneCell' = true)
  (h63 : n + m ≤ maxLen) (hbytes : (n + m) * bytes ≤ 140737488355328)
  (h : ∀ v' w', S w0 w' (sl e size v' (n + m) (xs ++ news) :: L) → K (a.put o.dst v') w') : o.wp P a w K Q := by
 obtain ⟨v', w', hr, hs'⟩ := hs.append (P := P) t o.type i z bytes ht hi hz hsize hby hzs hsz ad m c news hl hnews h1 h63 hbytes
 unfold Oper.wp execOp
 simp only [hop, resolve, invoke, builtin, Sem.run_bind, Sem.run_pure, Result.andThen_ok, List.map_toArray, List.map_cons, List.map_nil, hv, hx, hr]
 exact h v' w' hs'
theorem step_append {ops : Array Oper} {o : Oper} {a : Act} {K : Act → World → Prop} {Q : Exit → Act → World → Prop} {E : Prop} (hg : o.guard = none) (s x : Operand) (t : TypeId)
  (hop : o.op = .call { callee := .builtin .append, args := #[s, x], argTypes := #[t, t] })
  (e : TypeId) (i : TypeInfo) (z : Value) (size bytes : Nat) (ht : P.underlying t = some (.slice e)) (hi : P.info? e = some i) (hz : i.zero = some z)
  (hsize : i.size = size) (hby : i.bytes = bytes) (hzs : z.cells.size = size) (hsz : 0 < size)
  (hs : S w0 w (sl e size v n xs :: L)) (hv : a.eval s = v)
  (ad : Option Addr) (m c : Nat) (news : List Value) (hx : a.eval x = .slice ad m c) (hl : news.length = m * size) (hnews : ∀ j u, news[j]? = some u → ∃ b, ad = some b ∧ w.cell? (b.add j) = some u) (h1 : ∀ u ∈ news, u.oneCell' = true)
  (h63 : n + m ≤ maxLen) (hbytes : (n + m) * bytes ≤ 140737488355328)
  (h : ∀ v' w', S w0 w' (sl e size v' (n + m) (xs ++ news) :: L) → K (a.put o.dst v') w') : if Region.wanted o (yielded ops a.tmps) = true then Oper.wp P o a w K Q else E := by
 rw [if_pos (by simp [Region.wanted, hg])]
 exact wp_append s x t hop e i z size bytes ht hi hz hsize hby hzs hsz hs hv ad m c news hx hl hnews h1 h63 hbytes h
theorem wpList_append {ops : Array Oper} {rest : List Oper} {o : Oper} {a : Act} {Q : Exit → Act → World → Prop} (hg : o.guard = none) (s x : Operand) (t : TypeId)
  (hop : o.op = .call { callee := .builtin .append, args := #[s, x], argTypes := #[t, t] })
  (e : TypeId) (i : TypeInfo) (z : Value) (size bytes : Nat) (ht : P.underlying t = some (.slice e)) (hi : P.info? e = some i) (hz : i.zero = some z)
  (hsize : i.size = size) (hby : i.bytes = bytes) (hzs : z.cells.size = size) (hsz : 0 < size)
  (hs : S w0 w (sl e size v n xs :: L)) (hv : a.eval s = v)
  (ad : Option Addr) (m c : Nat) (news : List Value) (hx : a.eval x = .slice ad m c) (hl : news.length = m * size) (hnews : ∀ j u, news[j]? = some u → ∃ b, ad = some b ∧ w.cell? (b.add j) = some u) (h1 : ∀ u ∈ news, u.oneCell' = true)
  (h63 : n + m ≤ maxLen) (hbytes : (n + m) * bytes ≤ 140737488355328)
  (h : ∀ v' w', S w0 w' (sl e size v' (n + m) (xs ++ news) :: L) → wpList P ops Q rest (a.put o.dst v') w') : wpList P ops Q (o :: rest) a w :=
 wpList_plain hg fun _ hK => wp_append s x t hop e i z size bytes ht hi hz hsize hby hzs hsz hs hv ad m c news hx hl hnews h1 h63 hbytes fun v' w' h2 => hK _ _ (h v' w' h2)
theorem news_blk {b : Nat} {e : TypeId} {vs : List Value} {M : List HProp} (h : S w0 w (blk b e vs :: M)) : ∀ j u, vs[j]? = some u → ∃ a, (some ⟨b, 0, none⟩ : Option Addr) = some a ∧ w.cell? (a.add j) = some u := by
 intro j u hj
 refine ⟨_, rfl, ?_⟩
 have hadd : (⟨b, 0, none⟩ : Addr).add j = ⟨b, j, none⟩ := by unfold Addr.add; split <;> simp_all
 rw [hadd]; exact h.blk_cell j hj
end
inductive Err where
 | nil
 | no (e : Int)
 | at_ (e p : Int)
def errP (T A Ap : TypeId) (v : Value) : Err → HProp
 | .nil => pur (v = .nilIface)
 | .no e => pur (v = .iface T (.int .i64 e))
 | .at_ e p => ex fun g => sep (pur (v = .iface Ap (.pointer (some ⟨g, 0, none⟩)))) (blk g A [.int .i64 e, .int .i64 p])
def pcells (l : List (Int × Int)) : List Value := l.flatMap fun p => [.int .i64 p.1, .int .i64 p.2]
theorem pcells_length (l : List (Int × Int)) : (pcells l).length = l.length * 2 := by
 induction l with
 | nil => rfl
 | cons p l ih => simp only [pcells, List.flatMap_cons, List.length_append, List.length_cons, List.length_nil] at ih ⊢; rw [ih]; omega
theorem pcells_append (l m : List (Int × Int)) : pcells (l ++ m) = pcells l ++ pcells m := by simp [pcells]
theorem pcells_at : ∀ (l : List (Int × Int)) (j : Nat) (p : Int × Int), l[j]? = some p → (pcells l)[j * 2]? = some (.int .i64 p.1) ∧ (pcells l)[j * 2 + 1]? = some (.int .i64 p.2)
 | [], _, _, h => by simp at h
 | q :: l, 0, p, h => by simp at h; subst h; simp [pcells]
 | q :: l, j + 1, p, h => by
  have := pcells_at l j p (by simpa using h)
  have e : pcells (q :: l) = .int .i64 q.1 :: .int .i64 q.2 :: pcells l := rfl
  rw [e, show (j + 1) * 2 = j * 2 + 1 + 1 from by omega, show j * 2 + 1 + 1 + 1 = (j * 2 + 1) + 1 + 1 from by omega]
  simpa using this
theorem pcells_set (l : List (Int × Int)) (j : Nat) (p : Int × Int) (v : Int) (h : l[j]? = some p) : (pcells l).set (j * 2 + 1) (.int .i64 v) = pcells (l.set j (p.1, v)) := by
 induction l generalizing j with
 | nil => simp at h
 | cons q l ih =>
  have e : ∀ q l, pcells (q :: l) = .int .i64 q.1 :: .int .i64 q.2 :: pcells l := fun _ _ => rfl
  cases j with
  | zero => simp at h; subst h; simp [e]
  | succ j =>
   rw [e, show (j + 1) * 2 + 1 = (j * 2 + 1) + 1 + 1 from by omega]
   simp only [List.set_cons_succ, e]
   rw [ih j (by simpa using h)]
theorem RdK.pair {w0 w : World} {L : List HProp} {a : Option Addr} {cap : Nat} {l : List (Int × Int)} (h : RdK w0 L (.slice a l.length cap) l.length (pcells l)) (hs : S w0 w L) {i : Nat} {p : Int × Int} (hp : l[i]? = Option.some p) :
  ∃ b o, a = Option.some ⟨b, o, none⟩ ∧ w.cell? ⟨b, o + i * 2, none⟩ = Option.some (.int .i64 p.1) ∧ w.cell? ⟨b, o + i * 2 + 1, none⟩ = Option.some (.int .i64 p.2) := by
 have hi := (List.getElem?_eq_some_iff.1 hp).1
 obtain ⟨b, o, cap', hv, _, _, hrd⟩ := h.pos hs (by rw [pcells_length]; omega)
 simp only [Value.slice.injEq] at hv
 obtain ⟨rfl, -, rfl⟩ := hv
 exact ⟨b, o, rfl, hrd w hs _ _ (pcells_at l i p hp).1, hrd w hs _ _ (pcells_at l i p hp).2⟩
theorem S.sl_pair {w0 w : World} {L : List HProp} {e : TypeId} {a : Option Addr} {n cap : Nat} {l : List (Int × Int)} (h : S w0 w (sl e 2 (.slice a n cap) n (pcells l) :: L)) {i : Nat} {p : Int × Int} (hp : l[i]? = Option.some p) :
  ∃ b o, a = Option.some ⟨b, o, none⟩ ∧ b < w.heap.size ∧ w.cell? ⟨b, o + i * 2, none⟩ = Option.some (.int .i64 p.1) ∧ w.cell? ⟨b, o + i * 2 + 1, none⟩ = Option.some (.int .i64 p.2) := by
 have hi := (List.getElem?_eq_some_iff.1 hp).1
 obtain ⟨b, o, cap', hv, _, _, _, hlt, hrd, _⟩ := h.sl_some (by rw [pcells_length]; omega)
 simp only [Value.slice.injEq] at hv
 obtain ⟨rfl, -, rfl⟩ := hv
 exact ⟨b, o, rfl, hlt, hrd _ _ (pcells_at l i p hp).1, hrd _ _ (pcells_at l i p hp).2⟩
def icells (l : List Int) : List Value := l.map (.int .i64)
theorem icells_length (l : List Int) : (icells l).length = l.length := by simp [icells]
theorem icells_append (l m : List Int) : icells (l ++ m) = icells l ++ icells m := by simp [icells]
theorem icells_at {l : List Int} {j : Nat} {x : Int} (h : l[j]? = Option.some x) : (icells l)[j]? = Option.some (.int .i64 x) := by simp [icells, h]
theorem S.sl_int {w0 w : World} {L : List HProp} {e : TypeId} {a : Option Addr} {n cap : Nat} {l : List Int} (h : S w0 w (sl e 1 (.slice a n cap) n (icells l) :: L)) {i : Nat} {x : Int} (hp : l[i]? = Option.some x) :
  ∃ b o, a = Option.some ⟨b, o, none⟩ ∧ b < w.heap.size ∧ w.cell? ⟨b, o + i, none⟩ = Option.some (.int .i64 x) := by
 have hi := (List.getElem?_eq_some_iff.1 hp).1
 obtain ⟨b, o, cap', hv, _, _, _, hlt, hrd, _⟩ := h.sl_some (by rw [icells_length]; omega)
 simp only [Value.slice.injEq] at hv
 obtain ⟨rfl, -, rfl⟩ := hv
 exact ⟨b, o, rfl, hlt, hrd _ _ (icells_at hp)⟩
theorem take_succ_get {α : Type} {l : List α} {i : Nat} {x : α} (h : l[i]? = Option.some x) : l.take (i + 1) = l.take i ++ [x] := by
 obtain ⟨hi, rfl⟩ := List.getElem?_eq_some_iff.1 h
 exact List.take_succ_eq_append_getElem hi
end Go.Sep
namespace Go.Sep
open Go Go.RowKit
abbrev Vers := List (Int × Int)
def storeK (T b o : Nat) (kv : List Value) (V : List Vers) (last : Int) : HProp :=
 sep (pur (kv.length = 10 ∧ V.length = 10)) (sep (cells b o (kv ++ [.int .i64 last])) (all ((kv.zip V).map fun p => sl T 2 p.1 p.2.length (pcells p.2))))
def storeP (T b o : Nat) (V : List Vers) (last : Int) : HProp := ex fun kv => storeK T b o kv V last
variable {w w0 : World} {L : List HProp} {T b o : Nat} {kv : List Value} {V : List Vers} {last : Int}
theorem S.storeK_len (h : S w0 w (storeK T b o kv V last :: L)) : kv.length = 10 ∧ V.length = 10 := h.sep_elim.pur_elim.1
theorem S.store_len (h : S w0 w (storeP T b o V last :: L)) : V.length = 10 := by
 obtain ⟨kv, h⟩ := h.ex_elim
 exact h.storeK_len.2
theorem S.storeK_last (h : S w0 w (storeK T b o kv V last :: L)) : w.cell? ⟨b, o + 10, none⟩ = some (.int .i64 last) ∧ w.frozen? ⟨b, o + 10, none⟩ = false ∧ w0.heap.size ≤ b ∧ ∀ l', S w0 (w.setCell ⟨b, o + 10, none⟩ (.int .i64 l')) (storeK T b o kv V l' :: L) := by
 obtain ⟨hp, h⟩ := h.sep_elim.pur_elim
 have h := h.sep_elim
 have hg : (kv ++ [Value.int .i64 last])[10]? = some (.int .i64 last) := by rw [List.getElem?_append_right (by omega), hp.1]; rfl
 refine ⟨h.cells_cell 10 hg, h.cells_free 10 hg, h.cells_new (by simp), fun l' => ?_⟩
 have h2 := h.set 10 (by simp [hp.1]) (.int .i64 l')
 rw [List.set_append_right _ _ (by omega), hp.1] at h2
 exact .sep_intro (.pur_intro hp (.sep_intro h2))
theorem S.store_last (h : S w0 w (storeP T b o V last :: L)) : w.cell? ⟨b, o + 10, none⟩ = some (.int .i64 last) ∧ w.frozen? ⟨b, o + 10, none⟩ = false ∧ ∀ l', S w0 (w.setCell ⟨b, o + 10, none⟩ (.int .i64 l')) (storeP T b o V l' :: L) := by
 obtain ⟨kv, h⟩ := h.ex_elim
 obtain ⟨h1, h2, _, h3⟩ := h.storeK_last
 exact ⟨h1, h2, fun l' => .ex_intro kv (h3 l')⟩
theorem S.storeK_arr (h : S w0 w (storeK T b o kv V last :: L)) : ∀ j u, kv[j]? = some u → w.cell? ⟨b, o + j, none⟩ = some u := by
 obtain ⟨hp, h⟩ := h.sep_elim.pur_elim
 intro j u hj
 exact h.sep_elim.cells_cell j (by rw [List.getElem?_append_left (List.getElem?_eq_some_iff.1 hj).1, hj])
theorem S.storeK_key (h : S w0 w (storeK T b o kv V last :: L)) (k : Nat) (hk : k < 10) : ∃ v vs X, kv[k]? = some v ∧ V[k]? = some vs ∧ S w0 w (sl T 2 v vs.length (pcells vs) :: X :: L) ∧
  (∀ w' M, S w0 w' (X :: M) → w'.cell? ⟨b, o + k, none⟩ = some v ∧ w'.frozen? ⟨b, o + k, none⟩ = false ∧ w0.heap.size ≤ b ∧ b < w'.heap.size) ∧
  (∀ w' M, S w0 w' (sl T 2 v vs.length (pcells vs) :: X :: M) → S w0 w' (storeK T b o kv V last :: M)) ∧
  (∀ w' v' vs' M, S w0 w' (sl T 2 v' vs'.length (pcells vs') :: X :: M) → S w0 (w'.setCell ⟨b, o + k, none⟩ v') (storeK T b o (kv.set k v') (V.set k vs') last :: M)) ∧
  (∀ w' vs' M, S w0 w' (sl T 2 v vs'.length (pcells vs') :: X :: M) → S w0 w' (storeK T b o kv (V.set k vs') last :: M)) := by
 obtain ⟨⟨hkv, hV⟩, h⟩ := h.sep_elim.pur_elim
 have h := h.sep_elim
 have hz : k < ((kv.zip V).map fun p => sl T 2 p.1 p.2.length (pcells p.2)).length := by simp; omega
 have hkk : k < kv.length := by omega
 have hVk : k < V.length := by omega
 refine ⟨kv[k], V[k], sep (cells b o (kv ++ [.int .i64 last])) (all (((kv.zip V).map fun p => sl T 2 p.1 p.2.length (pcells p.2)).eraseIdx k)), by simp [hkk], by simp [hVk], ?_, ?_, ?_, ?_, ?_⟩
 ·have h2 := h.swap.pick k hz
  simp only [List.getElem_map, List.getElem_zip] at h2
  exact h2.conv (by simp only [all]; rw [sep_assoc, sep_left_comm (cells _ _ _)])
 ·intro w' M hs
  have hg : (kv ++ [Value.int .i64 last])[k]? = some kv[k] := by rw [List.getElem?_append_left hkk]; simp [hkk]
  exact ⟨hs.sep_elim.cells_cell k hg, hs.sep_elim.cells_free k hg, hs.sep_elim.cells_new (by simp), hs.sep_elim.cells_lt (by simp)⟩
 ·intro w' M hs
  refine .sep_intro (.pur_intro ⟨hkv, hV⟩ (.sep_intro ?_))
  refine hs.conv ?_
  simp only [all]
  rw [all_pick _ k hz]
  simp only [List.getElem_map, List.getElem_zip]
  rw [sep_assoc, sep_left_comm, sep_assoc]
 all_goals
  have hset : ∀ v' vs', ((kv.set k v').zip (V.set k vs')).map (fun p => sl T 2 p.1 p.2.length (pcells p.2)) = ((kv.zip V).map fun p => sl T 2 p.1 p.2.length (pcells p.2)).set k (sl T 2 v' vs'.length (pcells vs')) := by
   intro v' vs'
   apply List.ext_getElem?
   intro j
   simp only [List.getElem?_map, List.getElem?_set, List.zip, List.getElem?_zipWith]
   by_cases hj : k = j
   ·subst hj; simp [hkv, hV, hk]
   ·simp [hj]
 ·intro w' v' vs' M hs
  have h3 : S w0 w' (cells b o (kv ++ [.int .i64 last]) :: sl T 2 v' vs'.length (pcells vs') :: all (((kv.zip V).map fun p => sl T 2 p.1 p.2.length (pcells p.2)).eraseIdx k) :: M) :=
   hs.conv (by simp only [all]; rw [sep_assoc, sep_left_comm])
  have h4 := h3.set k (by simp; omega) v'
  rw [List.set_append_left _ _ hkk] at h4
  refine .sep_intro (.pur_intro ⟨by simpa using hkv, by simpa using hV⟩ (.sep_intro ?_))
  rw [hset]
  exact h4.conv (by simp only [all]; rw [all_set _ k hz, sep_assoc])
 ·intro w' vs' M hs
  refine .sep_intro (.pur_intro ⟨hkv, by simpa using hV⟩ (.sep_intro ?_))
  have := hset kv[k] vs'
  rw [List.set_getElem_self] at this
  rw [this]
  exact hs.conv (by simp only [all]; rw [all_set _ k hz, sep_assoc, sep_left_comm, sep_assoc])
theorem S.store_key (h : S w0 w (storeP T b o V last :: L)) (k : Nat) (hk : k < 10) : ∃ v vs X, V[k]? = some vs ∧ S w0 w (sl T 2 v vs.length (pcells vs) :: X :: L) ∧
  (∀ w', S w0 w' (X :: L) → w'.cell? ⟨b, o + k, none⟩ = some v ∧ w'.frozen? ⟨b, o + k, none⟩ = false ∧ w0.heap.size ≤ b) ∧
  (∀ w' M, S w0 w' (sl T 2 v vs.length (pcells vs) :: X :: M) → S w0 w' (storeP T b o V last :: M)) ∧
  (∀ w' v' vs' M, S w0 w' (sl T 2 v' vs'.length (pcells vs') :: X :: M) → S w0 (w'.setCell ⟨b, o + k, none⟩ v') (storeP T b o (V.set k vs') last :: M)) ∧
  (∀ w' vs' M, S w0 w' (sl T 2 v vs'.length (pcells vs') :: X :: M) → S w0 w' (storeP T b o (V.set k vs') last :: M)) := by
 obtain ⟨kv, h⟩ := h.ex_elim
 obtain ⟨v, vs, X, _, h1, h2, h3, h4, h5, h6⟩ := h.storeK_key k hk
 exact ⟨v, vs, X, h1, h2, fun w' hs => ⟨(h3 w' _ hs).1, (h3 w' _ hs).2.1, (h3 w' _ hs).2.2.1⟩, fun w' M hs => .ex_intro _ (h4 w' M hs), fun w' v' vs' M hs => .ex_intro _ (h5 w' v' vs' M hs), fun w' vs' M hs => .ex_intro _ (h6 w' vs' M hs)⟩
theorem S.storeK_vals (h : S w0 w (storeK T b o kv V last :: L)) : ∀ (k : Nat) (vs : Vers), V[k]? = some vs → ∃ a cap, kv[k]? = some (Value.slice a vs.length cap) ∧ vs.length ≤ cap ∧ cap ≤ maxLen := by
 intro k vs hv
 have hk : k < 10 := by have h1 := h.storeK_len.2; have h2 := (List.getElem?_eq_some_iff.1 hv).1; omega
 obtain ⟨v, vs', X, h1, h2, h3, _⟩ := h.storeK_key k hk
 obtain rfl : vs = vs' := Option.some.inj (hv.symm.trans h2)
 obtain ⟨a, cap, hv', h4, h5, _⟩ := h3.sl_val
 exact ⟨a, cap, by rw [h1, hv'], h4, h5⟩
def keyOk (k : Int) : Prop := 0 ≤ k ∧ k < 10
instance : DecidablePred keyOk := fun k => by unfold keyOk; infer_instance
def valOk (v : Int) : Prop := -1099511627776 ≤ v ∧ v ≤ 1099511627776
instance : DecidablePred valOk := fun k => by unfold valOk; infer_instance
def badAt : Nat → Vers → Option (Int × Int)
 | _, [] => none
 | i, p :: l => if ¬ keyOk p.1 then some (2, (i : Int)) else if ¬ valOk p.2 then some (1, (i : Int)) else badAt (i + 1) l
def put1 (at_ : Int) (V : List Vers) (p : Int × Int) : List Vers :=
 let vs := (V[p.1.toNat]?).getD []
 V.set p.1.toNat (if (vs.getLast?.map (·.1)) = some at_ then vs.dropLast ++ [(at_, p.2)] else vs ++ [(at_, p.2)])
def putAll (at_ : Int) (V : List Vers) (l : Vers) : List Vers := l.foldl (put1 at_) V
theorem badAt_none {i : Nat} {l : Vers} (h : badAt i l = none) : ∀ p ∈ l, keyOk p.1 ∧ valOk p.2 := by
 induction l generalizing i with
 | nil => simp
 | cons q l ih =>
  unfold badAt at h
  split at h
  ·simp at h
  ·split at h
   ·simp at h
   ·rename_i h1 h2
    intro p hp
    cases hp with
    | head => exact ⟨Decidable.not_not.1 h1, Decidable.not_not.1 h2⟩
    | tail _ hp => exact ih h p hp
theorem put1_length (at_ : Int) (V : List Vers) (p : Int × Int) : (put1 at_ V p).length = V.length := by simp [put1]
theorem putAll_length (at_ : Int) (l : Vers) : ∀ (V : List Vers), (putAll at_ V l).length = V.length := by
 induction l with
 | nil => intro V; rfl
 | cons p l ih => intro V; exact (ih (put1 at_ V p)).trans (put1_length at_ V p)
theorem put1_le {N : Nat} {at_ : Int} {V : List Vers} (p : Int × Int) (h : ∀ vs ∈ V, vs.length ≤ N) : ∀ vs ∈ put1 at_ V p, vs.length ≤ N + 1 := by
 intro vs hvs
 unfold put1 at hvs
 rcases List.mem_or_eq_of_mem_set hvs with h1 | rfl
 ·have := h vs h1; omega
 ·have hv : ((V[p.1.toNat]?).getD []).length ≤ N := by
   cases hg : V[p.1.toNat]? with
   | none => simp
   | some x => exact h x (List.mem_of_getElem? hg)
  split <;> simp <;> omega
theorem putAll_le {at_ : Int} (l : Vers) : ∀ {N : Nat} {V : List Vers}, (∀ vs ∈ V, vs.length ≤ N) → ∀ vs ∈ putAll at_ V l, vs.length ≤ N + l.length := by
 induction l with
 | nil => intro N V h; simpa [putAll] using h
 | cons p l ih =>
  intro N V h vs hvs
  have := ih (put1_le (at_ := at_) p h) vs hvs
  simp only [List.length_cons]; omega
end Go.Sep
