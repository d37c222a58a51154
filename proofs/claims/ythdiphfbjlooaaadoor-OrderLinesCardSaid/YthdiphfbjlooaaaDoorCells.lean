/- Lists of things of several cells each, in slices. No program in sight. -/
import Derived.Test.YthdiphfbjlooaaaDoorWords
namespace Go.Sep
open Go Go.RowKit
section
variable {α : Type} {f : α → List Value} {n : Nat}
def fcells (f : α → List Value) (l : List α) : List Value := l.flatMap f
theorem fcells_length (hf : ∀ a, (f a).length = n) (l : List α) : (fcells f l).length = l.length * n := by
  induction l with
  | nil => simp [fcells]
  | cons p l ih => simp only [fcells, List.flatMap_cons, List.length_append, List.length_cons] at ih ⊢; rw [ih, hf, Nat.add_mul]; omega
theorem fcells_append (l m : List α) : fcells f (l ++ m) = fcells f l ++ fcells f m := by simp [fcells]
theorem fcells_one (a : α) : fcells f [a] = f a := by simp [fcells]
theorem fcells_nil : fcells f [] = [] := rfl
theorem fcells_at (hf : ∀ a, (f a).length = n) : ∀ {l : List α} {j : Nat} {a : α} {c : Nat} {u : Value}, l[j]? = some a → (f a)[c]? = some u → (fcells f l)[j * n + c]? = some u
  | [], _, _, _, _, h, _ => by simp at h
  | q :: l, 0, p, c, u, h, hu => by
    simp at h; subst h
    have hc := (List.getElem?_eq_some_iff.1 hu).1
    simp only [fcells, List.flatMap_cons, Nat.zero_mul, Nat.zero_add]
    rw [List.getElem?_append_left hc]; exact hu
  | q :: l, j + 1, p, c, u, h, hu => by
    have := fcells_at hf (l := l) (j := j) (a := p) (c := c) (u := u) (by simpa using h) hu
    simp only [fcells, List.flatMap_cons] at this ⊢
    rw [List.getElem?_append_right (by rw [hf, Nat.add_mul]; omega), hf, show (j + 1) * n + c - n = j * n + c by rw [Nat.add_mul]; omega]
    exact this
theorem fcells_take (hf : ∀ a, (f a).length = n) : ∀ (l : List α) (j : Nat), (fcells f l).take (j * n) = fcells f (l.take j)
  | [], j => by simp [fcells]
  | a :: l, 0 => by simp [fcells]
  | a :: l, j + 1 => by
    have := fcells_take hf l j
    simp only [fcells, List.flatMap_cons, List.take_succ_cons] at this ⊢
    rw [List.take_append, hf, List.take_of_length_le (by rw [hf, Nat.add_mul]; omega), show (j + 1) * n - n = j * n by rw [Nat.add_mul]; omega, this]
theorem fcells_drop (hf : ∀ a, (f a).length = n) : ∀ (l : List α) (j : Nat), (fcells f l).drop (j * n) = fcells f (l.drop j)
  | [], j => by simp [fcells]
  | a :: l, 0 => by simp [fcells]
  | a :: l, j + 1 => by
    have := fcells_drop hf l j
    simp only [fcells, List.flatMap_cons, List.drop_succ_cons] at this ⊢
    rw [List.drop_append, hf, List.drop_of_length_le (by rw [hf, Nat.add_mul]; omega), show (j + 1) * n - n = j * n by rw [Nat.add_mul]; omega, this, List.nil_append]
/-- Cell 'c' of element 'i' of a slice that may be read. -/
theorem RdK.fc {w0 w : World} {L : List HProp} {a : Option Addr} {cap m : Nat} {l : List α} (h : RdK w0 L (.slice a m cap) m (fcells f l)) (hf : ∀ a, (f a).length = n) (hs : S w0 w L) {i : Nat} {p : α} (hp : l[i]? = Option.some p) (hn : 0 < n) :
    ∃ b o, a = Option.some ⟨b, o, none⟩ ∧ ∀ w', S w0 w' L → ∀ c u, (f p)[c]? = some u → w'.cell? ⟨b, o + i * n + c, none⟩ = some u := by
  have hi := (List.getElem?_eq_some_iff.1 hp).1
  have hpos : 0 < (fcells f l).length := by rw [fcells_length hf]; exact Nat.mul_pos (by omega) hn
  obtain ⟨b, o, cap', hv, _, _, hrd⟩ := h.pos hs hpos
  simp only [Value.slice.injEq] at hv
  obtain ⟨rfl, -, rfl⟩ := hv
  refine ⟨b, o, rfl, fun w' hs' c u hu => ?_⟩
  rw [Nat.add_assoc]; exact hrd w' hs' _ _ (fcells_at hf hp hu)
/-- .. of a slice that is owned. -/
theorem S.sl_f {w0 w : World} {L : List HProp} {e : TypeId} {size : Nat} {a : Option Addr} {m cap : Nat} {l : List α} (h : S w0 w (sl e size (.slice a m cap) m (fcells f l) :: L)) (hf : ∀ a, (f a).length = n) {i : Nat} {p : α} (hp : l[i]? = Option.some p) (hn : 0 < n) :
    ∃ b o, a = Option.some ⟨b, o, none⟩ ∧ b < w.heap.size ∧ ∀ c u, (f p)[c]? = some u → w.cell? ⟨b, o + i * n + c, none⟩ = some u := by
  have hi := (List.getElem?_eq_some_iff.1 hp).1
  have hpos : 0 < (fcells f l).length := by rw [fcells_length hf]; exact Nat.mul_pos (by omega) hn
  obtain ⟨b, o, cap', hv, _, _, _, hlt, hrd, _⟩ := h.sl_some hpos
  simp only [Value.slice.injEq] at hv
  obtain ⟨rfl, -, rfl⟩ := hv
  refine ⟨b, o, rfl, hlt, fun c u hu => ?_⟩
  rw [Nat.add_assoc]; exact hrd _ _ (fcells_at hf hp hu)
end
end Go.Sep
