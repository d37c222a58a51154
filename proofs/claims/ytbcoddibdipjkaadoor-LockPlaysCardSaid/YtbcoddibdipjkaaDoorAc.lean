/- Assertions in whatever order; the library's sort at an owned slice of integers. -/
import Derived.Test.YtbcoddibdipjkaaDoorSortB
import Derived.Test.YtbcoddibdipjkaaDoorLockQ
import Derived.Test.YtbcoddibdipjkaaDoorSlices2
import Derived.Test.YtbcoddibdipjkaaDoorShelf
import Derived.WalkKit
namespace Go.Sep
instance : Std.Associative sep := ⟨sep_assoc⟩
instance : Std.Commutative sep := ⟨sep_comm⟩
/-- 's[1:]', at whatever capacity. -/
theorem S.sl_tail1 {w w0 : World} {L : List HProp} {e : TypeId} {g o n cap : Nat} {x : Value} {xs : List Value} (h : S w0 w (sl e 1 (.slice (some ⟨g, o, none⟩) (n + 1) cap) (n + 1) (x :: xs) :: L)) :
    S w0 w (sl e 1 (.slice (if cap = 1 then some ⟨g, o, none⟩ else some ⟨g, o + 1, none⟩) n (cap - 1)) n xs :: L) := by
  by_cases hc : cap = 1
  · subst hc
    rcases h.sl_elim with ⟨hv, _⟩ | ⟨g', cap', pre, sp, post, hp, hb⟩
    · simp at hv
    have hv := hp.val
    simp at hv
    obtain ⟨⟨rfl, rfl⟩, rfl⟩ := hv
    have h1 := hp.le
    obtain rfl : n = 0 := by omega
    have h2 := hp.len
    simp only [List.length_cons] at h2
    obtain rfl : xs = [] := List.eq_nil_of_length_eq_zero (by omega)
    exact .sl_intro (g := g) (cap := 0) (pre := pre) (sp := []) (post := x :: (sp ++ post)) ⟨rfl, rfl, rfl, Nat.le_refl _, by simp⟩ (by simpa using hb)
  · rw [if_neg hc]
    have := h.sl_drop 1 (by omega)
    simpa using this
end Go.Sep
namespace Go.Proofs.YtbcoddibdipjkaaDoor
open Go Go.RowKit Go.Sep
theorem sort_ints (w0 w : World) (v : Value) (l : List Int) (L : List HProp) (hs : S w0 w (sl 3 1 v l.length (icells l) :: L)) (hb : l.length ≤ 4000000) :
    Calls Tryd.prog 54 #[v] w fun e w' => e = .returned (.tuple #[]) ∧ S w0 w' (sl 3 1 v l.length (icells (sortI l)) :: L) := by
  rcases Nat.eq_zero_or_pos l.length with h0 | hp
  · obtain rfl := List.eq_nil_of_length_eq_zero h0
    obtain ⟨a, cap, rfl, _⟩ := hs.sl_val
    exact (Tryd.slices_Sort_int_none a cap w).mono fun e w' ⟨h1, h2⟩ => ⟨h1, by rw [h2]; simpa [sortI] using hs⟩
  · obtain ⟨g, o, cap, rfl, _⟩ := hs.sl_some (by rw [icells_length]; exact hp)
    obtain ⟨h1, h2, h3⟩ := hs.sl_sort
    refine (Tryd.slices_Sort_int g o cap l w h1 h2 (by omega)).mono fun e w' ⟨he, n, os, hw⟩ => ⟨he, ?_⟩
    rw [hw]
    exact h3 (sortI l) n os (sortI_len l)
theorem sort_ints2 (w0 w : World) (v : Value) (l : List Int) (L : List HProp) (hs : S w0 w (sl 3 1 v l.length (icells l) :: L)) (hb : l.length ≤ 4000000) :
    Calls Tryd.prog 66 #[v] w fun e w' => e = .returned (.tuple #[]) ∧ S w0 w' (sl 3 1 v l.length (icells (sortI l)) :: L) := by
  rcases Nat.eq_zero_or_pos l.length with h0 | hp
  · obtain rfl := List.eq_nil_of_length_eq_zero h0
    obtain ⟨a, cap, rfl, _⟩ := hs.sl_val
    exact (Tryd.sort_Ints_none a cap w).mono fun e w' ⟨h1, h2⟩ => ⟨h1, by rw [h2]; simpa [sortI] using hs⟩
  · obtain ⟨g, o, cap, rfl, _⟩ := hs.sl_some (by rw [icells_length]; exact hp)
    obtain ⟨h1, h2, h3⟩ := hs.sl_sort
    refine (Tryd.sort_Ints g o cap l w h1 h2 (by omega)).mono fun e w' ⟨he, n, os, hw⟩ => ⟨he, ?_⟩
    rw [hw]
    exact h3 (sortI l) n os (sortI_len l)
end Go.Proofs.YtbcoddibdipjkaaDoor
