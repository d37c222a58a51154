/- Assertions in whatever order; the library's sort at an owned slice of integers. -/
import Derived.Test.YthdiphfbjlooaaaDoorSortB
import Derived.Test.YthdiphfbjlooaaaDoorLockQ
import Derived.Test.YthdiphfbjlooaaaDoorAcI
import Derived.Test.YthdiphfbjlooaaaDoorShelf
import Derived.WalkKit
namespace Go.Proofs.YthdiphfbjlooaaaDoor
open Go Go.RowKit Go.Sep
theorem sort_ints (w0 w : World) (v : Value) (l : List Int) (L : List HProp) (hs : S w0 w (sl 3 1 v l.length (icells l) :: L)) (hb : l.length ≤ 4000000) :
    Calls Tryd.prog 54 #[v] w fun e w' => e = .returned (.tuple #[]) ∧ S w0 w' (sl 3 1 v l.length (icells (sortI l)) :: L) := by
  rcases Nat.eq_zero_or_pos l.length with h0 | hp
  · obtain rfl := List.eq_nil_of_length_eq_zero h0
    obtain ⟨a, cap, rfl, _⟩ := hs.sl_val
    exact (Tryd.slices_Sort_int_none a cap w).mono fun e w' ⟨h1, h2⟩ => ⟨h1, by rw [h2]; simpa [sortI] using hs⟩
  · obtain ⟨g, o, cap, rfl, _⟩ := hs.sl_some (by rw [icells_length]; exact hp)
    obtain ⟨h1, h2, h3⟩ := hs.sl_sort
    refine (Tryd.slices_Sort_int g o cap l w h1 h2 (by omega)).mono fun e w' ⟨he, n, os, hw⟩ => ⟨he, ?_⟩
    rw [hw]
    exact h3 (sortI l) n os (sortI_len l)
end Go.Proofs.YthdiphfbjlooaaaDoor
