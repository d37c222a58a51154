/- Assertions in whatever order. No program in sight. -/
import Derived.Test.YthdiphfbjlooaaaDoorSlices2
import Derived.WalkKit
namespace Go.Sep
open Go Go.RowKit
instance : Std.Associative sep := ⟨sep_assoc⟩
instance : Std.Commutative sep := ⟨sep_comm⟩
/-- 's[1:]', at whatever capacity. -/
theorem S.sl_tail1 {w w0 : World} {L : List HProp} {e : TypeId} {g o n cap : Nat} {x : Value} {xs : List Value} (h : S w0 w (sl e 1 (.slice (some ⟨g, o, none⟩) (n + 1) cap) (n + 1) (x :: xs) :: L)) :
    S w0 w (sl e 1 (.slice (if cap = 1 then some ⟨g, o, none⟩ else some ⟨g, o + 1, none⟩) n (cap - 1)) n xs :: L) := by
  by_cases hc : cap = 1
  · subst hc
    rcases h.sl_elim with ⟨hv, _⟩ | ⟨g', cap', pre, sp, post, hp, hb⟩
    · simp at hv
    have hv := hp.val
    simp at hv
    obtain ⟨⟨rfl, rfl⟩, rfl⟩ := hv
    have h1 := hp.le
    obtain rfl : n = 0 := by omega
    have h2 := hp.len
    simp only [List.length_cons] at h2
    obtain rfl : xs = [] := List.eq_nil_of_length_eq_zero (by omega)
    exact .sl_intro (g := g) (cap := 0) (pre := pre) (sp := []) (post := x :: (sp ++ post)) ⟨rfl, rfl, rfl, Nat.le_refl _, by simp⟩ (by simpa using hb)
  · rw [if_neg hc]
    have := h.sl_drop 1 (by omega)
    simpa using this
end Go.Sep
