/- Owned slices: cut short, cut ahead, and wiped. No program in sight. -/
import Derived.Test.YthdiphfbjlooaaaDoorSlices
import Derived.Lib.SliceRun
namespace Go.Sep
open Go Go.RowKit
variable {w w0 : World} {L : List HProp} {e : TypeId} {size n : Nat} {v : Value} {xs : List Value}

/-- 's[:i]'. -/
theorem S.sl_take {a : Option Addr} {cap : Nat} (h : S w0 w (sl e size (.slice a n cap) n xs :: L)) (i : Nat) (hi : i ≤ n) : S w0 w (sl e size (.slice a i cap) i (xs.take (i * size)) :: L) := by
  rcases h.sl_elim with ⟨hv, rfl, rfl, k⟩ | ⟨g, cap', pre, sp, post, hp, k⟩
  · obtain rfl : i = 0 := by omega
    simp at hv
    obtain ⟨rfl, rfl⟩ := hv
    simpa using k.sl_nil (e := e) (size := size)
  · have hv := hp.val
    simp at hv
    obtain ⟨rfl, rfl⟩ := hv
    have hl := hp.len
    have hle : i * size ≤ n * size := Nat.mul_le_mul_right _ hi
    refine .sl_intro (g := g) (cap := cap) (pre := pre) (sp := xs.drop (i * size) ++ sp) (post := post) ⟨rfl, by rw [List.length_take]; omega, ?_, Nat.le_trans hi hp.le, hp.max⟩ ?_
    · have := hp.room
      simp only [List.length_take, List.length_append, List.length_drop]
      omega
    · simpa [← List.append_assoc] using k
/-- 's[i:]', the rest of the array let be. -/
theorem S.sl_drop {g o cap : Nat} (h : S w0 w (sl e size (.slice (some ⟨g, o, none⟩) n cap) n xs :: L)) (i : Nat) (hi : i ≤ n) : S w0 w (sl e size (.slice (some ⟨g, o + i * size, none⟩) (n - i) (cap - i)) (n - i) (xs.drop (i * size)) :: L) := by
  rcases h.sl_elim with ⟨hv, rfl, rfl, k⟩ | ⟨g', cap', pre, sp, post, hp, k⟩
  · simp at hv
  · have hv := hp.val
    simp at hv
    obtain ⟨⟨rfl, rfl⟩, rfl⟩ := hv
    have hl := hp.len
    have hle : i * size ≤ n * size := Nat.mul_le_mul_right _ hi
    have hle2 : i * size ≤ cap * size := Nat.mul_le_mul_right _ (Nat.le_trans hi hp.le)
    have hr := hp.room
    refine .sl_intro (g := g) (cap := cap - i) (pre := pre ++ xs.take (i * size)) (sp := sp) (post := post) ⟨?_, ?_, ?_, by have := hp.le; omega, by have := hp.max; omega⟩ ?_
    · rw [List.length_append, List.length_take, Nat.min_eq_left (by omega)]
    · rw [List.length_drop, Nat.sub_mul]; omega
    · rw [List.length_drop, Nat.sub_mul]; omega
    · have e1 : pre ++ xs.take (i * size) ++ (xs.drop (i * size) ++ (sp ++ post)) = pre ++ (xs ++ (sp ++ post)) := by
        rw [List.append_assoc, ← List.append_assoc (xs.take _), List.take_append_drop]
      rw [e1]; exact k
theorem S.sl_setCells : ∀ (us : List Value) {w : World} {xs : List Value} {g o cap : Nat} (j : Nat), S w0 w (sl e size (.slice (some ⟨g, o, none⟩) n cap) n xs :: L) → j + us.length ≤ xs.length →
    S w0 (w.setCells g (o + j) us) (sl e size (.slice (some ⟨g, o, none⟩) n cap) n (xs.take j ++ us ++ xs.drop (j + us.length)) :: L)
  | [], w, xs, g, o, cap, j, h, hj => by simpa [World.setCells] using h
  | u :: us, w, xs, g, o, cap, j, h, hj => by
    simp only [List.length_cons] at hj
    have h1 := h.sl_set rfl j (by omega) u
    have h2 := S.sl_setCells us (j + 1) h1 (by simp; omega)
    rw [World.setCells]
    have e1 : (xs.set j u).take (j + 1) = xs.take j ++ [u] := by
      rw [List.take_set, List.set_eq_take_append_cons_drop]
      simp only [List.length_take, List.take_take, List.drop_take]
      rw [if_pos (by omega)]
      simp
    have e2 : (xs.set j u).drop (j + 1 + us.length) = xs.drop (j + (us.length + 1)) := by
      rw [List.drop_set, if_pos (by omega), show j + 1 + us.length = j + (us.length + 1) by omega]
    rw [e1, e2] at h2
    simpa [Nat.add_assoc] using h2
end Go.Sep
