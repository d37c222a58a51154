/- What comes in as arguments: slices of pairs, and slices of those. -/
import Derived.Test.YthdiphfbjlooaaaDoorStoreW2
namespace Go.Proofs.YthdiphfbjlooaaaDoor
open Go Go.RowKit Go.Sep

theorem Tryd.info31 : (Tryd.prog.info? 31).map (fun i => (i.zero, i.size, i.bytes)) = some (some (.agg #[.int .i64 0, .int .i64 0]), 2, 16) := by kernel_rfl
def ArgPairs (w0 : World) (vi : Value) (l : Vers) : Prop := ∃ ai ci, vi = .slice ai l.length ci ∧ l.length ≤ ci ∧ ci ≤ maxLen ∧ ∀ (j : Nat) (p : Int × Int), l[j]? = some p → ∃ bb oo, ai = some ⟨bb, oo, none⟩ ∧ bb < w0.heap.size ∧ w0.cell? ⟨bb, oo + j * 2, none⟩ = some (.int .i64 p.1) ∧ w0.cell? ⟨bb, oo + j * 2 + 1, none⟩ = some (.int .i64 p.2)
def ArgRows (w0 : World) (v : Value) (ls : List Vers) : Prop :=
  ∃ a cap, v = .slice a ls.length cap ∧ ls.length ≤ cap ∧ cap ≤ maxLen ∧ ∀ (i : Nat) (l : Vers), ls[i]? = some l → ∃ b o vi, a = some ⟨b, o, none⟩ ∧ b < w0.heap.size ∧ w0.cell? ⟨b, o + i, none⟩ = some vi ∧ ArgPairs w0 vi l
end Go.Proofs.YthdiphfbjlooaaaDoor
