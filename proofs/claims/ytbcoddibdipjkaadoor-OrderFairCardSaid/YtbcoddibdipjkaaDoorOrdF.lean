/- Lines of transactions, in plain words: the two facts that the law begins with; the list that it makes of whatever list. -/
import Derived.Test.YtbcoddibdipjkaaDoorOrdLaw2
namespace Go.Proofs.YtbcoddibdipjkaaDoor
open Go Go.Sep

def lin1 : List Op1 := [⟨2, 1, false, 0⟩, ⟨2, 2, true, 0⟩, ⟨1, 1, true, 0⟩]
def lin2 : List Op1 := [⟨1, 1, false, 0⟩, ⟨1, 2, true, 0⟩, ⟨2, 2, false, 0⟩, ⟨2, 1, true, 0⟩]
theorem lin1_writers (k : Int) : (mget [((1 : Int), [(1 : Int)]), (2, [2])] k).getD [] = writers lin1 k := by
  unfold writers lin1 wstep
  by_cases h1 : k = 1
  · subst h1; rfl
  · by_cases h2 : k = 2
    · subst h2; rfl
    · have h1' : ¬ 1 = k := fun e => h1 e.symm
      have h2' : ¬ 2 = k := fun e => h2 e.symm
      simp [mget_cons, mget_nil, h1', h2']
theorem lin2_writers (k : Int) : (mget [((1 : Int), [(2 : Int)]), (2, [1])] k).getD [] = writers lin2 k := by
  unfold writers lin2 wstep
  by_cases h1 : k = 1
  · subst h1; rfl
  · by_cases h2 : k = 2
    · subst h2; rfl
    · have h1' : ¬ 1 = k := fun e => h1 e.symm
      have h2' : ¬ 2 = k := fun e => h2 e.symm
      simp [mget_cons, mget_nil, h1', h2']
theorem lin1_rEdges : rEdges lin1 lin1 = [((2 : Int), (1 : Int))] := by decide
theorem lin2_rEdges : rEdges lin2 lin2 = [((1 : Int), (2 : Int)), (2, 1)] := by decide
theorem lin1_edges : EdgesOf lin1 [((2 : Int), (1 : Int))] := by
  refine ⟨by simp, fun p => Edge.found lin1_writers (by decide) (fun p => ?_) p⟩
  rw [lin1_rEdges]
  simp [wEdges]
theorem lin2_edges : EdgesOf lin2 [((1 : Int), (2 : Int)), (2, 1)] := by
  refine ⟨by simp [ltP], fun p => Edge.found lin2_writers (by decide) (fun p => ?_) p⟩
  rw [lin2_rEdges]
  simp [wEdges]
theorem lin1_line : lineL [((2 : Int), (1 : Int))] (txsOf lin1).length (txsOf lin1) = some [2, 1] := by decide
theorem lin2_line : lineL [((1 : Int), (2 : Int)), (2, 1)] (txsOf lin2).length (txsOf lin2) = none := by decide
theorem lin1_lost : lin1.findIdx? (lostRead lin1) = none := by decide
theorem lin2_lost : lin2.findIdx? (lostRead lin2) = none := by decide
end Go.Proofs.YtbcoddibdipjkaaDoor
