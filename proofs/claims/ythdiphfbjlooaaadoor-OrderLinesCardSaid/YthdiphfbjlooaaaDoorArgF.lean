/- A slice of structs among the arguments. -/
import Derived.Test.YthdiphfbjlooaaaDoorArgs
import Derived.Deep.SlicePairs
import Derived.Deep.Strs
import Derived.Lib.SmallJoins
namespace Go.Proofs.YthdiphfbjlooaaaDoor
open Go Go.RowKit Go.Sep Go.ChangeShapes Go.WideShapes Go.ChangeAt Go.Deep

/-- A slice of structs that came in: of each element its cells. -/
def ArgF {α : Type} (f : α → List Value) (n : Nat) (w0 : World) (v : Value) (l : List α) : Prop :=
  ∃ a cap, v = .slice a l.length cap ∧ l.length ≤ cap ∧ cap ≤ maxLen ∧ ∀ (i : Nat) (p : α), l[i]? = some p → ∃ b o, a = some ⟨b, o, none⟩ ∧ b < w0.heap.size ∧ ∀ c u, (f p)[c]? = some u → w0.cell? ⟨b, o + i * n + c, none⟩ = some u
def cells3 (p : Int × Int × Int) : List Value := [.int .i64 p.1, .int .i64 p.2.1, .int .i64 p.2.2]
theorem addr_add' (b o n : Nat) : (⟨b, o, none⟩ : Addr).add n = ⟨b, o + n, none⟩ := by
  unfold Addr.add; split <;> simp_all

theorem argF_of {α H : Type} [Inhabited α] {enc : TypeId × Value → H} {P : Program} {w : World} {t e : TypeId} {n : Nat} {fuel : Nat} {cs : List Value} {x : DataW H × List MemPlace} (f : α → List Value) (ht : P.underlying t = some (.slice e)) (ce : P.cellsOf e = n) (hn : 0 < n)
    (hel : ∀ (cs' : List Value) (k : Nat) (y : DataW H × List MemPlace), DataW.trod enc P w 0 (fun _ => true) true k e cs' = some y → ∃ p : α, f p = cs')
    (h : DataW.trod enc P w 0 (fun _ => true) true fuel t cs = some x) : ∃ v l, cs = [v] ∧ ArgF f n w v l := by
  rcases open_slice ht h with ⟨rfl, rfl⟩ | ⟨a, len, cap, m, k, D, Pl, rfl, _, h1, h2, h3, _, h5⟩
  · exact ⟨_, [], rfl, none, 0, rfl, Nat.le_refl _, by simp, by simp⟩
  · have hm : m = cap := by simpa using h3
    subst hm
    have hp : ∀ i, i < len → ∃ p : α, w.cells? 0 (a.add (i * n)) n = some (f p) := by
      intro i hi
      obtain ⟨cs', g1, g2⟩ := h5 i (by omega)
      rw [ce] at g1
      obtain ⟨p, rfl⟩ := hel _ _ _ g2
      exact ⟨p, g1⟩
    obtain ⟨p, hp⟩ := choose_lt hp
    refine ⟨_, (List.range len).map p, rfl, some a, m, by simp, by simpa using h1, h2, fun i q hq => ?_⟩
    rw [List.getElem?_map, Option.map_eq_some_iff] at hq
    obtain ⟨j', hj', rfl⟩ := hq
    obtain ⟨hjl, rfl⟩ := List.getElem?_eq_some_iff.1 hj'
    simp only [List.length_range] at hjl
    simp only [List.getElem_range]
    have g0 := hp i hjl
    obtain ⟨_, hlen, hcell⟩ := World.cells?_some g0
    obtain ⟨b, o, sp⟩ := a
    have hs : sp = none := by
      obtain ⟨_, hlen0, hcell0⟩ := World.cells?_some (hp 0 (by omega))
      have q0 := (hcell0 0 hn).trans (List.getElem?_eq_getElem (by omega))
      cases sp with
      | none => rfl
      | some sp => simp [Addr.add, World.cell?] at q0; split at q0 <;> simp at q0
    subst hs
    refine ⟨b, o, rfl, ?_, fun c u hu => ?_⟩
    · have q0 := hcell 0 hn
      rw [addr_add', addr_add'] at q0
      exact World.block_lt_of_cell? w _ (q0.trans (List.getElem?_eq_getElem (by omega)))
    · have hcl := (List.getElem?_eq_some_iff.1 hu).1
      have q0 := hcell c (by omega)
      rw [addr_add', addr_add'] at q0
      rw [q0, hu]
end Go.Proofs.YthdiphfbjlooaaaDoor
