/- A slice of structs among the arguments, of which a fact is known: the store's moves. -/
import Derived.Test.YtbcoddibdipjkaaDoorArgF
namespace Go.Proofs.YtbcoddibdipjkaaDoor
open Go Go.RowKit Go.Sep Go.ChangeShapes Go.WideShapes Go.ChangeAt Go.Deep

theorem argFG_of {α H : Type} {G : α → Prop} (d : α) (hd : G d) {enc : TypeId × Value → H} {P : Program} {w : World} {t e : TypeId} {n : Nat} {fuel : Nat} {cs : List Value} {x : DataW H × List MemPlace} (f : α → List Value) (ht : P.underlying t = some (.slice e)) (ce : P.cellsOf e = n) (hn : 0 < n)
    (hel : ∀ (cs' : List Value) (k : Nat) (y : DataW H × List MemPlace), DataW.trod enc P w 0 (fun _ => true) true k e cs' = some y → ∃ p : α, f p = cs' ∧ G p)
    (h : DataW.trod enc P w 0 (fun _ => true) true fuel t cs = some x) : ∃ v l, cs = [v] ∧ ArgF f n w v l ∧ ∀ p ∈ l, G p := by
  haveI : Inhabited {p : α // G p} := ⟨⟨d, hd⟩⟩
  obtain ⟨v, l, hv, a, cap, h1, h2, h3, h4⟩ := argF_of (α := {p : α // G p}) (fun p => f p.1) ht ce hn (fun cs' k y hy => by obtain ⟨p, hp, hg⟩ := hel cs' k y hy; exact ⟨⟨p, hg⟩, hp⟩) h
  refine ⟨v, l.map Subtype.val, hv, ⟨a, cap, by rw [List.length_map]; exact h1, by rw [List.length_map]; exact h2, h3, fun i p hp => ?_⟩, fun p hp => ?_⟩
  · rw [List.getElem?_map, Option.map_eq_some_iff] at hp
    obtain ⟨q, hq, rfl⟩ := hp
    exact h4 i q hq
  · obtain ⟨q, _, rfl⟩ := List.mem_map.1 hp
    exact q.2
/-- A move of a store: what, when, which key, and the slice of writes. -/
abbrev Put1 := Int × Int × Int × Value
def cells4 (p : Put1) : List Value := [.int .i64 p.1, .int .i64 p.2.1, .int .i64 p.2.2.1, p.2.2.2]
def PutOk (w0 : World) (p : Put1) : Prop := ∃ l : Vers, ArgPairs w0 p.2.2.2 l
theorem ArgPairs.rdk {w0 : World} {v : Value} {l : Vers} (h : ArgPairs w0 v l) (L : List HProp) : RdK w0 L v l.length (pcells l) := by
  obtain ⟨ai, ci, rfl, h1, h2, h3⟩ := h
  have hp : ∀ j u, (pcells l)[j]? = some u → ∃ b o, ai = some ⟨b, o, none⟩ ∧ b < w0.heap.size ∧ w0.cell? ⟨b, o + j, none⟩ = some u := by
    intro j u hj
    have hlt := (List.getElem?_eq_some_iff.1 hj).1
    rw [pcells_length] at hlt
    have hq : l[j / 2]? = some (l[j / 2]'(by omega)) := by simp
    obtain ⟨b, o, ha, hb, c1, c2⟩ := h3 _ _ hq
    obtain ⟨p1, p2⟩ := pcells_at l _ _ hq
    refine ⟨b, o, ha, hb, ?_⟩
    rcases Nat.mod_two_eq_zero_or_one j with hm | hm
    · have e : j / 2 * 2 = j := by omega
      rw [e] at p1 c1
      rw [p1] at hj
      rw [c1, hj]
    · have e : j / 2 * 2 + 1 = j := by omega
      rw [Nat.add_assoc, e] at c2
      rw [e] at p2
      rw [p2] at hj
      rw [c2, hj]
  refine RdK.old ⟨ai, ci, rfl, h1, h2, fun j u hj => ?_⟩ (fun b o cap hv hne => ?_)
  · obtain ⟨b, o, ha, _, hc⟩ := hp j u hj
    exact ⟨b, o, ha, hc⟩
  · obtain ⟨u, M, hM⟩ := List.exists_cons_of_ne_nil hne
    obtain ⟨b2, o2, ha, hb, _⟩ := hp 0 u (by rw [hM]; rfl)
    simp only [Value.slice.injEq] at hv
    rw [hv.1] at ha
    simp only [Option.some.injEq, Addr.mk.injEq] at ha
    rw [ha.1]; exact hb
end Go.Proofs.YtbcoddibdipjkaaDoor
