/- The reference's store: what its memory is. -/
import Derived.Test.YtbcoddibdipjkaaDoorCells
import Derived.Test.YtbcoddibdipjkaaDoorPlaysLaw
namespace Go.Sep
open Go Go.RowKit Go.Proofs.YtbcoddibdipjkaaDoor
variable {w w0 : World} {L : List HProp}

def kcells (x : Kep) : List Value := [.int .i64 x.1, .int .i64 x.2.1, .int .i64 x.2.2]
theorem kcells_length (x : Kep) : (kcells x).length = 3 := rfl
def refK (T TK b : Nat) (v : Value) (K : List Kep) (last : Int) : HProp := sep (blk b T [v, .int .i64 last]) (sl TK 3 v K.length (fcells kcells K))
def refP (T TK b : Nat) (K : List Kep) (last : Int) : HProp := ex fun v => refK T TK b v K last
theorem S.ref_elim {T TK b : Nat} {K : List Kep} {last : Int} (h : S w0 w (refP T TK b K last :: L)) : ∃ v, S w0 w (blk b T [v, .int .i64 last] :: sl TK 3 v K.length (fcells kcells K) :: L) := by
  obtain ⟨v, h⟩ := h.ex_elim
  exact ⟨v, h.sep_elim⟩
theorem S.ref_intro {T TK b : Nat} {v : Value} {K : List Kep} {last : Int} (h : S w0 w (blk b T [v, .int .i64 last] :: sl TK 3 v K.length (fcells kcells K) :: L)) : S w0 w (refP T TK b K last :: L) :=
  .ex_intro v (.sep_intro h)
theorem kcells_snoc (K : List Kep) (x : Kep) : fcells kcells (K ++ [x]) = fcells kcells K ++ kcells x := by rw [fcells_append, fcells_one]
theorem fk_len (K : List Kep) : (fcells kcells K).length = K.length * 3 := fcells_length kcells_length K
theorem fk_one (K : List Kep) : ∀ u ∈ fcells kcells K, u.oneCell' = true := by
  intro u hu
  unfold fcells at hu
  rw [List.mem_flatMap] at hu
  obtain ⟨x, _, hx⟩ := hu
  unfold kcells at hx
  simp only [List.mem_cons, List.not_mem_nil, or_false] at hx
  rcases hx with rfl | rfl | rfl <;> rfl
/-- One element of the reference's store. -/
theorem S.ref_at {TK : Nat} {a : Option Addr} {m cap : Nat} {K : List Kep} (h : S w0 w (sl TK 3 (.slice a m cap) m (fcells kcells K) :: L)) {i : Nat} {x : Kep} (hx : K[i]? = some x) :
    ∃ g o, a = some ⟨g, o, none⟩ ∧ g < w.heap.size ∧ w.cell? ⟨g, o + i * 3, none⟩ = some (.int .i64 x.1) ∧ w.cell? ⟨g, o + i * 3 + 1, none⟩ = some (.int .i64 x.2.1) ∧ w.cell? ⟨g, o + i * 3 + 2, none⟩ = some (.int .i64 x.2.2) := by
  obtain ⟨g, o, ha, hlt, hc⟩ := h.sl_f kcells_length hx (by omega)
  exact ⟨g, o, ha, hlt, by have := hc 0 _ rfl; rwa [Nat.add_zero] at this, hc 1 _ rfl, hc 2 _ rfl⟩
end Go.Sep
