/- What order's functions and the reference's tell, in one form. -/
import Derived.Test.YthdiphfbjlooaaaDoorOrdU
import Derived.Test.YthdiphfbjlooaaaDoorArgF
import Derived.Test.YthdiphfbjlooaaaDoorSame
namespace Go.Proofs.YthdiphfbjlooaaaDoor
open Go Go.RowKit Go.Sep

/-- The edges that are told, or the fault and where. -/
def EOut (l : List Op1) (la : List (Int × Int)) (f p : Int) : Prop :=
  (0 ≤ badIx l ∧ la = [] ∧ f = 2 ∧ p = badIx l) ∨ (¬ 0 ≤ badIx l ∧ ∃ k : Nat, l.findIdx? (lostRead l) = some k ∧ la = [] ∧ f = 1 ∧ p = k) ∨
  (¬ 0 ≤ badIx l ∧ l.findIdx? (lostRead l) = none ∧ EdgesOf l la ∧ f = 0 ∧ p = -1)
theorem EOut.one {l : List Op1} {la lb : List (Int × Int)} {f p g q : Int} (h : EOut l la f p) (h2 : EOut l lb g q) : la = lb ∧ f = g ∧ p = q := by
  rcases h with ⟨h1, rfl, rfl, rfl⟩ | ⟨h1, k, h3, rfl, rfl, rfl⟩ | ⟨h1, h3, h4, rfl, rfl⟩
  · rcases h2 with ⟨_, rfl, rfl, rfl⟩ | ⟨g1, _⟩ | ⟨g1, _⟩
    · exact ⟨rfl, rfl, rfl⟩
    · exact absurd h1 g1
    · exact absurd h1 g1
  · rcases h2 with ⟨g1, _⟩ | ⟨_, k', g3, rfl, rfl, rfl⟩ | ⟨_, g3, _⟩
    · exact absurd g1 h1
    · rw [h3] at g3; cases g3; exact ⟨rfl, rfl, rfl⟩
    · rw [h3] at g3; cases g3
  · rcases h2 with ⟨g1, _⟩ | ⟨_, k', g3, _⟩ | ⟨_, _, g4, rfl, rfl⟩
    · exact absurd g1 h1
    · rw [h3] at g3; cases g3
    · exact ⟨h4.unique g4, rfl, rfl⟩
def LOut (l : List Op1) (la : List Int) (f p : Int) : Prop :=
  (0 ≤ badIx l ∧ la = [] ∧ f = 2 ∧ p = badIx l) ∨ (¬ 0 ≤ badIx l ∧ ∃ k : Nat, l.findIdx? (lostRead l) = some k ∧ la = [] ∧ f = 1 ∧ p = k) ∨
  (¬ 0 ≤ badIx l ∧ l.findIdx? (lostRead l) = none ∧ ∃ es, EdgesOf l es ∧ ((lineL es (txsOf l).length (txsOf l) = some la ∧ f = 0 ∧ p = -1) ∨ (lineL es (txsOf l).length (txsOf l) = none ∧ la = [] ∧ f = 11 ∧ p = -1)))
theorem LOut.one {l : List Op1} {la lb : List Int} {f p g q : Int} (h : LOut l la f p) (h2 : LOut l lb g q) : la = lb ∧ f = g ∧ p = q := by
  rcases h with ⟨h1, rfl, rfl, rfl⟩ | ⟨h1, k, h3, rfl, rfl, rfl⟩ | ⟨h1, h3, es, h4, h5⟩
  · rcases h2 with ⟨_, rfl, rfl, rfl⟩ | ⟨g1, _⟩ | ⟨g1, _⟩
    · exact ⟨rfl, rfl, rfl⟩
    · exact absurd h1 g1
    · exact absurd h1 g1
  · rcases h2 with ⟨g1, _⟩ | ⟨_, k', g3, rfl, rfl, rfl⟩ | ⟨_, g3, _⟩
    · exact absurd g1 h1
    · rw [h3] at g3; cases g3; exact ⟨rfl, rfl, rfl⟩
    · rw [h3] at g3; cases g3
  · rcases h2 with ⟨g1, _⟩ | ⟨_, k', g3, _⟩ | ⟨_, _, es', g4, g5⟩
    · exact absurd g1 h1
    · rw [h3] at g3; cases g3
    · obtain rfl := h4.unique g4
      rcases h5 with ⟨h5, rfl, rfl⟩ | ⟨h5, rfl, rfl, rfl⟩ <;> rcases g5 with ⟨g5, rfl, rfl⟩ | ⟨g5, rfl, rfl, rfl⟩ <;> rw [h5] at g5 <;> cases g5
      · exact ⟨rfl, rfl, rfl⟩
      · exact ⟨rfl, rfl, rfl⟩
variable {w0 w : World} {v : Value} {l : List Op1} {L : List HProp}
theorem redges_out (hs : S w0 w L) (hr : RdK w0 L v l.length (fcells ocells l)) (hb : l.length ≤ 900) :
    Calls Tryd.prog 45 #[v] w fun e w' => ∃ u la f p, e = .returned (.tuple #[u, .agg #[.int .i64 f, .int .i64 p]]) ∧ EOut l la f p ∧ S w0 w' (sl 31 2 u la.length (pcells la) :: L) := by
  refine (redges_any w0 w v l L hs hr hb).mono fun e w' h => ?_
  unfold REdgesPost at h
  split at h
  · rename_i hx
    exact ⟨_, [], 2, badIx l, h.1, .inl ⟨hx, rfl, rfl, rfl⟩, h.2.sl_nil⟩
  · rename_i hx
    split at h
    · rename_i k hk
      exact ⟨_, [], 1, k, h.1, .inr (.inl ⟨hx, k, hk, rfl, rfl, rfl⟩), h.2.sl_nil⟩
    · rename_i hk
      obtain ⟨u, es, rfl, hE, h⟩ := h
      exact ⟨u, es, 0, -1, rfl, .inr (.inr ⟨hx, hk, hE, rfl, rfl⟩), h⟩
theorem rline_out (hs : S w0 w L) (hr : RdK w0 L v l.length (fcells ocells l)) (hb : l.length ≤ 900) :
    Calls Tryd.prog 46 #[v] w fun e w' => ∃ u la f p, e = .returned (.tuple #[u, .agg #[.int .i64 f, .int .i64 p]]) ∧ LOut l la f p ∧ S w0 w' (sl 3 1 u la.length (icells la) :: L) := by
  refine (rline_any w0 w v l L hs hr hb).mono fun e w' h => ?_
  unfold RLinePost at h
  split at h
  · rename_i hx
    exact ⟨_, [], 2, badIx l, h.1, .inl ⟨hx, rfl, rfl, rfl⟩, h.2.sl_nil⟩
  · rename_i hx
    split at h
    · rename_i k hk
      exact ⟨_, [], 1, k, h.1, .inr (.inl ⟨hx, k, hk, rfl, rfl, rfl⟩), h.2.sl_nil⟩
    · rename_i hk
      obtain ⟨es, hE, h⟩ := h
      split at h
      · rename_i out ho
        obtain ⟨u, rfl, _, h⟩ := h
        exact ⟨u, out, 0, -1, rfl, .inr (.inr ⟨hx, hk, es, hE, .inl ⟨ho, rfl, rfl⟩⟩), h⟩
      · rename_i ho
        exact ⟨_, [], 11, -1, h.1, .inr (.inr ⟨hx, hk, es, hE, .inr ⟨ho, rfl, rfl, rfl⟩⟩), h.2.sl_nil⟩
theorem edges_out (hs : S w0 w L) (hr : RdK w0 L v l.length (fcells ocells l)) (hb : l.length ≤ 900) (hbd : ∀ o ∈ l, o.tx ≤ 9223372036854775807 ∧ o.fr ≤ 9223372036854775807) :
    Calls Tryd.prog 25 #[v] w fun e w' => ∃ u la ev x, e = .returned (.tuple #[u, ev]) ∧ EOut l la (Err.errno x) (Err.place x) ∧ S w0 w' (sl 31 2 u la.length (pcells la) :: errP 44 106 105 ev x :: L) := by
  refine (edges_any w0 w v l L hs hr hb hbd).mono fun e w' h => ?_
  unfold EdgesPost at h
  split at h
  · rename_i hx
    obtain ⟨ev, rfl, h⟩ := h
    exact ⟨_, [], ev, _, rfl, .inl ⟨hx, rfl, rfl, rfl⟩, h.sl_nil⟩
  · rename_i hx
    split at h
    · rename_i k hk
      obtain ⟨ev, rfl, h⟩ := h
      exact ⟨_, [], ev, _, rfl, .inr (.inl ⟨hx, k, hk, rfl, rfl, rfl⟩), h.sl_nil⟩
    · rename_i hk
      obtain ⟨u, es, rfl, hE, _, h⟩ := h
      exact ⟨u, es, .nilIface, .nil, rfl, .inr (.inr ⟨hx, hk, hE, rfl, rfl⟩), S.swap (S.pur_intro rfl h)⟩
theorem line_out (hs : S w0 w L) (hr : RdK w0 L v l.length (fcells ocells l)) (hb : l.length ≤ 900) (hbd : ∀ o ∈ l, o.tx ≤ 9223372036854775807 ∧ o.fr ≤ 9223372036854775807) :
    Calls Tryd.prog 26 #[v] w fun e w' => ∃ u la ev x, e = .returned (.tuple #[u, ev]) ∧ la.length ≤ 900 ∧ LOut l la (Err.errno x) (Err.place x) ∧ S w0 w' (sl 3 1 u la.length (icells la) :: errP 44 106 105 ev x :: L) := by
  refine (line_any w0 w v l L hs hr hb hbd).mono fun e w' h => ?_
  unfold LinePost at h
  split at h
  · rename_i hx
    obtain ⟨ev, rfl, h⟩ := h
    exact ⟨_, [], ev, _, rfl, by simp, .inl ⟨hx, rfl, rfl, rfl⟩, h.sl_nil⟩
  · rename_i hx
    split at h
    · rename_i k hk
      obtain ⟨ev, rfl, h⟩ := h
      exact ⟨_, [], ev, _, rfl, by simp, .inr (.inl ⟨hx, k, hk, rfl, rfl, rfl⟩), h.sl_nil⟩
    · rename_i hk
      obtain ⟨es, hE, h⟩ := h
      split at h
      · rename_i out ho
        obtain ⟨u, rfl, ho9, h⟩ := h
        exact ⟨u, out, .nilIface, .nil, rfl, ho9, .inr (.inr ⟨hx, hk, es, hE, .inl ⟨ho, rfl, rfl⟩⟩), S.swap (S.pur_intro rfl h)⟩
      · rename_i ho
        obtain ⟨rfl, h⟩ := h
        exact ⟨_, [], _, .no 11, rfl, by simp, .inr (.inr ⟨hx, hk, es, hE, .inr ⟨ho, rfl, rfl, rfl⟩⟩), S.sl_nil (S.pur_intro rfl h)⟩
/-- A slice that came in is read as it was. -/
theorem argF_rd {α : Type} {f : α → List Value} {n : Nat} {w0 : World} {v : Value} {l : List α} (hf : ∀ a, (f a).length = n) (hn : 0 < n) (h : ArgF f n w0 v l) : RdK w0 [] v l.length (fcells f l) := by
  obtain ⟨a, cap, rfl, h1, h2, h3⟩ := h
  intro w hs
  refine ⟨a, cap, rfl, h1, h2, fun j u hj => ?_⟩
  have hjl := (List.getElem?_eq_some_iff.1 hj).1
  rw [fcells_length hf] at hjl
  have hi : j / n < l.length := Nat.div_lt_of_lt_mul (by rw [Nat.mul_comm]; exact hjl)
  have hp : l[j / n]? = some l[j / n] := by simp [hi]
  have hm : j / n * n + j % n = j := by rw [Nat.mul_comm]; exact Nat.div_add_mod j n
  have hc : (f l[j / n])[j % n]? = some u := by
    have hml : j % n < (f l[j / n]).length := by rw [hf]; exact Nat.mod_lt _ hn
    have h4 := fcells_at hf hp (c := j % n) (List.getElem?_eq_getElem hml)
    rw [hm, hj] at h4
    rw [List.getElem?_eq_getElem hml]; exact h4.symm
  obtain ⟨b, o, rfl, hb, hcell⟩ := h3 _ _ hp
  have := hcell _ _ hc
  rw [Nat.add_assoc, hm] at this
  exact ⟨b, o, rfl, (hs.1.cell (p := ⟨b, o + j, none⟩) hb).trans this⟩
end Go.Proofs.YthdiphfbjlooaaaDoor
