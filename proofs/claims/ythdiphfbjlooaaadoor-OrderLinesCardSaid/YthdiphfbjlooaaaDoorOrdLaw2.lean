/- The edges as they are found, sorted and struck of doubles: what must be ahead of what. -/
import Derived.Test.YthdiphfbjlooaaaDoorOrdLaw
import Derived.Test.YthdiphfbjlooaaaDoorMaps
namespace Go.Proofs.YthdiphfbjlooaaaDoor
open Go Go.Sep

/-- What 'add' adds. -/
def addE (a b : Int) : List (Int × Int) := if a ≠ b ∧ a ≠ 0 then [(a, b)] else []
theorem addE_mem {a b : Int} {p : Int × Int} : p ∈ addE a b ↔ p = (a, b) ∧ a ≠ b ∧ a ≠ 0 := by
  unfold addE
  split
  · rename_i h
    simp only [List.mem_singleton]
    exact ⟨fun e => ⟨e, h⟩, fun e => e.1⟩
  · rename_i h
    simp only [List.not_mem_nil, false_iff]
    exact fun e => h e.2
theorem addE_le (a b : Int) : (addE a b).length ≤ 1 := by unfold addE; split <;> simp
/-- The edges between one writer and the next one, up to a place. -/
def wEdges (w : List Int) : Nat → List (Int × Int)
  | 0 => []
  | n + 1 => wEdges w n ++ (match w[n]?, w[n + 1]? with | some a, some b => addE a b | _, _ => [])
theorem wEdges_mem (w : List Int) (p : Int × Int) : ∀ n : Nat, p ∈ wEdges w n ↔ ∃ i : Nat, i < n ∧ w[i]? = some p.1 ∧ w[i + 1]? = some p.2 ∧ p.1 ≠ p.2 ∧ p.1 ≠ 0
  | 0 => by simp [wEdges]
  | n + 1 => by
    simp only [wEdges, List.mem_append, wEdges_mem w p n]
    constructor
    · rintro (⟨i, h1, h2⟩ | h)
      · exact ⟨i, by omega, h2⟩
      · split at h
        · rename_i a b ha hb
          rw [addE_mem] at h
          obtain ⟨rfl, h⟩ := h
          exact ⟨n, by omega, ha, hb, h⟩
        · simp at h
    · rintro ⟨i, h1, h2, h3, h4⟩
      rcases Nat.lt_or_ge i n with h | h
      · exact .inl ⟨i, h, h2, h3, h4⟩
      · obtain rfl : i = n := by omega
        refine .inr ?_
        rw [h2, h3]
        exact addE_mem.2 ⟨rfl, h4⟩
theorem wEdges_le (w : List Int) : ∀ n : Nat, (wEdges w n).length ≤ n
  | 0 => by simp [wEdges]
  | n + 1 => by
    have := wEdges_le w n
    simp only [wEdges, List.length_append]
    split
    · have := addE_le; rename_i a b _ _; have := this a b; omega
    · simp; omega
/-- The edges of one read. -/
def rEdge (w : List Int) (o : Op1) : List (Int × Int) := if o.wr then [] else addE o.fr o.tx ++ (match nextOf w o.fr with | some b => addE o.tx b | none => [])
theorem rEdge_le (w : List Int) (o : Op1) : (rEdge w o).length ≤ 2 := by
  unfold rEdge
  split
  · simp
  · have := addE_le o.fr o.tx
    split
    · rename_i b _; have := addE_le o.tx b; simp; omega
    · simp; omega
def rEdges (l : List Op1) (m : List Op1) : List (Int × Int) := m.flatMap fun o => rEdge (writers l o.key) o
theorem rEdges_snoc (l m : List Op1) (o : Op1) : rEdges l (m ++ [o]) = rEdges l m ++ rEdge (writers l o.key) o := by simp [rEdges]
theorem rEdges_le (l : List Op1) : ∀ m : List Op1, (rEdges l m).length ≤ 2 * m.length
  | [] => by simp [rEdges]
  | o :: m => by
    have := rEdges_le l m
    have h2 := rEdge_le (writers l o.key) o
    simp only [rEdges, List.flatMap_cons, List.length_append, List.length_cons] at *
    omega
theorem rEdges_mem (l m : List Op1) (p : Int × Int) : p ∈ rEdges l m ↔ ∃ o ∈ m, o.wr = false ∧ p.1 ≠ p.2 ∧ p.1 ≠ 0 ∧ ((p.1 = o.fr ∧ p.2 = o.tx) ∨ (p.1 = o.tx ∧ nextOf (writers l o.key) o.fr = some p.2)) := by
  unfold rEdges
  rw [List.mem_flatMap]
  refine exists_congr fun o => and_congr_right fun _ => ?_
  unfold rEdge
  cases o.wr with
  | true => simp
  | false =>
    simp only [Bool.false_eq_true, ↓reduceIte, List.mem_append, addE_mem, true_and]
    constructor
    · rintro (⟨rfl, h1, h2⟩ | h)
      · exact ⟨h1, h2, .inl ⟨rfl, rfl⟩⟩
      · split at h
        · rename_i b hb
          rw [addE_mem] at h
          obtain ⟨rfl, h1, h2⟩ := h
          exact ⟨h1, h2, .inr ⟨rfl, hb⟩⟩
        · simp at h
    · rintro ⟨h1, h2, ⟨h3, h4⟩ | ⟨h3, h4⟩⟩
      · exact .inl ⟨Prod.ext h3 h4, by rwa [← h3, ← h4], by rwa [← h3]⟩
      · right
        rw [h4]
        exact addE_mem.2 ⟨Prod.ext h3 rfl, by rwa [← h3], by rwa [← h3]⟩

/-- What was found, in whatever order the keys came. -/
theorem Edge.found {l : List Op1} {out : List (Int × Int)} {D : List (Int × List Int)} (hD : ∀ k, (mget D k).getD [] = writers l k) (hn : (D.map (·.1)).Nodup)
    (ho : ∀ p, p ∈ out ↔ (∃ d ∈ D, p ∈ wEdges d.2 (d.2.length - 1)) ∨ p ∈ rEdges l l) (p : Int × Int) : p ∈ out ↔ Edge l p := by
  rw [ho, rEdges_mem]
  unfold Edge
  constructor
  · rintro (⟨d, hd, h⟩ | ⟨o, h1, h2, h3, h4, h5⟩)
    · rw [wEdges_mem] at h
      obtain ⟨i, h1, h2, h3, h4, h5⟩ := h
      refine ⟨h4, h5, .inl ⟨d.1, i, ?_⟩⟩
      have := hD d.1
      rw [mget_mem hn hd] at this
      simp only [Option.getD_some] at this
      rw [← this]
      exact ⟨h2, h3⟩
    · exact ⟨h3, h4, .inr ⟨o, h1, h2, h5⟩⟩
  · rintro ⟨h4, h5, ⟨k, i, h2, h3⟩ | ⟨o, h1, h2, h6⟩⟩
    · left
      have hk := hD k
      cases hm : mget D k with
      | none => rw [hm] at hk; simp only [Option.getD_none] at hk; rw [← hk] at h2; simp at h2
      | some w =>
        rw [hm] at hk
        simp only [Option.getD_some] at hk
        refine ⟨(k, w), mget_some hm, ?_⟩
        rw [wEdges_mem]
        rw [← hk] at h2 h3
        have := (List.getElem?_eq_some_iff.1 h3).1
        exact ⟨i, by simp only; omega, h2, h3, h4, h5⟩
    · exact .inr ⟨o, h1, h2, h4, h5, h6⟩

/-! Sorted, and struck of doubles. -/
def leP (a b : Int × Int) : Prop := a.1 < b.1 ∨ (a.1 = b.1 ∧ a.2 ≤ b.2)
def compactFrom (x : Int × Int) : List (Int × Int) → List (Int × Int)
  | [] => []
  | y :: l => if y = x then compactFrom y l else y :: compactFrom y l
def compactP : List (Int × Int) → List (Int × Int)
  | [] => []
  | x :: l => x :: compactFrom x l
theorem compactFrom_mem : ∀ (l : List (Int × Int)) (x p : Int × Int), p ∈ x :: compactFrom x l ↔ p ∈ x :: l
  | [], x, p => by simp [compactFrom]
  | y :: l, x, p => by
    have ih := compactFrom_mem l y p
    simp only [compactFrom]
    split
    · rename_i e
      subst e
      simp only [List.mem_cons] at ih ⊢
      rw [ih]; simp
    · simp only [List.mem_cons] at ih ⊢
      rw [ih]
theorem compactFrom_sorted : ∀ (l : List (Int × Int)) (x : Int × Int), (x :: l).Pairwise leP → (x :: compactFrom x l).Pairwise ltP
  | [], x, _ => by simp [compactFrom]
  | y :: l, x, h => by
    have h' := List.pairwise_cons.1 h
    have ih := compactFrom_sorted l y h'.2
    simp only [compactFrom]
    split
    · rename_i e; subst e; exact ih
    · rename_i hne
      refine List.pairwise_cons.2 ⟨fun z hz => ?_, ih⟩
      have hxy : ltP x y := by
        have := h'.1 y (by simp)
        unfold leP at this
        unfold ltP
        rcases this with h1 | ⟨h1, h2⟩
        · exact .inl h1
        · refine .inr ⟨h1, ?_⟩
          rcases Int.lt_or_eq_of_le h2 with h3 | h3
          · exact h3
          · exact absurd (Prod.ext h1 h3).symm hne
      rcases List.mem_cons.1 hz with rfl | hz
      · exact hxy
      · exact hxy.trans ((List.pairwise_cons.1 ih).1 z hz)
theorem compactP_mem (l : List (Int × Int)) (p : Int × Int) : p ∈ compactP l ↔ p ∈ l := by
  cases l with
  | nil => simp [compactP]
  | cons x l => exact compactFrom_mem l x p
theorem compactP_sorted {l : List (Int × Int)} (h : l.Pairwise leP) : (compactP l).Pairwise ltP := by
  cases l with
  | nil => simp [compactP]
  | cons x l => exact compactFrom_sorted l x h
theorem compactFrom_snoc : ∀ (l : List (Int × Int)) (x p : Int × Int), compactFrom x (l ++ [p]) = if (x :: l).getLast? = some p then compactFrom x l else compactFrom x l ++ [p]
  | [], x, p => by
    simp only [List.nil_append, compactFrom, List.getLast?_singleton, Option.some.injEq]
    by_cases h : p = x
    · simp [h]
    · have : ¬ x = p := fun e => h e.symm
      simp [h, this]
  | y :: l, x, p => by
    have ih := compactFrom_snoc l y p
    simp only [List.cons_append, compactFrom, List.getLast?_cons_cons]
    rw [ih]
    split
    · rfl
    · split <;> simp
theorem compactP_snoc {l : List (Int × Int)} {p : Int × Int} (hl : l ≠ []) : compactP (l ++ [p]) = if l.getLast? = some p then compactP l else compactP l ++ [p] := by
  cases l with
  | nil => exact absurd rfl hl
  | cons x l =>
    simp only [List.cons_append, compactP]
    rw [compactFrom_snoc]
    split <;> simp
theorem compactP_take {l : List (Int × Int)} {j : Nat} {p q : Int × Int} (hq : l[j]? = some q) (hp : l[j + 1]? = some p) : compactP (l.take (j + 2)) = if p = q then compactP (l.take (j + 1)) else compactP (l.take (j + 1)) ++ [p] := by
  have h1 : l.take (j + 2) = l.take (j + 1) ++ [p] := by rw [List.take_add_one, hp]; rfl
  have h2 : l.take (j + 1) = l.take j ++ [q] := by rw [List.take_add_one, hq]; rfl
  rw [h1, compactP_snoc (by rw [h2]; simp)]
  have h3 : (l.take (j + 1)).getLast? = some q := by rw [h2]; simp
  rw [h3]
  by_cases h : p = q
  · simp [h]
  · have : ¬ q = p := fun e => h e.symm
    simp [h, this]
theorem compactP_le (l : List (Int × Int)) : (compactP l).length ≤ l.length := by
  have : ∀ (l : List (Int × Int)) (x : Int × Int), (compactFrom x l).length ≤ l.length := by
    intro l
    induction l with
    | nil => intro x; simp [compactFrom]
    | cons y l ih => intro x; have := ih y; simp only [compactFrom]; split <;> simp <;> omega
  cases l with
  | nil => simp [compactP]
  | cons x l => have := this l x; simp [compactP]; exact this
theorem edgesOf_compact {l : List Op1} {out srt : List (Int × Int)} (ho : ∀ p, p ∈ out ↔ Edge l p) (hp : srt.Perm out) (hs : srt.Pairwise leP) : EdgesOf l (compactP srt) :=
  ⟨compactP_sorted hs, fun p => by rw [compactP_mem, hp.mem_iff, ho]⟩
end Go.Proofs.YthdiphfbjlooaaaDoor
