/- The reference's edges and line, in plain words. -/
import Derived.Test.YthdiphfbjlooaaaDoorOrdLaw3
import Derived.Test.YthdiphfbjlooaaaDoorMapsP
namespace Go.Proofs.YthdiphfbjlooaaaDoor
open Go Go.Sep

/-- One writer and the next one, below a place. -/
def ConsP (w : List Int) (n : Nat) (p : Int × Int) : Prop := ∃ i : Nat, i < n ∧ w[i]? = some p.1 ∧ w[i + 1]? = some p.2
def ReadP (w : List Int) (o : Op1) (p : Int × Int) : Prop := (o.fr ≠ 0 ∧ p = (o.fr, o.tx)) ∨ (p.1 = o.tx ∧ nextOf w o.fr = some p.2)
/-- What one of the list adds to the reference's set. -/
def RefE (l : List Op1) (o : Op1) (p : Int × Int) : Prop := ConsP (writers l o.key) (writers l o.key).length p ∨ (o.wr = false ∧ ReadP (writers l o.key) o p)
theorem badOp_tx {o : Op1} (h : badOp o = false) : 1 ≤ o.tx ∧ 0 ≤ o.fr ∧ 0 ≤ o.key ∧ o.key < 10 := by
  simp only [badOp, decide_eq_false_iff_not] at h; omega
theorem writers_pos {l : List Op1} (hb : ∀ o ∈ l, badOp o = false) {k y : Int} (h : y ∈ writers l k) : 1 ≤ y := by
  obtain ⟨o, ho, _, _, rfl⟩ := writers_mem h
  exact (badOp_tx (hb o ho)).1
theorem refE_edge {l : List Op1} (hb : ∀ o ∈ l, badOp o = false) (p : Int × Int) : ((∃ o ∈ l, RefE l o p) ∧ p.1 ≠ p.2) ↔ Edge l p := by
  constructor
  · rintro ⟨⟨o, ho, h⟩, hne⟩
    refine ⟨hne, ?_⟩
    rcases h with ⟨i, _, h1, h2⟩ | ⟨hw, ⟨h0, rfl⟩ | ⟨h1, h2⟩⟩
    · exact ⟨by have := writers_pos hb (List.mem_of_getElem? h1); omega, .inl ⟨_, i, h1, h2⟩⟩
    · exact ⟨h0, .inr ⟨o, ho, hw, .inl ⟨rfl, rfl⟩⟩⟩
    · exact ⟨by have := (badOp_tx (hb o ho)).1; omega, .inr ⟨o, ho, hw, .inr ⟨h1, h2⟩⟩⟩
  · rintro ⟨hne, h0, h⟩
    refine ⟨?_, hne⟩
    rcases h with ⟨k, i, h1, h2⟩ | ⟨o, ho, hw, h⟩
    · obtain ⟨o, ho, _, rfl, _⟩ := writers_mem (List.mem_of_getElem? h1)
      exact ⟨o, ho, .inl ⟨i, (List.getElem?_eq_some_iff.1 h1).1, h1, h2⟩⟩
    · refine ⟨o, ho, .inr ⟨hw, ?_⟩⟩
      rcases h with ⟨h1, h2⟩ | h
      · exact .inl ⟨h1 ▸ h0, Prod.ext h1 h2⟩
      · exact .inr h
/-- The keys of a set. -/
def HasK (D : List ((Int × Int) × Value)) (A : Int × Int → Prop) : Prop := ∀ p, p ∈ D.map (·.1) ↔ A p
theorem HasK.start : HasK [] fun _ => False := fun p => by simp
theorem HasK.put {D : List ((Int × Int) × Value)} {A B : Int × Int → Prop} {k : Int × Int} {v : Value} (h : HasK D A) (hB : ∀ p, B p ↔ A p ∨ p = k) : HasK (mput D k v) B := by
  intro p
  rw [keys_put, hB, ← h p]
  split
  · rename_i hs
    have hk : k ∈ D.map (·.1) := by
      apply Classical.byContradiction
      intro hk
      rw [mget_none.2 hk] at hs; simp at hs
    exact ⟨.inl, fun e => e.elim id fun e => e ▸ hk⟩
  · simp
theorem HasK.congr {D : List ((Int × Int) × Value)} {A B : Int × Int → Prop} (h : HasK D A) (hB : ∀ p, B p ↔ A p) : HasK D B := fun p => (h p).trans (hB p).symm
theorem consP_succ {w : List Int} {n : Nat} {a b : Int} (ha : w[n]? = some a) (hb : w[n + 1]? = some b) (p : Int × Int) : ConsP w (n + 1) p ↔ ConsP w n p ∨ p = (a, b) := by
  constructor
  · rintro ⟨i, hi, h1, h2⟩
    rcases Nat.lt_or_ge i n with h | h
    · exact .inl ⟨i, h, h1, h2⟩
    · obtain rfl : i = n := by omega
      rw [ha] at h1; rw [hb] at h2
      exact .inr (Prod.ext (Option.some.inj h1).symm (Option.some.inj h2).symm)
  · rintro (⟨i, hi, h1, h2⟩ | rfl)
    · exact ⟨i, by omega, h1, h2⟩
    · exact ⟨n, by omega, ha, hb⟩
theorem consP_all {w : List Int} {n : Nat} (h : w.length ≤ n + 1) (p : Int × Int) : ConsP w n p ↔ ConsP w w.length p := by
  constructor
  · rintro ⟨i, _, h1, h2⟩; exact ⟨i, (List.getElem?_eq_some_iff.1 h1).1, h1, h2⟩
  · rintro ⟨i, _, h1, h2⟩; exact ⟨i, by have := (List.getElem?_eq_some_iff.1 h2).1; omega, h1, h2⟩
theorem ltP_total {a b : Int × Int} (hne : a ≠ b) (h : ¬ ltP b a) : ltP a b := by
  obtain ⟨a1, a2⟩ := a
  obtain ⟨b1, b2⟩ := b
  unfold ltP at *
  simp only [ne_eq, Prod.mk.injEq] at hne h ⊢
  omega
theorem edgesOf_ref {l : List Op1} {out srt : List (Int × Int)} (ho : ∀ p, p ∈ out ↔ Edge l p) (hn : out.Nodup) (hp : srt.Perm out) (hs : srt.Pairwise fun a b => ¬ ltP b a) : EdgesOf l srt := by
  refine ⟨?_, fun p => hp.mem_iff.trans (ho p)⟩
  have hn' : srt.Nodup := hp.nodup_iff.2 hn
  exact (hs.and hn').imp fun h => ltP_total h.2 h.1

/-- A set of whole numbers. -/
def tabT (ts : List Int) : List (Int × Value) := ts.map fun x => (x, .bool true)
theorem tabT_keys (ts : List Int) : (tabT ts).map (·.1) = ts := by simp [tabT, Function.comp_def]
theorem tabT_length (ts : List Int) : (tabT ts).length = ts.length := by simp [tabT]
theorem tabT_get (ts : List Int) (k : Int) : mget (tabT ts) k = if k ∈ ts then some (.bool true) else none := by
  induction ts with
  | nil => simp [tabT, mget_nil]
  | cons x ts ih =>
    simp only [tabT, List.map_cons, mget_cons] at ih ⊢
    rw [ih]
    by_cases h : x = k
    · simp [h]
    · have h' : ¬ k = x := fun e => h e.symm
      simp [h, h']
theorem tabT_put (ts : List Int) (k : Int) : mput (tabT ts) k (.bool true) = tabT (if k ∈ ts then ts else ts ++ [k]) := by
  unfold mput
  rw [tabT_get]
  by_cases hk : k ∈ ts
  · rw [if_pos hk, if_pos hk]
    simp only [Option.isSome_some, ↓reduceIte, tabT, List.map_map]
    apply List.map_congr_left
    intro x _
    by_cases h : x = k <;> simp [h]
  · rw [if_neg hk, if_neg hk]
    simp [tabT]
theorem tabT_del (ts : List Int) (k : Int) : mdel (tabT ts) k = tabT (ts.filter fun x => decide (x ≠ k)) := by
  unfold mdel tabT
  rw [List.filter_map]
  rfl
theorem tabT_txs (l : List Op1) (i : Nat) (o : Op1) (hp : l[i]? = some o) : mput (tabT (txsOf (l.take i))) o.tx (.bool true) = tabT (txsOf (l.take (i + 1))) := by
  have e : l.take (i + 1) = l.take i ++ [o] := by rw [List.take_add_one, hp]; rfl
  rw [e, txsOf_snoc, tabT_put]; rfl
theorem free_snoc (es : List (Int × Int)) (e : Int × Int) (rem : List Int) (x : Int) : free (es ++ [e]) rem x = (free es rem x && !(decide (e.2 = x) && decide (e.1 ∈ rem))) := by
  unfold free; rw [List.all_append]; simp

/-- The least of those that were met, counted from one. -/
def RBest (f : Int → Bool) (b : Int) (dn : List Int) : Prop := (b = 0 ∧ ∀ x ∈ dn, f x = false) ∨ (1 ≤ b ∧ b ∈ dn ∧ f b = true ∧ ∀ x ∈ dn, f x = true → b ≤ x)
theorem RBest.start {f : Int → Bool} : RBest f 0 [] := .inl ⟨rfl, by simp⟩
theorem RBest.snoc {f : Int → Bool} {b : Int} {dn : List Int} (h : RBest f b dn) (x : Int) (hx : 1 ≤ x) : RBest f (if f x = true ∧ (b = 0 ∨ x < b) then x else b) (dn ++ [x]) := by
  by_cases h0 : f x = true
  · rcases h with ⟨rfl, h1⟩ | ⟨h1, h2, h3, h4⟩
    · rw [if_pos ⟨h0, .inl rfl⟩]
      refine .inr ⟨hx, by simp, h0, fun y hy hy0 => ?_⟩
      rcases List.mem_append.1 hy with hy | hy
      · rw [h1 y hy] at hy0; cases hy0
      · rw [List.mem_singleton] at hy; subst hy; exact Int.le_refl _
    · by_cases hlt : x < b
      · rw [if_pos ⟨h0, .inr hlt⟩]
        refine .inr ⟨hx, by simp, h0, fun y hy hy0 => ?_⟩
        rcases List.mem_append.1 hy with hy | hy
        · have := h4 y hy hy0; omega
        · rw [List.mem_singleton] at hy; subst hy; exact Int.le_refl _
      · rw [if_neg (by omega)]
        refine .inr ⟨h1, by simp [h2], h3, fun y hy hy0 => ?_⟩
        rcases List.mem_append.1 hy with hy | hy
        · exact h4 y hy hy0
        · rw [List.mem_singleton] at hy; subst hy; omega
  · rw [if_neg (fun h => h0 h.1)]
    rcases h with ⟨rfl, h1⟩ | ⟨h1, h2, h3, h4⟩
    · refine .inl ⟨rfl, fun y hy => ?_⟩
      rcases List.mem_append.1 hy with hy | hy
      · exact h1 y hy
      · rw [List.mem_singleton] at hy; subst hy; simpa using h0
    · refine .inr ⟨h1, by simp [h2], h3, fun y hy hy0 => ?_⟩
      rcases List.mem_append.1 hy with hy | hy
      · exact h4 y hy hy0
      · rw [List.mem_singleton] at hy; subst hy; exact absurd hy0 h0
theorem RBest.all {f : Int → Bool} {rem dn : List Int} {b : Int} (h : RBest f b dn) (hp : dn.Perm rem) :
    (b = 0 ∧ rem.filter f = []) ∨ (1 ≤ b ∧ b ∈ rem ∧ f b = true ∧ ∀ x ∈ rem, f x = true → b ≤ x) := by
  rcases h with ⟨h1, h2⟩ | ⟨h1, h2, h3, h4⟩
  · refine .inl ⟨h1, List.filter_eq_nil_iff.2 fun x hx hf => ?_⟩
    rw [h2 x (hp.mem_iff.2 hx)] at hf; cases hf
  · exact .inr ⟨h1, hp.mem_iff.1 h2, h3, fun y hy hf => h4 _ (hp.mem_iff.2 hy) hf⟩
end Go.Proofs.YthdiphfbjlooaaaDoor
