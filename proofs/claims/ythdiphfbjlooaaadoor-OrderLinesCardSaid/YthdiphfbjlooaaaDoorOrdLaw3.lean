/- How a line comes of counts: in plain words. -/
import Derived.Test.YthdiphfbjlooaaaDoorOrdLaw2
namespace Go.Proofs.YthdiphfbjlooaaaDoor
open Go Go.Sep

/-- A map by its keys and a function. -/
def tabF (ts : List Int) (f : Int → Int) : List (Int × Int) := ts.map fun x => (x, f x)
theorem tabF_keys (ts : List Int) (f : Int → Int) : (tabF ts f).map (·.1) = ts := by simp [tabF, Function.comp_def]
theorem tabF_get (ts : List Int) (f : Int → Int) (k : Int) : mget (tabF ts f) k = if k ∈ ts then some (f k) else none := by
  induction ts with
  | nil => simp [tabF, mget_nil]
  | cons x ts ih =>
    simp only [tabF, List.map_cons, mget_cons] at ih ⊢
    rw [ih]
    by_cases h : x = k
    · simp [h]
    · have h' : ¬ k = x := fun e => h e.symm
      simp [h, h']
theorem tabF_put {ts : List Int} {k : Int} (f : Int → Int) (hk : k ∈ ts) (v : Int) : mput (tabF ts f) k v = tabF ts fun x => if x = k then v else f x := by
  unfold mput
  rw [tabF_get, if_pos hk]
  simp only [Option.isSome_some, ↓reduceIte]
  simp only [tabF, List.map_map]
  apply List.map_congr_left
  intro x _
  by_cases h : x = k <;> simp [h]
theorem tabF_put_new {ts : List Int} {k : Int} (f : Int → Int) (hk : k ∉ ts) : mput (tabF ts f) k (f k) = tabF (ts ++ [k]) f := by
  unfold mput
  rw [tabF_get, if_neg hk]
  simp [tabF]
theorem tabF_del (ts : List Int) (f : Int → Int) (k : Int) : mdel (tabF ts f) k = tabF (ts.filter fun x => decide (x ≠ k)) f := by
  unfold mdel tabF
  rw [List.filter_map]
  rfl
theorem tabF_congr {ts : List Int} {f g : Int → Int} (h : ∀ x ∈ ts, f x = g x) : tabF ts f = tabF ts g := by
  apply List.map_congr_left
  intro x hx; rw [h x hx]
theorem tab_zero (l : List Op1) (i : Nat) (o : Op1) (hp : l[i]? = some o) : mput (tabF (txsOf (l.take i)) fun _ => 0) o.tx 0 = tabF (txsOf (l.take (i + 1))) fun _ => 0 := by
  have e : l.take (i + 1) = l.take i ++ [o] := by rw [List.take_add_one, hp]; rfl
  rw [e, txsOf_snoc]
  unfold tstep
  by_cases h : o.tx ∈ txsOf (l.take i)
  · rw [if_pos h, tabF_put _ h]
    apply tabF_congr
    intro x _; split <;> rfl
  · rw [if_neg h]
    exact tabF_put_new (fun _ => 0) h

/-- How many edges of a list lead to one. -/
def into (es : List (Int × Int)) (x : Int) : Int := ((es.filter fun e => decide (e.2 = x)).length : Nat)
theorem into_snoc (es : List (Int × Int)) (e : Int × Int) (x : Int) : into (es ++ [e]) x = if x = e.2 then into es x + 1 else into es x := by
  unfold into
  rw [List.filter_append, List.length_append]
  by_cases h : x = e.2
  · subst h; simp
  · have h' : ¬ e.2 = x := fun e' => h e'.symm
    simp [h, h']
/-- .. of those that are left. -/
def indeg (es : List (Int × Int)) (rem : List Int) (x : Int) : Int := ((es.filter fun e => decide (e.2 = x) && decide (e.1 ∈ rem)).length : Nat)
theorem indeg_all {es : List (Int × Int)} {rem : List Int} (h : ∀ e ∈ es, e.1 ∈ rem) (x : Int) : indeg es rem x = into es x := by
  unfold indeg into
  congr 2
  apply List.filter_congr
  intro e he
  simp [h e he]
theorem indeg_zero (es : List (Int × Int)) (rem : List Int) (x : Int) : indeg es rem x = 0 ↔ free es rem x = true := by
  unfold indeg free
  rw [List.all_eq_true]
  constructor
  · intro h e he
    have h1 : (es.filter fun e => decide (e.2 = x) && decide (e.1 ∈ rem)) = [] := List.eq_nil_of_length_eq_zero (by omega)
    have h2 := List.filter_eq_nil_iff.1 h1 e he
    rw [Bool.not_eq_true']
    exact Bool.eq_false_iff.2 h2
  · intro h
    have : (es.filter fun e => decide (e.2 = x) && decide (e.1 ∈ rem)) = [] := List.filter_eq_nil_iff.2 fun e he => by
      have h3 := h e he
      rw [Bool.not_eq_true'] at h3
      rw [h3]; simp
    rw [this]; rfl
theorem indeg_nonneg (es : List (Int × Int)) (rem : List Int) (x : Int) : 0 ≤ indeg es rem x ∧ indeg es rem x ≤ es.length := by
  unfold indeg
  have := List.length_filter_le (fun e : Int × Int => decide (e.2 = x) && decide (e.1 ∈ rem)) es
  omega
/-- Those that one that goes was ahead of. -/
def outOf (es : List (Int × Int)) (b x : Int) : Int := ((es.filter fun e => decide (e.1 = b) && decide (e.2 = x)).length : Nat)
theorem outOf_snoc (es : List (Int × Int)) (e : Int × Int) (b x : Int) : outOf (es ++ [e]) b x = if e.1 = b ∧ x = e.2 then outOf es b x + 1 else outOf es b x := by
  unfold outOf
  rw [List.filter_append, List.length_append]
  by_cases h : x = e.2
  · subst h
    by_cases h2 : e.1 = b <;> simp [h2]
  · have h' : ¬ e.2 = x := fun e' => h e'.symm
    simp [h, h']
theorem outOf_le (es : List (Int × Int)) (b x : Int) : 0 ≤ outOf es b x ∧ outOf es b x ≤ es.length := by
  unfold outOf
  have := List.length_filter_le (fun e : Int × Int => decide (e.1 = b) && decide (e.2 = x)) es
  omega
theorem indeg_step {rem : List Int} {b : Int} (hb : b ∈ rem) (x : Int) : ∀ es : List (Int × Int), indeg es rem x - outOf es b x = indeg es (rem.filter fun y => decide (y ≠ b)) x
  | [] => by simp [indeg, outOf]
  | e :: es => by
    have ih := indeg_step hb x es
    unfold indeg outOf at ih ⊢
    simp only [List.filter_cons]
    by_cases h1 : e.2 = x <;> by_cases h2 : e.1 = b
    · have h3 : e.1 ∈ rem := h2 ▸ hb
      have h4 : e.1 ∉ rem.filter fun y => decide (y ≠ b) := by simp [h2]
      simp [h1, h2, hb] at ih ⊢
      omega
    · by_cases h3 : e.1 ∈ rem <;> simp [h1, h2, h3] at ih ⊢ <;> omega
    · simp [h1] at ih ⊢; omega
    · simp [h1] at ih ⊢; omega

/-- What is so of those that are left. -/
structure Left2 (es : List (Int × Int)) (l : List Op1) (rem out : List Int) : Prop where
  nodup : rem.Nodup
  down : ∀ e ∈ es, e.1 ∈ rem → e.2 ∈ rem
  sub : ∀ x ∈ rem, x ∈ txsOf l
  eq : ∃ n, rem.length ≤ n ∧ lineL es (txsOf l).length (txsOf l) = (lineL es n rem).map (out ++ ·)
theorem Left2.start {es : List (Int × Int)} {l : List Op1} (h : ∀ e ∈ es, e.2 ∈ txsOf l) : Left2 es l (txsOf l) [] :=
  ⟨txsOf_nodup l, fun e he _ => h e he, fun _ h => h, _, Nat.le_refl _, by simp⟩
theorem Left2.done {es : List (Int × Int)} {l : List Op1} {out : List Int} (h : Left2 es l [] out) : lineL es (txsOf l).length (txsOf l) = some out := by
  obtain ⟨n, _, hn⟩ := h.eq
  rw [hn]
  cases n <;> simp [lineL]
theorem Left2.stuck {es : List (Int × Int)} {l : List Op1} {rem out : List Int} (h : Left2 es l rem out) (hne : rem ≠ []) (hf : rem.filter (free es rem) = []) : lineL es (txsOf l).length (txsOf l) = none := by
  obtain ⟨n, hl, hn⟩ := h.eq
  rw [hn]
  cases n with
  | zero => exact absurd (List.eq_nil_of_length_eq_zero (by omega)) hne
  | succ n =>
    simp only [lineL]
    rw [if_neg hne, hf]
    simp [least]
theorem Left2.step {es : List (Int × Int)} {l : List Op1} {rem out : List Int} {b : Int} (h : Left2 es l rem out) (hb : b ∈ rem) (hfr : free es rem b = true) (hle : ∀ x ∈ rem, free es rem x = true → b ≤ x) :
    Left2 es l (rem.filter fun x => decide (x ≠ b)) (out ++ [b]) ∧ ∀ e ∈ es, e.1 = b → e.2 ∈ rem.filter fun x => decide (x ≠ b) := by
  obtain ⟨n, hl, hn⟩ := h.eq
  have hne : rem ≠ [] := fun e => by rw [e] at hb; simp at hb
  have hdown : ∀ e ∈ es, e.1 ∈ rem → e.2 ∈ rem ∧ e.2 ≠ b := fun e he h1 => ⟨h.down e he h1, fun e2 => by
    have := List.all_eq_true.1 hfr e he
    simp [e2, h1] at this⟩
  refine ⟨⟨h.nodup.filter _, fun e he h1 => ?_, fun x hx => h.sub x (List.mem_filter.1 hx).1, ?_⟩, fun e he h1 => ?_⟩
  · obtain ⟨h2, h3⟩ := hdown e he (List.mem_filter.1 h1).1
    exact List.mem_filter.2 ⟨h2, by simpa using h3⟩
  · cases n with
    | zero => exact absurd (List.eq_nil_of_length_eq_zero (by omega)) hne
    | succ n =>
      have hlt := filter_ne_length hb
      refine ⟨n, by omega, ?_⟩
      rw [hn]
      simp only [lineL]
      rw [if_neg hne]
      have : least (rem.filter (free es rem)) = some b := least_eq (List.mem_filter.2 ⟨hb, hfr⟩) fun x hx => hle x (List.mem_filter.1 hx).1 (List.mem_filter.1 hx).2
      rw [this]
      show ((lineL es n (rem.filter fun x => decide (x ≠ b))).map (b :: ·)).map (out ++ ·) = (lineL es n (rem.filter fun x => decide (x ≠ b))).map ((out ++ [b]) ++ ·)
      rw [Option.map_map]
      congr 1
      funext x
      simp
  · obtain ⟨h2, h3⟩ := hdown e he (h1 ▸ hb)
    exact List.mem_filter.2 ⟨h2, by simpa using h3⟩

/-- The least of those that were met. -/
def Best (best : Int) (dn : List (Int × Int)) : Prop := (best = -1 ∧ ∀ p ∈ dn, p.2 ≠ 0) ∨ (0 ≤ best ∧ (best, 0) ∈ dn ∧ ∀ p ∈ dn, p.2 = 0 → best ≤ p.1)
theorem Best.start : Best (-1) [] := .inl ⟨rfl, by simp⟩
theorem Best.snoc {best : Int} {dn : List (Int × Int)} (h : Best best dn) (p : Int × Int) (hp : 0 ≤ p.1) : Best (if p.2 = 0 ∧ (best < 0 ∨ p.1 < best) then p.1 else best) (dn ++ [p]) := by
  obtain ⟨k, n⟩ := p
  simp only at hp ⊢
  by_cases h0 : n = 0
  · subst h0
    rcases h with ⟨rfl, h1⟩ | ⟨h1, h2, h3⟩
    · rw [if_pos ⟨rfl, .inl (by omega)⟩]
      refine .inr ⟨hp, by simp, fun q hq hq0 => ?_⟩
      rcases List.mem_append.1 hq with hq | hq
      · exact absurd hq0 (h1 q hq)
      · rw [List.mem_singleton] at hq; subst hq; exact Int.le_refl _
    · by_cases hlt : k < best
      · rw [if_pos ⟨rfl, .inr hlt⟩]
        refine .inr ⟨hp, by simp, fun q hq hq0 => ?_⟩
        rcases List.mem_append.1 hq with hq | hq
        · have := h3 q hq hq0; omega
        · rw [List.mem_singleton] at hq; subst hq; exact Int.le_refl _
      · rw [if_neg (by omega)]
        refine .inr ⟨h1, by simp [h2], fun q hq hq0 => ?_⟩
        rcases List.mem_append.1 hq with hq | hq
        · exact h3 q hq hq0
        · rw [List.mem_singleton] at hq; subst hq; show best ≤ k; omega
  · rw [if_neg (fun h => h0 h.1)]
    rcases h with ⟨rfl, h1⟩ | ⟨h1, h2, h3⟩
    · refine .inl ⟨rfl, fun q hq => ?_⟩
      rcases List.mem_append.1 hq with hq | hq
      · exact h1 q hq
      · rw [List.mem_singleton] at hq; subst hq; exact h0
    · refine .inr ⟨h1, by simp [h2], fun q hq hq0 => ?_⟩
      rcases List.mem_append.1 hq with hq | hq
      · exact h3 q hq hq0
      · rw [List.mem_singleton] at hq; subst hq; exact absurd hq0 h0
/-- .. of all. -/
theorem Best.all {es : List (Int × Int)} {rem : List Int} {best : Int} {dn : List (Int × Int)} (h : Best best dn) (hp : dn.Perm (tabF rem (indeg es rem))) :
    (best = -1 ∧ rem.filter (free es rem) = []) ∨ (0 ≤ best ∧ best ∈ rem ∧ free es rem best = true ∧ ∀ x ∈ rem, free es rem x = true → best ≤ x) := by
  have hm : ∀ x, x ∈ rem → (x, indeg es rem x) ∈ dn := fun x hx => hp.mem_iff.2 (List.mem_map.2 ⟨x, hx, rfl⟩)
  rcases h with ⟨h1, h2⟩ | ⟨h1, h2, h3⟩
  · refine .inl ⟨h1, List.filter_eq_nil_iff.2 fun x hx hf => ?_⟩
    exact h2 _ (hm x hx) ((indeg_zero _ _ _).2 hf)
  · obtain ⟨x, hx, he⟩ := List.mem_map.1 (hp.mem_iff.1 h2)
    simp only [Prod.mk.injEq] at he
    obtain ⟨rfl, he⟩ := he
    exact .inr ⟨h1, hx, (indeg_zero _ _ _).1 he, fun y hy hf => h3 _ (hm y hy) ((indeg_zero _ _ _).2 hf)⟩
end Go.Proofs.YthdiphfbjlooaaaDoor
