/- What is read as of when is the document's: the plain law of stores. No walk in sight. -/
import Derived.Test.YtbcoddibdipjkaaDoorSweptLaw
namespace Go.Proofs.YtbcoddibdipjkaaDoor
open Go Go.RowKit Go.Sep

/-- A version of the reference's: key, time, value. -/
abbrev Kep := Int × Int × Int
def proj (K : List Kep) (k : Int) : Vers := (K.filter fun x => decide (x.1 = k)).map (·.2)
theorem proj_append (K M : List Kep) (k : Int) : proj (K ++ M) k = proj K k ++ proj M k := by simp [proj]
theorem proj_cons (x : Kep) (K : List Kep) (k : Int) : proj (x :: K) k = if x.1 = k then x.2 :: proj K k else proj K k := by
  unfold proj; rw [List.filter_cons]; by_cases h : x.1 = k <;> simp [h]
/-- The last write of a key. -/
def lastIx : Nat → Int → Int → Vers → Int
  | _, _, r, [] => r
  | i, k, r, p :: l => lastIx (i + 1) k (if p.1 = k then (i : Int) else r) l
def lastVal (l : Vers) (k : Int) : Option Int := (l.reverse.find? fun p => decide (p.1 = k)).map (·.2)
theorem lastIx_snoc (k : Int) : ∀ (l : Vers) (i : Nat) (r : Int) (p : Int × Int), lastIx i k r (l ++ [p]) = if p.1 = k then ((i + l.length : Nat) : Int) else lastIx i k r l
  | [], i, r, p => by simp [lastIx]
  | q :: l, i, r, p => by
    simp only [List.cons_append, lastIx]
    rw [lastIx_snoc k l (i + 1) _ p]
    simp only [List.length_cons]
    rw [show i + 1 + l.length = i + (l.length + 1) by omega]
theorem lastIx_spec (l : Vers) (k : Int) : (lastIx 0 k (-1) l = -1 ∧ lastVal l k = none) ∨ ∃ (j : Nat) (p : Int × Int), lastIx 0 k (-1) l = j ∧ l[j]? = some p ∧ lastVal l k = some p.2 := by
  -- by what stands behind
  suffices h : ∀ (m : Vers), m.length ≤ l.length → m = l.take m.length → (lastIx 0 k (-1) m = -1 ∧ lastVal m k = none) ∨ ∃ (j : Nat) (p : Int × Int), lastIx 0 k (-1) m = j ∧ l[j]? = some p ∧ lastVal m k = some p.2 by
    exact h l (Nat.le_refl _) (by simp)
  intro m
  generalize hn : m.length = n
  induction n generalizing m with
  | zero => intro _ _; left; obtain rfl := List.eq_nil_of_length_eq_zero hn; exact ⟨rfl, rfl⟩
  | succ n ih =>
    intro hle hm
    have hlt : n < l.length := by omega
    have e : m = l.take n ++ [l[n]] := by rw [hm, List.take_succ_eq_append_getElem hlt]
    have hl : (l.take n).length = n := by rw [List.length_take]; omega
    have h1 := ih (l.take n) hl (by omega) rfl
    rw [e, lastIx_snoc, hl]
    have hv : lastVal (l.take n ++ [l[n]]) k = if l[n].1 = k then some l[n].2 else lastVal (l.take n) k := by
      unfold lastVal
      rw [List.reverse_append, List.reverse_singleton, List.singleton_append, List.find?_cons]
      by_cases h : l[n].1 = k <;> simp [h]
    rw [hv]
    by_cases h : l[n].1 = k
    · right; exact ⟨n, l[n], by simp [h], by simp [hlt], by simp [h]⟩
    · simp only [h, ↓reduceIte]; exact h1
def rrow (at_ : Int) (l : Vers) (k : Nat) : List Kep := match lastVal l k with | some v => [((k : Int), at_, v)] | none => []
/-- What Install adds of the keys below 'n'. -/
def rrows (at_ : Int) (l : Vers) (n : Nat) : List Kep := (List.range n).flatMap (rrow at_ l)
theorem rrows_succ (at_ : Int) (l : Vers) (n : Nat) : rrows at_ l (n + 1) = rrows at_ l n ++ rrow at_ l n := by simp [rrows, List.range_succ, List.flatMap_append]
theorem rrow_key {at_ : Int} {l : Vers} {k : Nat} {x : Kep} (h : x ∈ rrow at_ l k) : x.1 = k := by
  unfold rrow at h; split at h <;> simp at h; rw [h]
theorem proj_rrow (at_ : Int) (l : Vers) (k j : Nat) : proj (rrow at_ l k) j = if k = j then (match lastVal l j with | some v => [(at_, v)] | none => []) else [] := by
  unfold rrow
  by_cases h : k = j
  · subst h; rw [if_pos rfl]; cases lastVal l k <;> simp [proj]
  · rw [if_neg h]
    have : ¬ (k : Int) = j := by omega
    cases lastVal l k <;> simp [proj, this]
theorem proj_rrows (at_ : Int) (l : Vers) (j : Nat) : ∀ n, proj (rrows at_ l n) j = if j < n then (match lastVal l j with | some v => [(at_, v)] | none => []) else []
  | 0 => by simp [rrows, proj]
  | n + 1 => by
    rw [rrows_succ, proj_append, proj_rrows at_ l j n, proj_rrow]
    by_cases h1 : j < n
    · have : ¬ n = j := by omega
      simp [h1, this]; omega
    · by_cases h2 : n = j
      · subst h2; simp
      · have : ¬ j < n + 1 := by omega
        simp [h1, h2, this]
theorem rrows_le (at_ : Int) (l : Vers) : ∀ n, (rrows at_ l n).length ≤ n
  | 0 => by simp [rrows]
  | n + 1 => by
    rw [rrows_succ, List.length_append]
    have := rrows_le at_ l n
    have : (rrow at_ l n).length ≤ 1 := by unfold rrow; split <;> simp
    omega

/-- The program's store and the reference's are one. -/
structure Same (V : List Vers) (last : Int) (K : List Kep) : Prop where
  len : V.length = 10
  key : ∀ k : Nat, k < 10 → V[k]? = some (proj K k)
  inc : ∀ k : Nat, k < 10 → (proj K k).Pairwise (fun p q => p.1 < q.1)
  le : ∀ x ∈ K, x.2.1 ≤ last
  pos : ∀ x ∈ K, 1 ≤ x.2.1
  ok : ∀ x ∈ K, keyOk x.1
  last0 : 0 ≤ last
theorem Same.start : Same (List.replicate 10 []) 0 [] :=
  ⟨rfl, fun k hk => by rw [List.getElem?_replicate, if_pos hk]; rfl, fun _ _ => List.Pairwise.nil, by simp, by simp, by simp, Int.le_refl _⟩
theorem mem_proj {K : List Kep} {k : Int} {p : Int × Int} : p ∈ proj K k ↔ (k, p) ∈ K := by
  unfold proj
  simp only [List.mem_map, List.mem_filter, decide_eq_true_eq]
  constructor
  · rintro ⟨⟨a, b⟩, ⟨h1, rfl⟩, rfl⟩; exact h1
  · intro h; exact ⟨_, ⟨h, rfl⟩, rfl⟩

/-- What the program's writes of a commit come to, key by key. -/
theorem put1_get {at_ : Int} {V : List Vers} {p : Int × Int} (hp : keyOk p.1) (hV : V.length = 10) (j : Nat) (hj : j < 10) : (put1 at_ V p)[j]? = if p.1 = j then some (puts at_ ((V[j]?).getD []) p.2) else V[j]? := by
  unfold put1 puts
  have := hp.1
  by_cases h : p.1 = j
  · rw [if_pos h, h]; simp [hV, hj]
  · rw [if_neg h, List.getElem?_set_ne (by omega)]
def Onto (at_ : Int) (old new : Vers) (v : Option Int) : Prop := match v with | some v => new = old ++ [(at_, v)] | none => new = old
theorem putAll_get {at_ last : Int} {W : List Vers} (hlt : last < at_) : ∀ (l : Vers) {V : List Vers} {j : Nat} {old cur : Vers} {v : Option Int}, (∀ p ∈ l, keyOk p.1) → V.length = 10 → j < 10 → (∀ p ∈ old, p.1 ≤ last) → V[j]? = some cur → Onto at_ old cur v →
    ∃ new, (putAll at_ V l)[j]? = some new ∧ Onto at_ old new ((lastVal l j).or v)
  | [], V, j, old, cur, v, _, _, _, _, hc, ho => ⟨cur, hc, by simpa [lastVal] using ho⟩
  | p :: l, V, j, old, cur, v, hk, hV, hj, hold, hc, ho => by
    have h1 := put1_get (at_ := at_) (V := V) (hk p (by simp)) hV j hj
    rw [hc] at h1
    simp only [Option.getD_some] at h1
    have hv : lastVal (p :: l) j = (lastVal l j).or (if p.1 = j then some p.2 else none) := by
      unfold lastVal
      rw [List.reverse_cons, List.find?_append]
      cases hf : l.reverse.find? fun q => decide (q.1 = (j : Int)) with
      | some q => simp
      | none => by_cases h : p.1 = j <;> simp [h]
    show ∃ new, (putAll at_ (put1 at_ V p) l)[j]? = some new ∧ _
    by_cases h : p.1 = j
    · rw [if_pos h] at h1
      have ho' : Onto at_ old (puts at_ cur p.2) (some p.2) := by
        unfold Onto puts at *
        cases v with
        | none =>
          simp only at ho ⊢
          subst ho
          rw [if_neg]
          intro e
          cases hl : cur.getLast? with
          | none => rw [hl] at e; simp at e
          | some q =>
            rw [hl] at e
            simp at e
            have := hold q (List.mem_of_getLast? hl)
            omega
        | some v =>
          simp only at ho ⊢
          subst ho
          rw [if_pos (by simp)]
          simp
      obtain ⟨new, h2, h3⟩ := putAll_get (W := W) hlt l (v := some p.2) (fun q hq => hk q (by simp [hq])) (by rw [put1_length]; exact hV) hj hold h1 ho'
      refine ⟨new, h2, ?_⟩
      rw [hv, if_pos h]
      cases hlv : lastVal l j with
      | some x => rw [hlv] at h3; simpa using h3
      | none => rw [hlv] at h3; simpa using h3
    · rw [if_neg h] at h1
      obtain ⟨new, h2, h3⟩ := putAll_get (W := W) hlt l (v := v) (fun q hq => hk q (by simp [hq])) (by rw [put1_length]; exact hV) hj hold h1 ho
      refine ⟨new, h2, ?_⟩
      rw [hv, if_neg h]
      cases hlv : lastVal l j with
      | some x => rw [hlv] at h3; simpa using h3
      | none => rw [hlv] at h3; simpa using h3
theorem Same.put {V : List Vers} {last at_ : Int} {K : List Kep} (h : Same V last K) (l : Vers) (hk : ∀ p ∈ l, keyOk p.1) (hlt : last < at_) : Same (putAll at_ V l) at_ (K ++ rrows at_ l 10) := by
  have hold : ∀ (k : Nat), ∀ p ∈ proj K k, p.1 ≤ last := fun k p hp => h.le _ (mem_proj.1 hp)
  have hrr : ∀ x ∈ rrows at_ l 10, x.2.1 = at_ ∧ keyOk x.1 := by
    intro x hx
    unfold rrows at hx
    rw [List.mem_flatMap] at hx
    obtain ⟨k, hk, hx⟩ := hx
    rw [List.mem_range] at hk
    have := rrow_key hx
    unfold rrow at hx
    split at hx <;> simp at hx
    subst hx
    exact ⟨rfl, by simp only; exact ⟨by omega, by omega⟩⟩
  refine ⟨by rw [putAll_length]; exact h.len, fun k hk' => ?_, fun k hk' => ?_, ?_, ?_, ?_, by have := h.last0; omega⟩
  · obtain ⟨new, h1, h2⟩ := putAll_get (W := V) hlt l (v := none) hk h.len hk' (hold k) (h.key k hk') rfl
    rw [h1, proj_append, proj_rrows, if_pos hk']
    congr 1
    unfold Onto at h2
    cases hl : lastVal l k <;> rw [hl] at h2 <;> simpa using h2
  · rw [proj_append, proj_rrows, if_pos hk', List.pairwise_append]
    refine ⟨h.inc k hk', by split <;> simp, ?_⟩
    intro p hp q hq
    have := hold k p hp
    split at hq <;> simp at hq
    subst hq; simp only; omega
  · intro x hx
    rcases List.mem_append.1 hx with hx | hx
    · have := h.le x hx; omega
    · rw [(hrr x hx).1]; exact Int.le_refl _
  · intro x hx
    rcases List.mem_append.1 hx with hx | hx
    · exact h.pos x hx
    · rw [(hrr x hx).1]; have := h.last0; omega
  · intro x hx
    rcases List.mem_append.1 hx with hx | hx
    · exact h.ok x hx
    · exact (hrr x hx).2

/-- The reference's reading: the latest of those that are not later. -/
def rstep (k at_ : Int) (b : Option (Int × Int)) (x : Kep) : Option (Int × Int) :=
  if x.1 = k ∧ x.2.1 ≤ at_ ∧ (b = none ∨ ∃ c, b = some c ∧ c.1 < x.2.1) then some x.2 else b
instance (b : Option (Int × Int)) (x : Kep) : Decidable (b = none ∨ ∃ c, b = some c ∧ c.1 < x.2.1) :=
  match b with
  | none => .isTrue (.inl rfl)
  | some c => if h : c.1 < x.2.1 then .isTrue (.inr ⟨c, rfl, h⟩) else .isFalse (by rintro (h' | ⟨d, h1, h2⟩); cases h'; cases h1; exact h h2)
def rread (K : List Kep) (k at_ : Int) : Option (Int × Int) := K.foldl (rstep k at_) none
theorem rread_snoc (K : List Kep) (x : Kep) (k at_ : Int) : rread (K ++ [x]) k at_ = rstep k at_ (rread K k at_) x := by simp [rread]
theorem rread_mem {K : List Kep} {k at_ : Int} {p : Int × Int} (h : rread K k at_ = some p) : (k, p) ∈ K ∧ p.1 ≤ at_ := by
  suffices ∀ (M : List Kep) (b : Option (Int × Int)), (∀ q, b = some q → (k, q) ∈ K ∧ q.1 ≤ at_) → (∀ x ∈ M, x ∈ K) → ∀ p, M.foldl (rstep k at_) b = some p → (k, p) ∈ K ∧ p.1 ≤ at_ from
    this K none (by simp) (fun _ h => h) p h
  intro M
  induction M with
  | nil => intro b hb _ p hp; exact hb p hp
  | cons x M ih =>
    intro b hb hM p hp
    refine ih (rstep k at_ b x) ?_ (fun y hy => hM y (by simp [hy])) p hp
    intro q hq
    unfold rstep at hq
    split at hq
    · rename_i hc
      have := Option.some.inj hq
      subst this
      have hx := hM x (by simp)
      obtain ⟨x1, x2⟩ := x
      simp only at hc hx
      rw [hc.1] at hx
      exact ⟨hx, hc.2.1⟩
    · exact hb q hq
theorem rread_eq {K : List Kep} {k at_ : Int} (hi : (proj K k).Pairwise (fun p q => p.1 < q.1)) : rread K k at_ = readV (proj K k) at_ := by
  suffices ∀ (n : Nat) (M : List Kep), M.length = n → (proj M k).Pairwise (fun p q => p.1 < q.1) → rread M k at_ = readV (proj M k) at_ from this _ K rfl hi
  intro n
  induction n with
  | zero => intro M hM _; obtain rfl := List.eq_nil_of_length_eq_zero hM; rfl
  | succ n ih =>
    intro M hM hi
    obtain ⟨N, x, rfl⟩ : ∃ N x, M = N ++ [x] := ⟨M.dropLast, M.getLast (by intro e; rw [e] at hM; simp at hM), (List.dropLast_concat_getLast _).symm⟩
    rw [proj_append, List.pairwise_append] at hi
    have h1 := ih N (by simpa using hM) hi.1
    rw [rread_snoc, h1, proj_append]
    have hx : proj [x] k = if x.1 = k then [x.2] else [] := by rw [proj_cons]; rfl
    rw [hx] at hi ⊢
    unfold rstep
    by_cases hk : x.1 = k
    · rw [if_pos hk] at hi ⊢
      have hr : readV (proj N k ++ [x.2]) at_ = if x.2.1 ≤ at_ then some x.2 else readV (proj N k) at_ := by
        unfold readV
        rw [List.reverse_append, List.reverse_singleton, List.singleton_append, List.find?_cons]
        by_cases h : x.2.1 ≤ at_ <;> simp [h]
      rw [hr]
      by_cases ha : x.2.1 ≤ at_
      · rw [if_pos ha, if_pos]
        refine ⟨hk, ha, ?_⟩
        cases hrv : readV (proj N k) at_ with
        | none => exact .inl rfl
        | some c =>
          refine .inr ⟨c, rfl, ?_⟩
          have hc : c ∈ proj N k := by
            unfold readV at hrv
            exact List.mem_reverse.1 (List.mem_of_find?_eq_some hrv)
          exact hi.2.2 c hc x.2 (by simp)
      · rw [if_neg ha, if_neg (fun h => ha h.2.1)]
    · rw [if_neg hk, if_neg (fun h => hk h.1)]
      simp
theorem Same.read {V : List Vers} {last : Int} {K : List Kep} (h : Same V last K) (k : Nat) (hk : k < 10) (at_ : Int) : rread K k at_ = readV (proj K k) at_ := rread_eq (h.inc k hk)

/-- The reference's later times, as they lie. -/
def rnewer (K : List Kep) (k at_ : Int) : List Int := (K.filter fun x => decide (x.1 = k ∧ at_ < x.2.1)).map (·.2.1)
theorem rnewer_snoc (K : List Kep) (x : Kep) (k at_ : Int) : rnewer (K ++ [x]) k at_ = rnewer K k at_ ++ if x.1 = k ∧ at_ < x.2.1 then [x.2.1] else [] := by
  unfold rnewer; rw [List.filter_append, List.map_append]; by_cases h : x.1 = k ∧ at_ < x.2.1 <;> simp [h]
theorem rnewer_eq (K : List Kep) (k at_ : Int) : rnewer K k at_ = newerL (proj K k) at_ := by
  unfold rnewer newerL proj
  rw [List.filter_map, List.filter_filter, List.map_map]
  congr 1
  apply List.filter_congr
  intro x _
  simp only [Function.comp, Bool.decide_and]
  rw [Bool.and_comm]
theorem newerL_sorted {vs : Vers} (h : vs.Pairwise (fun p q => p.1 < q.1)) (at_ : Int) : (newerL vs at_).Pairwise (· ≤ ·) := by
  unfold newerL
  rw [List.pairwise_map]
  exact (h.sublist List.filter_sublist).imp fun h => by omega

/-- The reference's Sweep. -/
def rkeep (K : List Kep) (at_ : Int) (x : Kep) : Bool := decide (at_ < x.2.1 ∨ rread K x.1 at_ = some x.2)
def rswept (K : List Kep) (at_ : Int) : List Kep := K.filter (rkeep K at_)
theorem proj_filter (K : List Kep) (f : Kep → Bool) (k : Int) : proj (K.filter f) k = (proj K k).filter fun p => f (k, p) := by
  induction K with
  | nil => rfl
  | cons x K ih =>
    obtain ⟨x1, x2⟩ := x
    rw [List.filter_cons, proj_cons]
    by_cases hk : x1 = k
    · subst hk
      rw [if_pos rfl, List.filter_cons]
      by_cases hf : f (x1, x2) = true
      · rw [if_pos hf, if_pos hf, proj_cons, if_pos rfl, ih]
      · rw [if_neg hf, if_neg hf, ih]
    · rw [if_neg hk]
      by_cases hf : f (x1, x2) = true
      · rw [if_pos hf, proj_cons, if_neg hk, ih]
      · rw [if_neg hf, ih]
theorem swept_filter {vs : Vers} (hi : vs.Pairwise (fun p q => p.1 < q.1)) (at_ : Int) : vs.filter (fun p => decide (at_ < p.1 ∨ readV vs at_ = some p)) = swept at_ vs := by
  obtain ⟨h1, h2, h3, h4⟩ := sweptN_spec at_ vs
  rw [h4]
  generalize sweptN at_ vs = m at h1 h2 h3
  -- the ones ahead go, the others stay
  have hsplit := (List.take_append_drop m vs).symm
  have hread : ∀ p, vs[m]? = some p → p.1 ≤ at_ → readV vs at_ = some p := by
    intro p hp hle
    exact readV_of hp hle (fun j q hj hq => by have := h2 j q (by omega) hq; omega)
  have hA : ∀ p ∈ vs.drop m, decide (at_ < p.1 ∨ readV vs at_ = some p) = true := by
    intro p hp
    obtain ⟨j, hj⟩ := List.getElem?_of_mem hp
    rw [List.getElem?_drop] at hj
    rcases Nat.eq_zero_or_pos j with rfl | hj0
    · rw [Nat.add_zero] at hj
      by_cases hle : p.1 ≤ at_
      · simp [hread p hj hle]
      · simp; left; omega
    · have := h2 (m + j) p (by omega) hj
      simp [this]
  have hB : ∀ p ∈ vs.take m, decide (at_ < p.1 ∨ readV vs at_ = some p) = false := by
    intro p hp
    rcases h1 with h1 | ⟨q, hq, hle⟩
    · subst h1; simp at hp
    · rw [hread q hq hle]
      have hpq : p.1 < q.1 := by
        rw [hsplit, List.pairwise_append] at hi
        refine hi.2.2 p hp q ?_
        exact List.mem_of_getElem? (i := 0) (by rw [List.getElem?_drop]; simpa using hq)
      simp only [Option.some.injEq, decide_eq_false_iff_not, not_or]
      exact ⟨by omega, fun e => by rw [e] at hpq; omega⟩
  conv => lhs; rw [show vs = vs.take m ++ vs.drop m from hsplit]
  rw [List.filter_append]
  rw [← hsplit]
  rw [List.filter_eq_nil_iff.2 (fun p hp => by simp [hB p hp]), List.filter_eq_self.2 hA]; simp
theorem Same.sweep {V : List Vers} {last : Int} {K : List Kep} (h : Same V last K) (at_ : Int) : Same (V.map (swept at_)) last (rswept K at_) := by
  have hp : ∀ k : Nat, k < 10 → proj (rswept K at_) k = swept at_ (proj K k) := by
    intro k hk
    unfold rswept
    rw [proj_filter, ← swept_filter (h.inc k hk) at_]
    apply List.filter_congr
    intro p _
    unfold rkeep
    simp only [h.read k hk at_]
  have hsub : ∀ x ∈ rswept K at_, x ∈ K := fun x hx => (List.mem_filter.1 hx).1
  refine ⟨by simpa using h.len, fun k hk => ?_, fun k hk => ?_, fun x hx => h.le x (hsub x hx), fun x hx => h.pos x (hsub x hx), fun x hx => h.ok x (hsub x hx), h.last0⟩
  · rw [List.getElem?_map, h.key k hk, hp k hk]; rfl
  · rw [hp k hk]; unfold swept; exact (h.inc k hk).sublist (List.drop_sublist _ _)
theorem sum_proj : ∀ (K : List Kep), (∀ x ∈ K, keyOk x.1) → ((List.range 10).map fun k : Nat => (proj K (k : Int)).length).sum = K.length
  | [], _ => rfl
  | x :: K, h => by
    have ih := sum_proj K (fun y hy => h y (by simp [hy]))
    obtain ⟨h1, h2⟩ := h x (by simp)
    have e : ∀ k : Nat, (proj (x :: K) k).length = (proj K k).length + if x.1 = k then 1 else 0 := by
      intro k; rw [proj_cons]; split <;> simp
    simp only [e]
    have hs : ∀ (l : List Nat) (f g : Nat → Nat), (l.map fun k => f k + g k).sum = (l.map f).sum + (l.map g).sum := by
      intro l f g
      induction l with
      | nil => rfl
      | cons a l ih => simp only [List.map_cons, List.sum_cons, ih]; omega
    rw [hs, ih, List.length_cons]
    congr 1
    obtain ⟨k, hk⟩ : ∃ k : Nat, x.1 = k := ⟨x.1.toNat, by omega⟩
    rw [hk] at h2 ⊢
    have : k < 10 := by omega
    simp only [Int.natCast_inj]
    match k, this with
    | 0, _ => rfl | 1, _ => rfl | 2, _ => rfl | 3, _ => rfl | 4, _ => rfl | 5, _ => rfl | 6, _ => rfl | 7, _ => rfl | 8, _ => rfl | 9, _ => rfl
theorem Same.many {V : List Vers} {last : Int} {K : List Kep} (h : Same V last K) : manyV V = K.length := by
  rw [← sum_proj K h.ok]
  unfold manyV
  congr 1
  apply List.ext_getElem?
  intro j
  by_cases hj : j < 10
  · rw [List.getElem?_map, h.key j hj, List.getElem?_map, List.getElem?_range hj]; rfl
  · rw [List.getElem?_eq_none (by simp [h.len]; omega), List.getElem?_eq_none (by simp; omega)]
theorem Same.swept_sum {V : List Vers} {last : Int} {K : List Kep} (h : Same V last K) (at_ : Int) : (V.map (sweptN at_)).sum + (rswept K at_).length = K.length := by
  have h1 := many_swept at_ V
  have h2 := (h.sweep at_).many
  have h3 := h.many
  omega
end Go.Proofs.YtbcoddibdipjkaaDoor
