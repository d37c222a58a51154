/- Lines of transactions, in plain words: who must be ahead of whom, and the line that comes of it. -/
import Derived.Test.YthdiphfbjlooaaaDoorMaps
import Derived.Lib.Slices
namespace Go.Proofs.YthdiphfbjlooaaaDoor
open Go

structure Op1 where
  tx : Int
  key : Int
  wr : Bool
  fr : Int

def wput (w : List Int) (x : Int) : List Int := if w.getLast? = some x then w else w ++ [x]
def wstep (k : Int) (w : List Int) (o : Op1) : List Int := if o.wr = true ∧ o.key = k then wput w o.tx else w
def writers (l : List Op1) (k : Int) : List Int := l.foldl (wstep k) []
theorem writers_snoc (l : List Op1) (o : Op1) (k : Int) : writers (l ++ [o]) k = wstep k (writers l k) o := by simp [writers]
theorem wput_mem {w : List Int} {x y : Int} (h : y ∈ wput w x) : y ∈ w ∨ y = x := by
  unfold wput at h
  split at h
  · exact .inl h
  · simpa using h
theorem writers_mem' {k y : Int} : ∀ (l : List Op1) (w : List Int), y ∈ l.foldl (wstep k) w → y ∈ w ∨ ∃ o ∈ l, o.wr = true ∧ o.key = k ∧ o.tx = y
  | [], w, h => .inl h
  | o :: l, w, h => by
    rcases writers_mem' l _ h with h | ⟨o', h, h2⟩
    · unfold wstep at h
      split at h
      · rename_i hc
        rcases wput_mem h with h | rfl
        · exact .inl h
        · exact .inr ⟨o, by simp, hc.1, hc.2, rfl⟩
      · exact .inl h
    · exact .inr ⟨o', by simp [h], h2⟩
theorem writers_mem {l : List Op1} {k y : Int} (h : y ∈ writers l k) : ∃ o ∈ l, o.wr = true ∧ o.key = k ∧ o.tx = y := by
  rcases writers_mem' l [] h with h | h
  · simp at h
  · exact h
theorem writers_le (l : List Op1) (k : Int) : (writers l k).length ≤ l.length := by
  unfold writers
  suffices ∀ (l : List Op1) (w : List Int), (l.foldl (wstep k) w).length ≤ w.length + l.length by simpa using this l []
  intro l
  induction l with
  | nil => intro w; simp
  | cons o l ih =>
    intro w
    simp only [List.foldl_cons, List.length_cons]
    refine Nat.le_trans (ih _) ?_
    unfold wstep wput
    split
    · split <;> simp <;> omega
    · omega

/-- Who comes behind the first such one. -/
def nextOf (w : List Int) (f : Int) : Option Int := w[(Lib.idxOf w f + 1).toNat]?

/-- Who must be ahead of whom. -/
def Edge (l : List Op1) (p : Int × Int) : Prop :=
  p.1 ≠ p.2 ∧ p.1 ≠ 0 ∧ ((∃ (k : Int) (i : Nat), (writers l k)[i]? = some p.1 ∧ (writers l k)[i + 1]? = some p.2) ∨
    ∃ o ∈ l, o.wr = false ∧ ((p.1 = o.fr ∧ p.2 = o.tx) ∨ (p.1 = o.tx ∧ nextOf (writers l o.key) o.fr = some p.2)))

def ltP (a b : Int × Int) : Prop := a.1 < b.1 ∨ (a.1 = b.1 ∧ a.2 < b.2)
theorem ltP.irrefl (a : Int × Int) : ¬ ltP a a := by unfold ltP; omega
theorem ltP.trans {a b c : Int × Int} (h : ltP a b) (h2 : ltP b c) : ltP a c := by unfold ltP at *; omega
theorem ltP.asymm {a b : Int × Int} (h : ltP a b) (h2 : ltP b a) : False := by unfold ltP at *; omega

theorem sorted_unique : ∀ {a b : List (Int × Int)}, a.Pairwise ltP → b.Pairwise ltP → (∀ p, p ∈ a ↔ p ∈ b) → a = b
  | [], [], _, _, _ => rfl
  | [], y :: b, _, _, h => by have := (h y).2 (by simp); simp at this
  | x :: a, [], _, _, h => by have := (h x).1 (by simp); simp at this
  | x :: a, y :: b, ha, hb, h => by
    have ha' := List.pairwise_cons.1 ha
    have hb' := List.pairwise_cons.1 hb
    have e : x = y := by
      rcases List.mem_cons.1 ((h x).1 (by simp)) with e | hx
      · exact e
      · rcases List.mem_cons.1 ((h y).2 (by simp)) with e | hy
        · exact e.symm
        · exact ((hb'.1 _ hx).asymm (ha'.1 _ hy)).elim
    subst e
    congr 1
    apply sorted_unique ha'.2 hb'.2
    intro p
    have := h p
    simp only [List.mem_cons] at this
    constructor
    · intro hp
      rcases this.1 (.inr hp) with e | hb2
      · subst e; exact (ltP.irrefl _ (ha'.1 _ hp)).elim
      · exact hb2
    · intro hp
      rcases this.2 (.inr hp) with e | ha2
      · subst e; exact (ltP.irrefl _ (hb'.1 _ hp)).elim
      · exact ha2

/-- The edges of a list, once each, in order. -/
def EdgesOf (l : List Op1) (es : List (Int × Int)) : Prop := es.Pairwise ltP ∧ ∀ p, p ∈ es ↔ Edge l p
theorem EdgesOf.unique {l : List Op1} {a b : List (Int × Int)} (ha : EdgesOf l a) (hb : EdgesOf l b) : a = b :=
  sorted_unique ha.1 hb.1 fun p => (ha.2 p).trans (hb.2 p).symm

/-- A read of what nobody wrote. -/
def lostRead (l : List Op1) (o : Op1) : Bool := !o.wr && decide (o.fr ≠ 0) && decide (o.fr ∉ writers l o.key)
def badOp (o : Op1) : Bool := decide (o.tx < 1 ∨ o.fr < 0 ∨ o.key < 0 ∨ 10 ≤ o.key)

theorem Edge.txs {l : List Op1} {p : Int × Int} (h : Edge l p) (hr : ∀ o ∈ l, lostRead l o = false) : (∃ o ∈ l, o.tx = p.1) ∧ ∃ o ∈ l, o.tx = p.2 := by
  obtain ⟨_, hz, h⟩ := h
  have hw : ∀ {k y : Int}, y ∈ writers l k → ∃ o ∈ l, o.tx = y := fun h => let ⟨o, ho, _, _, h⟩ := writers_mem h; ⟨o, ho, h⟩
  rcases h with ⟨k, i, h1, h2⟩ | ⟨o, ho, hro, ⟨h1, h2⟩ | ⟨h1, h2⟩⟩
  · exact ⟨hw (List.mem_of_getElem? h1), hw (List.mem_of_getElem? h2)⟩
  · refine ⟨?_, o, ho, h2.symm⟩
    have := hr o ho
    simp only [lostRead, hro] at this
    rw [h1] at hz ⊢
    simp [hz] at this
    exact hw this
  · exact ⟨⟨o, ho, h1.symm⟩, hw (List.mem_of_getElem? h2)⟩

/-! Lines. -/
def free (es : List (Int × Int)) (rem : List Int) (x : Int) : Bool := es.all fun e => !(decide (e.2 = x) && decide (e.1 ∈ rem))
def least : List Int → Option Int
  | [] => none
  | x :: l => match least l with
    | none => some x
    | some y => some (if x ≤ y then x else y)
theorem least_none : ∀ {l : List Int}, least l = none ↔ l = []
  | [] => by simp [least]
  | x :: l => by simp only [least]; split <;> simp
theorem least_some : ∀ {l : List Int} {b : Int}, least l = some b → b ∈ l ∧ ∀ x ∈ l, b ≤ x
  | x :: l, b, h => by
    simp only [least] at h
    split at h
    · rename_i h2
      cases h
      rw [least_none.1 h2]
      simp
    · rename_i y h2
      obtain ⟨i1, i2⟩ := least_some h2
      cases h
      split
      · rename_i hle
        exact ⟨by simp, fun z hz => (List.mem_cons.1 hz).elim (fun e => by omega) fun hz => by have := i2 _ hz; omega⟩
      · rename_i hle
        exact ⟨by simp [i1], fun z hz => (List.mem_cons.1 hz).elim (fun e => by omega) fun hz => i2 _ hz⟩
theorem least_eq {l : List Int} {b : Int} (h : b ∈ l) (h2 : ∀ x ∈ l, b ≤ x) : least l = some b := by
  cases e : least l with
  | none => rw [least_none.1 e] at h; simp at h
  | some c =>
    obtain ⟨i1, i2⟩ := least_some e
    have := i2 _ h
    have := h2 _ i1
    congr 1
    omega

def lineL (es : List (Int × Int)) : Nat → List Int → Option (List Int)
  | 0, rem => if rem = [] then some [] else none
  | n + 1, rem => if rem = [] then some [] else match least (rem.filter (free es rem)) with
    | none => none
    | some b => (lineL es n (rem.filter fun x => decide (x ≠ b))).map (b :: ·)

/-- One stands ahead of the other. -/
def Before (p : List Int) (a b : Int) : Prop := ∃ i j : Nat, p[i]? = some a ∧ p[j]? = some b ∧ i < j
theorem Before.cons {p : List Int} {a b x : Int} (h : Before p a b) : Before (x :: p) a b := by
  obtain ⟨i, j, h1, h2, h3⟩ := h
  exact ⟨i + 1, j + 1, by simpa using h1, by simpa using h2, by omega⟩
theorem Before.head {p : List Int} {x b : Int} (h : b ∈ p) : Before (x :: p) x b := by
  obtain ⟨j, hj⟩ := List.getElem?_of_mem h
  exact ⟨0, j + 1, by simp, by simpa using hj, by omega⟩

theorem filter_ne_length {b : Int} : ∀ {rem : List Int}, b ∈ rem → (rem.filter fun x => decide (x ≠ b)).length < rem.length := by
  intro rem h
  have h1 := List.length_filter_le (fun x => decide (x ≠ b)) rem
  rcases Nat.lt_or_eq_of_le h1 with h2 | h2
  · exact h2
  · have h3 := (List.length_filter_eq_length_iff.1 h2) b h
    simp at h3

theorem nodup_filter_cons {b : Int} {rem : List Int} (hn : rem.Nodup) (hb : b ∈ rem) : (b :: rem.filter fun x => decide (x ≠ b)).Perm rem := by
  induction rem with
  | nil => simp at hb
  | cons x rem ih =>
    have hn' := List.nodup_cons.1 hn
    by_cases e : x = b
    · subst e
      have e1 : (List.filter (fun z => decide (z ≠ x)) rem) = rem := List.filter_eq_self.2 fun z hz => by
        have : z ≠ x := fun e => hn'.1 (e ▸ hz)
        simpa using this
      simp only [List.filter_cons, ne_eq, not_true, decide_false, Bool.false_eq_true, ↓reduceIte]
      rw [show List.filter (fun z => decide ¬z = x) rem = rem from e1]
    · have hb' : b ∈ rem := (List.mem_cons.1 hb).elim (fun h => (e h.symm).elim) id
      simp only [List.filter_cons, ne_eq, e, not_false_eq_true, decide_true, ↓reduceIte]
      exact (List.Perm.swap _ _ _).trans ((ih hn'.2 hb').cons _)

theorem lineL_some (es : List (Int × Int)) : ∀ (n : Nat) {rem out : List Int}, rem.Nodup → lineL es n rem = some out →
    out.Perm rem ∧ ∀ e ∈ es, e.1 ∈ rem → e.2 ∈ rem → e.1 ≠ e.2 → Before out e.1 e.2
  | 0, rem, out, hn, h => by
    simp only [lineL] at h
    split at h
    · rename_i e; subst e; cases h; simp
    · simp at h
  | n + 1, rem, out, hn, h => by
    simp only [lineL] at h
    split at h
    · rename_i e; subst e; cases h; simp
    · split at h
      · simp at h
      · rename_i b hb
        obtain ⟨h1, -⟩ := least_some hb
        obtain ⟨hbr, hfree⟩ := List.mem_filter.1 h1
        obtain ⟨o2, h2, rfl⟩ := Option.map_eq_some_iff.1 h
        obtain ⟨ih1, ih2⟩ := lineL_some es n (hn.filter _) h2
        refine ⟨(ih1.cons b).trans (nodup_filter_cons hn hbr), ?_⟩
        intro e he h3 h4 h5
        have hf := List.all_eq_true.1 hfree e he
        have hne : e.2 ≠ b := by
          intro e2
          simp [e2, h3] at hf
        have h4' : e.2 ∈ o2 := ih1.mem_iff.2 (List.mem_filter.2 ⟨h4, by simpa using hne⟩)
        by_cases h6 : e.1 = b
        · rw [h6]; exact Before.head h4'
        · exact (ih2 e he (List.mem_filter.2 ⟨h3, by simpa using h6⟩) (List.mem_filter.2 ⟨h4, by simpa using hne⟩) h5).cons

theorem Before.filter (f : Int → Bool) : ∀ {p : List Int} {a b : Int}, Before p a b → f a = true → f b = true → Before (p.filter f) a b
  | [], a, b, ⟨i, j, h1, _, _⟩, _, _ => by simp at h1
  | x :: p, a, b, ⟨i, j, h1, h2, h3⟩, ha, hb => by
    cases i with
    | zero =>
      simp at h1
      subst h1
      cases j with
      | zero => omega
      | succ j =>
        simp at h2
        simp only [List.filter_cons, ha, ↓reduceIte]
        exact Before.head (List.mem_filter.2 ⟨List.mem_of_getElem? h2, hb⟩)
    | succ i =>
      cases j with
      | zero => omega
      | succ j =>
        have := Before.filter f (p := p) ⟨i, j, by simpa using h1, by simpa using h2, by omega⟩ ha hb
        simp only [List.filter_cons]
        split
        · exact this.cons
        · exact this

theorem lineL_none (es : List (Int × Int)) : ∀ (n : Nat) {rem p : List Int}, rem.Nodup → rem.length ≤ n → lineL es n rem = none → p.Perm rem →
    ¬ ∀ e ∈ es, e.1 ∈ rem → e.2 ∈ rem → Before p e.1 e.2
  | 0, rem, p, hn, hl, h, hp => by
    have : rem = [] := List.eq_nil_of_length_eq_zero (by omega)
    simp [lineL, this] at h
  | n + 1, rem, p, hn, hl, h, hp => by
    intro hall
    simp only [lineL] at h
    split at h
    · simp at h
    · rename_i hne
      have hpn : p.Nodup := hp.nodup_iff.2 hn
      split at h
      · rename_i hb
        rw [least_none] at hb
        cases p with
        | nil => exact hne hp.symm.eq_nil
        | cons x p =>
          have hx : x ∈ rem := hp.mem_iff.1 (by simp)
          have hf : ¬ free es rem x = true := fun hf => by
            have : x ∈ rem.filter (free es rem) := List.mem_filter.2 ⟨hx, hf⟩
            rw [hb] at this
            simp at this
          unfold free at hf
          rw [List.all_eq_true] at hf
          simp only [Classical.not_forall] at hf
          obtain ⟨e, he, h2⟩ := hf
          simp at h2
          obtain ⟨h3, h4⟩ := h2
          obtain ⟨i, j, h5, h6, h7⟩ := hall e he h4 (h3 ▸ hx)
          rw [h3] at h6
          cases j with
          | zero => omega
          | succ j =>
            simp at h6
            exact (List.nodup_cons.1 hpn).1 (List.mem_of_getElem? h6)
      · rename_i b hb
        obtain ⟨h1, -⟩ := least_some hb
        obtain ⟨hbr, -⟩ := List.mem_filter.1 h1
        have h2 : lineL es n (rem.filter fun x => decide (x ≠ b)) = none := by
          simpa using h
        have hlt := filter_ne_length hbr
        refine lineL_none es n (hn.filter _) (by omega) h2 (hp.filter _) ?_
        intro e he h3 h4
        obtain ⟨h5, h6⟩ := List.mem_filter.1 h3
        obtain ⟨h7, h8⟩ := List.mem_filter.1 h4
        exact (hall e he h5 h7).filter _ h6 h8

/-- All that did anything, once each. -/
def tstep (r : List Int) (o : Op1) : List Int := if o.tx ∈ r then r else r ++ [o.tx]
def txsOf (l : List Op1) : List Int := l.foldl tstep []
theorem txsOf_snoc (l : List Op1) (o : Op1) : txsOf (l ++ [o]) = tstep (txsOf l) o := by simp [txsOf]
theorem snoc_induct {α : Type} {P : List α → Prop} (h0 : P []) (h1 : ∀ l o, P l → P (l ++ [o])) (l : List α) : P l := by
  have : ∀ l : List α, P l.reverse := by
    intro l
    induction l with
    | nil => simpa using h0
    | cons o l ih => simpa using h1 _ o ih
  simpa using this l.reverse
theorem txsOf_mem (l : List Op1) (x : Int) : x ∈ txsOf l ↔ ∃ o ∈ l, o.tx = x := by
  induction l using snoc_induct with
  | h0 => simp [txsOf]
  | h1 l o ih =>
    rw [txsOf_snoc]
    unfold tstep
    split
    · rename_i h
      rw [ih]
      constructor
      · rintro ⟨o', h1, h2⟩; exact ⟨o', by simp [h1], h2⟩
      · rintro ⟨o', h1, h2⟩
        rcases List.mem_append.1 h1 with h1 | h1
        · exact ⟨o', h1, h2⟩
        · simp at h1; subst h1; exact ih.1 (h2 ▸ h)
    · rw [List.mem_append, ih]
      constructor
      · rintro (⟨o', h1, h2⟩ | h)
        · exact ⟨o', by simp [h1], h2⟩
        · simp at h; exact ⟨o, by simp, h.symm⟩
      · rintro ⟨o', h1, h2⟩
        rcases List.mem_append.1 h1 with h1 | h1
        · exact .inl ⟨o', h1, h2⟩
        · simp at h1; subst h1; exact .inr (by simp [h2])
theorem txsOf_nodup (l : List Op1) : (txsOf l).Nodup := by
  induction l using snoc_induct with
  | h0 => simp [txsOf]
  | h1 l o ih =>
    rw [txsOf_snoc]
    unfold tstep
    split
    · exact ih
    · rename_i h
      rw [List.nodup_append]
      exact ⟨ih, by simp, fun a ha b hb e => by simp at hb; subst hb; subst e; exact h ha⟩
theorem txsOf_le (l : List Op1) : (txsOf l).length ≤ l.length := by
  induction l using snoc_induct with
  | h0 => simp [txsOf]
  | h1 l o ih =>
    rw [txsOf_snoc]
    unfold tstep
    split <;> simp <;> omega

/-- Where one stands, counted from one (0: nowhere). -/
def pstep (x : Int) (r : Int × Int) (y : Int) : Int × Int := (r.1 + 1, if y = x then r.1 + 1 else r.2)
def posN (p : List Int) (x : Int) : Int := (p.foldl (pstep x) (0, 0)).2
theorem pstep_fst (x : Int) : ∀ (p : List Int) (r : Int × Int), (p.foldl (pstep x) r).1 = r.1 + p.length
  | [], r => by simp
  | y :: p, r => by simp only [List.foldl_cons, pstep_fst x p, pstep, List.length_cons]; omega
theorem posN_snoc (p : List Int) (x y : Int) : posN (p ++ [y]) x = if y = x then (p.length : Int) + 1 else posN p x := by
  unfold posN
  rw [List.foldl_append]
  simp only [List.foldl_cons, List.foldl_nil, pstep, pstep_fst]
  split <;> simp
theorem posN_spec (p : List Int) (x : Int) : (x ∉ p ∧ posN p x = 0) ∨ ∃ i : Nat, p[i]? = some x ∧ posN p x = i + 1 := by
  induction p using snoc_induct with
  | h0 => left; simp [posN]
  | h1 p y ih =>
    rw [posN_snoc]
    by_cases e : y = x
    · right
      exact ⟨p.length, by simp [e], by simp [e]⟩
    · simp only [e, ↓reduceIte]
      rcases ih with ⟨h1, h2⟩ | ⟨i, h1, h2⟩
      · left
        exact ⟨by simp [h1]; exact fun h => e h.symm, h2⟩
      · right
        refine ⟨i, ?_, h2⟩
        rw [List.getElem?_append_left (List.getElem?_eq_some_iff.1 h1).1]
        exact h1
theorem nodup_ix {p : List Int} (hn : p.Nodup) {i j : Nat} {x : Int} (h1 : p[i]? = some x) (h2 : p[j]? = some x) : i = j := by
  obtain ⟨l1, e1⟩ := List.getElem?_eq_some_iff.1 h1
  obtain ⟨l2, e2⟩ := List.getElem?_eq_some_iff.1 h2
  rcases Nat.lt_trichotomy i j with h | h | h
  · exact absurd (e1.trans e2.symm) ((List.pairwise_iff_getElem.1 hn) i j l1 l2 h)
  · exact h
  · exact absurd (e2.trans e1.symm) ((List.pairwise_iff_getElem.1 hn) j i l2 l1 h)
def fitsE (p : List Int) (e : Int × Int) : Bool := !(decide (posN p e.1 = 0) || decide (posN p e.2 = 0) || decide (posN p e.2 ≤ posN p e.1))
def fitsB (es : List (Int × Int)) (p : List Int) : Bool := es.all (fitsE p)
theorem fitsE_iff {p : List Int} (hn : p.Nodup) (e : Int × Int) : fitsE p e = true ↔ Before p e.1 e.2 := by
  unfold fitsE
  rcases posN_spec p e.1 with ⟨h1, h2⟩ | ⟨i, h1, h2⟩
  · simp only [h2, decide_true, Bool.true_or, Bool.not_true, Bool.false_eq_true, false_iff]
    rintro ⟨i, j, h3, _, _⟩
    exact h1 (List.mem_of_getElem? h3)
  · rcases posN_spec p e.2 with ⟨h3, h4⟩ | ⟨j, h3, h4⟩
    · simp only [h4, decide_true, Bool.true_or, Bool.or_true, Bool.not_true, Bool.false_eq_true, false_iff]
      rintro ⟨i, j, _, h5, _⟩
      exact h3 (List.mem_of_getElem? h5)
    · rw [h2, h4]
      have a1 : decide ((i : Int) + 1 = 0) = false := by simp; omega
      have a2 : decide ((j : Int) + 1 = 0) = false := by simp; omega
      rw [a1, a2]
      simp only [Bool.false_or, Bool.not_eq_true', decide_eq_false_iff_not]
      constructor
      · intro h
        exact ⟨i, j, h1, h3, by omega⟩
      · rintro ⟨i', j', h5, h6, h7⟩
        have := nodup_ix hn h1 h5
        have := nodup_ix hn h3 h6
        omega
theorem fitsB_iff {p : List Int} (hn : p.Nodup) (es : List (Int × Int)) : fitsB es p = true ↔ ∀ e ∈ es, Before p e.1 e.2 := by
  unfold fitsB
  rw [List.all_eq_true]
  exact ⟨fun h e he => (fitsE_iff hn e).1 (h e he), fun h e he => (fitsE_iff hn e).2 (h e he)⟩

/-- The law: a line fits; and if there is none, no line at all does. -/
theorem fair_some {l : List Op1} {es : List (Int × Int)} {out : List Int} (he : EdgesOf l es) (hr : ∀ o ∈ l, lostRead l o = false)
    (h : lineL es (txsOf l).length (txsOf l) = some out) : out.Perm (txsOf l) ∧ out.Nodup ∧ fitsB es out = true := by
  obtain ⟨h1, h2⟩ := lineL_some es _ (txsOf_nodup l) h
  have hn : out.Nodup := h1.nodup_iff.2 (txsOf_nodup l)
  refine ⟨h1, hn, (fitsB_iff hn es).2 fun e hm => ?_⟩
  have hE := (he.2 e).1 hm
  obtain ⟨a, b⟩ := hE.txs hr
  exact h2 e hm ((txsOf_mem _ _).2 a) ((txsOf_mem _ _).2 b) hE.1
theorem fair_none {l : List Op1} {es : List (Int × Int)} {p : List Int} (h : lineL es (txsOf l).length (txsOf l) = none) (hp : p.Perm (txsOf l)) : fitsB es p = false := by
  cases hb : fitsB es p with
  | false => rfl
  | true =>
    have hn : p.Nodup := hp.nodup_iff.2 (txsOf_nodup l)
    exact (lineL_none es _ (txsOf_nodup l) (Nat.le_refl _) h hp fun e he _ _ => (fitsB_iff hn es).1 hb e he).elim

/-- All of 1 to 5 that did anything. -/
def allOf (l : List Op1) : Nat → List Int
  | 0 => []
  | n + 1 => allOf l n ++ if (∃ o ∈ l, o.tx = ((n + 1 : Nat) : Int)) then [((n + 1 : Nat) : Int)] else []
theorem allOf_mem (l : List Op1) : ∀ (n : Nat) (x : Int), x ∈ allOf l n ↔ (∃ o ∈ l, o.tx = x) ∧ 1 ≤ x ∧ x ≤ n
  | 0, x => by simp [allOf]; omega
  | n + 1, x => by
    simp only [allOf, List.mem_append, allOf_mem l n]
    split
    · rename_i h
      constructor
      · rintro (⟨h1, h2, h3⟩ | h1)
        · exact ⟨h1, h2, by omega⟩
        · rw [List.mem_singleton] at h1; subst h1; exact ⟨h, by omega, by omega⟩
      · rintro ⟨h1, h2, h3⟩
        by_cases e : x = ((n + 1 : Nat) : Int)
        · exact .inr (by simp [e])
        · exact .inl ⟨h1, h2, by omega⟩
    · rename_i h
      constructor
      · rintro (⟨h1, h2, h3⟩ | h1)
        · exact ⟨h1, h2, by omega⟩
        · simp at h1
      · rintro ⟨h1, h2, h3⟩
        by_cases e : x = ((n + 1 : Nat) : Int)
        · exact (h (e ▸ h1)).elim
        · exact .inl ⟨h1, h2, by omega⟩
theorem allOf_nodup (l : List Op1) : ∀ n : Nat, (allOf l n).Nodup
  | 0 => by simp [allOf]
  | n + 1 => by
    simp only [allOf]
    rw [List.nodup_append]
    refine ⟨allOf_nodup l n, by split <;> simp, fun a ha b hb e => ?_⟩
    have := (allOf_mem l n a).1 ha
    split at hb
    · simp at hb; omega
    · simp at hb
theorem perm_of_nodup : ∀ {a b : List Int}, a.Nodup → b.Nodup → (∀ x, x ∈ a ↔ x ∈ b) → a.Perm b := fun ha hb h => (List.perm_ext_iff_of_nodup ha hb).2 h
theorem allOf_perm {l : List Op1} {n : Nat} (h : ∀ o ∈ l, 1 ≤ o.tx ∧ o.tx ≤ n) : (allOf l n).Perm (txsOf l) :=
  perm_of_nodup (allOf_nodup l n) (txsOf_nodup l) fun x => by
    rw [allOf_mem, txsOf_mem]
    exact ⟨fun h => h.1, fun ⟨o, ho, e⟩ => ⟨⟨o, ho, e⟩, e ▸ (h o ho).1, e ▸ (h o ho).2⟩⟩
end Go.Proofs.YthdiphfbjlooaaaDoor
