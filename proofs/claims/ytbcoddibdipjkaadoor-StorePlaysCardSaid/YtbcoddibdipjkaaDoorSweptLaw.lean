/- Sweeping is not seen: the plain law, on lists of versions. No walk in sight. -/
import Derived.Test.YtbcoddibdipjkaaDoorStoreR
namespace Go.Proofs.YtbcoddibdipjkaaDoor
open Go Go.RowKit Go.Sep

theorem lastLe_spec (at_ : Int) : ∀ (l : Vers) (i : Nat) (r : Int), (lastLe at_ i r l = r ∧ ∀ p ∈ l, at_ < p.1) ∨
    ∃ (j : Nat) (p : Int × Int), lastLe at_ i r l = i + j ∧ l[j]? = some p ∧ p.1 ≤ at_ ∧ ∀ j' q, j < j' → l[j']? = some q → at_ < q.1
  | [], i, r => .inl ⟨rfl, by simp⟩
  | p :: l, i, r => by
    by_cases hp : p.1 ≤ at_
    · rcases lastLe_spec at_ l (i + 1) i with ⟨h1, h2⟩ | ⟨j, q, h1, h2, h3, h4⟩
      · refine .inr ⟨0, p, by simp [lastLe, hp, h1], rfl, hp, fun j' q hj hq => ?_⟩
        cases j' with
        | zero => omega
        | succ j' => exact h2 q (List.mem_of_getElem? (by simpa using hq))
      · refine .inr ⟨j + 1, q, by simp [lastLe, hp, h1]; omega, by simpa using h2, h3, fun j' q' hj hq => ?_⟩
        cases j' with
        | zero => omega
        | succ j' => exact h4 j' q' (by omega) (by simpa using hq)
    · rcases lastLe_spec at_ l (i + 1) r with ⟨h1, h2⟩ | ⟨j, q, h1, h2, h3, h4⟩
      · refine .inl ⟨by simp [lastLe, hp, h1], fun q hq => ?_⟩
        cases hq with
        | head => omega
        | tail _ hq => exact h2 q hq
      · refine .inr ⟨j + 1, q, by simp [lastLe, hp, h1]; omega, by simpa using h2, h3, fun j' q' hj hq => ?_⟩
        cases j' with
        | zero => omega
        | succ j' => exact h4 j' q' (by omega) (by simpa using hq)
/-- What Sweep does, in words. -/
theorem sweptN_spec (at_ : Int) (vs : Vers) : (sweptN at_ vs = 0 ∨ ∃ p, vs[sweptN at_ vs]? = some p ∧ p.1 ≤ at_) ∧ (∀ j q, sweptN at_ vs < j → vs[j]? = some q → at_ < q.1) ∧ sweptN at_ vs ≤ vs.length ∧ swept at_ vs = vs.drop (sweptN at_ vs) := by
  refine ⟨?_, ?_, ?_, rfl⟩
  all_goals
    unfold sweptN
    rcases lastLe_spec at_ vs 0 (-1) with ⟨h1, h2⟩ | ⟨j, q, h1, h2, h3, h4⟩
  · left; rw [h1]; rfl
  · right; rw [h1]; simp only [Int.natCast_zero, Int.zero_add, Int.toNat_natCast]; exact ⟨q, h2, h3⟩
  · intro j q _ hq; exact h2 q (List.mem_of_getElem? hq)
  · intro j' q' hj hq; rw [h1] at hj; exact h4 j' q' (by simpa using hj) hq
  · rw [h1]; simp
  · rw [h1]; have := (List.getElem?_eq_some_iff.1 h2).1; simp; omega
theorem sweptN_twice (at_ : Int) (vs : Vers) : sweptN at_ (swept at_ vs) = 0 := by
  obtain ⟨h1, h2, h3, h4⟩ := sweptN_spec at_ vs
  obtain ⟨k1, k2, k3, k4⟩ := sweptN_spec at_ (swept at_ vs)
  rcases k1 with k1 | ⟨p, hp, hle⟩
  · exact k1
  · rcases Nat.eq_zero_or_pos (sweptN at_ (swept at_ vs)) with h0 | h0
    · exact h0
    · generalize sweptN at_ (swept at_ vs) = n at hp h0
      rw [h4, List.getElem?_drop] at hp
      have := h2 _ p (by omega) hp
      omega

/-- What has not been swept, and what has: only what nobody sees as of 'at_' is dropped. -/
def Rel (at_ : Int) (a b : Vers) : Prop := ∃ m, b = a.drop m ∧ (m = 0 ∨ ∃ p, a[m]? = some p ∧ p.1 ≤ at_) ∧ a.Pairwise (fun p q => p.1 ≤ q.1)
theorem Rel.nil (at_ : Int) : Rel at_ [] [] := ⟨0, rfl, .inl rfl, by simp⟩
theorem Rel.sweep {at_ at' : Int} {a b : Vers} (h : Rel at_ a b) (hle : at' ≤ at_) : Rel at_ a (swept at' b) := by
  obtain ⟨m, rfl, hm, hs⟩ := h
  obtain ⟨h1, h2, h3, h4⟩ := sweptN_spec at' (a.drop m)
  refine ⟨m + sweptN at' (a.drop m), by rw [h4, List.drop_drop], ?_, hs⟩
  rcases h1 with h1 | ⟨p, hp, hp'⟩
  · rw [h1, Nat.add_zero]; exact hm
  · right; exact ⟨p, by rw [List.getElem?_drop] at hp; exact hp, by omega⟩
/-- One write of one key. -/
def puts (at_ : Int) (vs : Vers) (v : Int) : Vers := if (vs.getLast?.map (·.1)) = some at_ then vs.dropLast ++ [(at_, v)] else vs ++ [(at_, v)]
theorem puts_le {t : Int} {vs : Vers} {v : Int} (h : ∀ p ∈ vs, p.1 ≤ t) : ∀ p ∈ puts t vs v, p.1 ≤ t := by
  unfold puts
  intro p hp
  split at hp
  · rcases List.mem_append.1 hp with hp | hp
    · exact h p (List.dropLast_subset _ hp)
    · simp at hp; subst hp; exact Int.le_refl _
  · rcases List.mem_append.1 hp with hp | hp
    · exact h p hp
    · simp at hp; subst hp; exact Int.le_refl _
theorem Rel.puts {at_ t : Int} {a b : Vers} (v : Int) (h : Rel at_ a b) (ht : ∀ p ∈ a, p.1 ≤ t) : Rel at_ (puts t a v) (puts t b v) := by
  obtain ⟨m, rfl, hm, hs⟩ := h
  have hmle : m = 0 ∨ m < a.length := hm.imp id fun ⟨p, hp, _⟩ => (List.getElem?_eq_some_iff.1 hp).1
  have hlast : (a.drop m).getLast? = a.getLast? := by
    rcases hmle with rfl | h
    · rfl
    · rw [List.getLast?_drop, if_neg (by omega)]
  unfold Proofs.YtbcoddibdipjkaaDoor.puts
  rw [hlast]
  by_cases hl : (a.getLast?.map (·.1)) = some t
  · rw [if_pos hl, if_pos hl]
    have hne : a ≠ [] := by intro e; rw [e] at hl; simp at hl
    have hml : m ≤ a.length - 1 := by have := List.length_pos_iff.2 hne; omega
    refine ⟨m, ?_, ?_, ?_⟩
    · rw [List.drop_append_of_le_length (by simpa using hml), List.dropLast_eq_take, List.dropLast_eq_take, List.length_drop, List.drop_take]
      congr 2; omega
    · rcases hm with rfl | ⟨p, hp, hle⟩
      · exact .inl rfl
      · right
        have hlt := (List.getElem?_eq_some_iff.1 hp).1
        rcases Nat.lt_or_ge m (a.length - 1) with hx | hx
        · exact ⟨p, by rw [List.getElem?_append_left (by simpa using hx), List.getElem?_dropLast, if_pos (by omega)]; exact hp, hle⟩
        · have hme : m = a.length - 1 := by omega
          refine ⟨(t, v), by rw [List.getElem?_append_right (by simp; omega), hme]; simp, ?_⟩
          have : a.getLast? = some p := by rw [List.getLast?_eq_getElem?, ← hme]; exact hp
          rw [this] at hl; simp at hl; simp only; omega
    · rw [List.pairwise_append]
      refine ⟨hs.sublist (List.dropLast_sublist _), by simp, ?_⟩
      intro p hp q hq; simp at hq; subst hq; exact ht p (List.dropLast_subset _ hp)
  · rw [if_neg hl, if_neg hl]
    refine ⟨m, ?_, ?_, ?_⟩
    · rcases hmle with rfl | h
      · rfl
      · rw [List.drop_append_of_le_length (by omega)]
    · rcases hm with rfl | ⟨p, hp, hle⟩
      · exact .inl rfl
      · right; exact ⟨p, by rw [List.getElem?_append_left (List.getElem?_eq_some_iff.1 hp).1]; exact hp, hle⟩
    · rw [List.pairwise_append]
      refine ⟨hs, by simp, ?_⟩
      intro p hp q hq; simp at hq; subst hq; exact ht p hp
theorem Rel.early {at_ see : Int} {a : Vers} {m : Nat} (hm : m = 0 ∨ ∃ p, a[m]? = some p ∧ p.1 ≤ at_) (hs : a.Pairwise (fun p q => p.1 ≤ q.1)) (hle : at_ ≤ see) : ∀ p ∈ a.take m, p.1 ≤ see := by
  rcases hm with rfl | ⟨q, hq, hq'⟩
  · simp
  · intro p hp
    obtain ⟨hm, hqe⟩ := List.getElem?_eq_some_iff.1 hq
    have : a = a.take m ++ a.drop m := (List.take_append_drop m a).symm
    rw [this, List.pairwise_append] at hs
    have := hs.2.2 p hp q (by rw [← hqe, List.drop_eq_getElem_cons hm]; exact List.mem_cons_self)
    omega
theorem Rel.newer {at_ see : Int} {a b : Vers} (h : Rel at_ a b) (hle : at_ ≤ see) : newerL a see = newerL b see := by
  obtain ⟨m, rfl, hm, hs⟩ := h
  have he := Rel.early hm hs hle
  unfold newerL
  conv => lhs; rw [← List.take_append_drop m a, List.filter_append]
  rw [List.filter_eq_nil_iff.2 (fun p hp => by have := he p hp; simp; omega), List.nil_append]
theorem Rel.read {at_ see : Int} {a b : Vers} (h : Rel at_ a b) (hle : at_ ≤ see) : readV a see = readV b see := by
  obtain ⟨m, rfl, hm, hs⟩ := h
  unfold readV
  conv => lhs; rw [← List.take_append_drop m a, List.reverse_append, List.find?_append]
  rcases hm with rfl | ⟨q, hq, hq'⟩
  · simp
  · obtain ⟨hm, hqe⟩ := List.getElem?_eq_some_iff.1 hq
    have : ((a.drop m).reverse.find? fun p => decide (p.1 ≤ see)).isSome := by
      rw [List.find?_isSome]
      exact ⟨q, by rw [List.mem_reverse, ← hqe, List.drop_eq_getElem_cons hm]; exact List.mem_cons_self, by simp; omega⟩
    obtain ⟨x, hx⟩ := Option.isSome_iff_exists.1 this
    rw [hx]; rfl

/-- Two stores, key by key. -/
def RelV (at_ last : Int) (A B : List Vers) : Prop := A.length = B.length ∧ ∀ (k : Nat) (a b : Vers), A[k]? = some a → B[k]? = some b → Rel at_ a b ∧ ∀ p ∈ a, p.1 ≤ last
theorem RelV.start (at_ : Int) : RelV at_ 0 (List.replicate 10 []) (List.replicate 10 []) := by
  refine ⟨rfl, fun k a b ha hb => ?_⟩
  have h1 := List.eq_of_mem_replicate (List.mem_of_getElem? ha)
  have h2 := List.eq_of_mem_replicate (List.mem_of_getElem? hb)
  subst h1; subst h2
  exact ⟨Rel.nil _, by simp⟩
theorem RelV.sweep {at_ at' last : Int} {A B : List Vers} (h : RelV at_ last A B) (hle : at' ≤ at_) : RelV at_ last A (B.map (swept at')) := by
  refine ⟨by simpa using h.1, fun k a b ha hb => ?_⟩
  rw [List.getElem?_map, Option.map_eq_some_iff] at hb
  obtain ⟨b', hb', rfl⟩ := hb
  exact ⟨(h.2 k a b' ha hb').1.sweep hle, (h.2 k a b' ha hb').2⟩
theorem RelV.put1 {at_ last t : Int} {A B : List Vers} (h : RelV at_ last A B) (hlt : last ≤ t) (p : Int × Int) : RelV at_ t (put1 t A p) (put1 t B p) := by
  refine ⟨by simp [Go.Sep.put1, h.1], fun k a b ha hb => ?_⟩
  unfold Go.Sep.put1 at ha hb
  rw [List.getElem?_set] at ha hb
  by_cases hk : p.1.toNat = k
  · rw [if_pos hk] at ha hb
    split at ha <;> simp at ha
    rename_i hkl
    rw [if_pos (by rw [← h.1]; exact hkl)] at hb
    simp at hb
    have hA : A[p.1.toNat]? = some A[p.1.toNat] := by simp
    have hB : B[p.1.toNat]? = some (B[p.1.toNat]'(by rw [← h.1]; exact hkl)) := by simp
    obtain ⟨r1, r2⟩ := h.2 _ _ _ hA hB
    rw [hA, Option.getD_some] at ha
    rw [hB, Option.getD_some] at hb
    have r2' : ∀ q ∈ A[p.1.toNat], q.1 ≤ t := fun q hq => Int.le_trans (r2 q hq) hlt
    rw [← ha, ← hb]
    exact ⟨r1.puts p.2 r2', puts_le r2'⟩
  · rw [if_neg hk] at ha hb
    exact ⟨(h.2 k a b ha hb).1, fun q hq => Int.le_trans ((h.2 k a b ha hb).2 q hq) hlt⟩
theorem RelV.putAll {at_ t : Int} (l : Vers) : ∀ {last : Int} {A B : List Vers}, RelV at_ last A B → last ≤ t → RelV at_ t (putAll t A l) (putAll t B l) := by
  induction l with
  | nil => intro last A B h hlt; exact ⟨h.1, fun k a b ha hb => ⟨(h.2 k a b ha hb).1, fun q hq => Int.le_trans ((h.2 k a b ha hb).2 q hq) hlt⟩⟩
  | cons p l ih => intro last A B h hlt; exact ih (h.put1 hlt p) (Int.le_refl _)
theorem many_swept (at_ : Int) (V : List Vers) : manyV (V.map (swept at_)) + (V.map (sweptN at_)).sum = manyV V := by
  unfold manyV
  induction V with
  | nil => rfl
  | cons v V ih =>
    obtain ⟨_, _, h3, h4⟩ := sweptN_spec at_ v
    simp only [List.map_cons, List.sum_cons]
    have : (swept at_ v).length + sweptN at_ v = v.length := by rw [h4, List.length_drop]; omega
    omega
theorem swept_twice (at_ : Int) (V : List Vers) : ((V.map (swept at_)).map (sweptN at_)).sum = 0 := by
  induction V with
  | nil => rfl
  | cons v V ih => simp only [List.map_cons, List.sum_cons, sweptN_twice, Nat.zero_add]; exact ih
end Go.Proofs.YtbcoddibdipjkaaDoor
