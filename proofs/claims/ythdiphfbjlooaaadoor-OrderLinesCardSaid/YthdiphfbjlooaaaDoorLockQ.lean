/- Tables of locks as queues: of each key who holds it, and behind that one who waits, in line. No program in sight. -/
import Derived.Test.YthdiphfbjlooaaaDoorLockP
namespace Go.Sep
open Go Go.RowKit

/-- The table 't' has the queues 'Q'. -/
structure TabR (t : Tbl) (Q : Int → List Int) : Prop where
  hold : ∀ k, mget t.hold k = (Q k).head?
  line : ∀ k, (mget t.line k).getD [] = (Q k).tail
  wait : ∀ x k, mget t.wait x = some k ↔ x ∈ (Q k).tail
  nod : ∀ k, (Q k).Nodup

theorem TabR.start : TabR ⟨[], [], []⟩ (fun _ => []) := ⟨fun _ => rfl, fun _ => rfl, fun x k => by simp [mget_nil], fun _ => List.nodup_nil⟩
variable {t : Tbl} {Q : Int → List Int}
theorem TabR.one (h : TabR t Q) {x k k' : Int} (h1 : x ∈ (Q k).tail) (h2 : x ∈ (Q k').tail) : k = k' := by
  have e1 := (h.wait x k).2 h1
  have e2 := (h.wait x k').2 h2
  rw [e1] at e2; exact Option.some.inj e2
theorem TabR.none_wait (h : TabR t Q) {x : Int} : mget t.wait x = none ↔ ∀ k, x ∉ (Q k).tail := by
  constructor
  · intro e k hk; rw [(h.wait x k).2 hk] at e; cases e
  · intro hn
    cases hw : mget t.wait x with
    | none => rfl
    | some k => exact absurd ((h.wait x k).1 hw) (hn k)

def lineAt (t : Tbl) (k : Int) : List Int := (mget t.line k).getD []
def strike (l : List Int) (tx : Int) : List Int := l.filter fun x => !(x == tx)
theorem strike_mem {l : List Int} {x tx : Int} : x ∈ strike l tx ↔ x ∈ l ∧ x ≠ tx := by simp [strike]
theorem strike_none {l : List Int} {tx : Int} (h : ∀ x ∈ l, x ≠ tx) : strike l tx = l := by
  unfold strike; rw [List.filter_eq_self]; intro x hx; simp [h x hx]
theorem strike_snoc (l : List Int) (p tx : Int) : strike (l ++ [p]) tx = if p = tx then strike l tx else strike l tx ++ [p] := by
  unfold strike; rw [List.filter_append]; by_cases h : p = tx <;> simp [h]
theorem strike_cons (l : List Int) (p tx : Int) : strike (p :: l) tx = if p = tx then strike l tx else p :: strike l tx := by
  unfold strike; rw [List.filter_cons]; by_cases h : p = tx <;> simp [h]
theorem strike_le (l : List Int) (tx : Int) : (strike l tx).length ≤ l.length := List.length_filter_le _ _

/-- Who waits leaves its line. -/
def strikeT (t : Tbl) (tx : Int) : Tbl := match mget t.wait tx with
  | none => t
  | some k => { t with wait := mdel t.wait tx, line := mput t.line k (strike (lineAt t k) tx) }
def strikeQ (Q : Int → List Int) (tx k : Int) : List Int := match Q k with | [] => [] | h :: l => h :: strike l tx
theorem strikeQ_tail (Q : Int → List Int) (tx k : Int) : (strikeQ Q tx k).tail = strike (Q k).tail tx := by unfold strikeQ; cases Q k <;> rfl
theorem strikeQ_head (Q : Int → List Int) (tx k : Int) : (strikeQ Q tx k).head? = (Q k).head? := by unfold strikeQ; cases Q k <;> rfl
theorem TabR.struck (h : TabR t Q) (tx : Int) : TabR (strikeT t tx) (strikeQ Q tx) := by
  have hnod : ∀ k, (strikeQ Q tx k).Nodup := by
    intro k
    have := h.nod k
    unfold strikeQ
    cases hq : Q k with
    | nil => simp
    | cons a l =>
      rw [hq, List.nodup_cons] at this
      rw [List.nodup_cons]
      exact ⟨fun hm => this.1 (strike_mem.1 hm).1, this.2.sublist List.filter_sublist⟩
  unfold strikeT
  cases hw : mget t.wait tx with
  | none =>
    have hn := h.none_wait.1 hw
    have hs : ∀ k, strikeQ Q tx k = Q k := by
      intro k
      unfold strikeQ
      have := hn k
      cases hq : Q k with
      | nil => rfl
      | cons a l =>
        rw [hq] at this
        simp only [List.tail_cons] at this
        simp only
        rw [strike_none]
        intro x hx e; subst e; exact this hx
    exact ⟨fun k => by rw [hs]; exact h.hold k, fun k => by rw [hs]; exact h.line k, fun x k => by rw [hs]; exact h.wait x k, fun k => by rw [hs]; exact h.nod k⟩
  | some k0 =>
    have hk0 := (h.wait tx k0).1 hw
    refine ⟨fun k => by rw [strikeQ_head]; exact h.hold k, fun k => ?_, fun x k => ?_, hnod⟩
    · rw [strikeQ_tail]
      show (mget (mput t.line k0 _) k).getD [] = _
      rw [mget_put]
      by_cases e : k = k0
      · subst e; rw [if_pos rfl, ← h.line k]; rfl
      · rw [if_neg e, h.line k]
        rw [strike_none]
        intro x hx ex; subst ex; exact e (h.one hx hk0)
    · rw [strikeQ_tail, strike_mem]
      show mget (mdel t.wait tx) x = some k ↔ _
      rw [mget_del]
      by_cases e : x = tx
      · simp [e]
      · rw [if_neg e, h.wait x k]; simp [e]

/-- One key goes to who comes next. -/
def dropStep (s : Tbl × List (Int × Int)) (k : Int) : Tbl × List (Int × Int) := match lineAt s.1 k with
  | [] => ({ s.1 with hold := mdel s.1.hold k }, s.2)
  | x :: l => ({ hold := mput s.1.hold k x, line := mput s.1.line k l, wait := mdel s.1.wait x }, s.2 ++ [(k, x)])
def holders (t : Tbl) (tx : Int) : List Int := (t.hold.filter fun p => decide (p.2 = tx)).map (·.1)
def sortI (l : List Int) : List Int := l.mergeSort (fun a b => decide (a ≤ b))
def tbDrop (t : Tbl) (tx : Int) : Tbl × List (Int × Int) := (sortI (holders (strikeT t tx) tx)).foldl dropStep (strikeT t tx, [])

theorem sortI_perm (l : List Int) : (sortI l).Perm l := List.mergeSort_perm _ _
theorem sortI_sorted (l : List Int) : (sortI l).Pairwise (· ≤ ·) := by
  have := List.pairwise_mergeSort (le := fun a b : Int => decide (a ≤ b)) (fun a b c h1 h2 => by simp at *; omega) (fun a b => by simp; omega) l
  exact this.imp (fun h => by simpa using h)
theorem sorted_unique : ∀ {l m : List Int}, l.Perm m → l.Pairwise (· ≤ ·) → m.Pairwise (· ≤ ·) → l = m
  | [], m, hp, _, _ => (hp.nil_eq)
  | a :: l, [], hp, _, _ => by simp at hp
  | a :: l, b :: m, hp, h1, h2 => by
    have hab : a = b := by
      rw [List.pairwise_cons] at h1 h2
      have ha : a ∈ b :: m := hp.subset (by simp)
      have hb : b ∈ a :: l := hp.symm.subset (by simp)
      rcases List.mem_cons.1 ha with e | ha
      · exact e
      rcases List.mem_cons.1 hb with e | hb
      · exact e.symm
      have := h1.1 b hb
      have := h2.1 a ha
      omega
    subst hab
    rw [sorted_unique (hp.cons_inv) (List.pairwise_cons.1 h1).2 (List.pairwise_cons.1 h2).2]
theorem sortI_of {l m : List Int} (hp : l.Perm m) (hs : l.Pairwise (· ≤ ·)) : l = sortI m := sorted_unique (hp.trans (sortI_perm m).symm) hs (sortI_sorted m)
theorem sortI_mem {l : List Int} {x : Int} : x ∈ sortI l ↔ x ∈ l := (sortI_perm l).mem_iff
theorem sortI_len (l : List Int) : (sortI l).length = l.length := (sortI_perm l).length_eq

def firstL (k : Int) : List Int → List (Int × Int)
  | [] => []
  | x :: _ => [(k, x)]
def updQ (Q : Int → List Int) (k : Int) (l : List Int) : Int → List Int := fun j => if j = k then l else Q j
theorem TabR.step (h : TabR t Q) {k tx : Int} {l : List Int} (hq : Q k = tx :: l) (out : List (Int × Int)) :
    TabR (dropStep (t, out) k).1 (updQ Q k l) ∧ (dropStep (t, out) k).2 = out ++ firstL k l := by
  have hl : lineAt t k = l := by unfold lineAt; rw [h.line k, hq]; rfl
  have hnd := h.nod k
  rw [hq, List.nodup_cons] at hnd
  unfold dropStep
  simp only [hl]
  cases l with
  | nil =>
    refine ⟨⟨fun j => ?_, fun j => ?_, fun x j => ?_, fun j => ?_⟩, by simp [firstL]⟩
    · show mget (mdel t.hold k) j = _
      rw [mget_del]; unfold updQ
      by_cases e : j = k
      · simp [e]
      · rw [if_neg e, if_neg e]; exact h.hold j
    · show (mget t.line j).getD [] = _
      unfold updQ
      by_cases e : j = k
      · subst e; rw [if_pos rfl]; exact hl
      · rw [if_neg e]; exact h.line j
    · show mget t.wait x = some j ↔ _
      unfold updQ
      by_cases e : j = k
      · subst e; rw [if_pos rfl, h.wait x j, hq]; simp
      · rw [if_neg e]; exact h.wait x j
    · unfold updQ
      by_cases e : j = k
      · simp [e]
      · rw [if_neg e]; exact h.nod j
  | cons x l =>
    rw [List.nodup_cons] at hnd
    have hx : x ∈ (Q k).tail := by rw [hq]; simp
    refine ⟨⟨fun j => ?_, fun j => ?_, fun y j => ?_, fun j => ?_⟩, rfl⟩
    · show mget (mput t.hold k x) j = _
      rw [mget_put]; unfold updQ
      by_cases e : j = k
      · simp [e]
      · rw [if_neg e, if_neg e]; exact h.hold j
    · show (mget (mput t.line k l) j).getD [] = _
      rw [mget_put]; unfold updQ
      by_cases e : j = k
      · simp [e]
      · rw [if_neg e, if_neg e]; exact h.line j
    · show mget (mdel t.wait x) y = some j ↔ _
      rw [mget_del]; unfold updQ
      by_cases ey : y = x
      · subst ey
        rw [if_pos rfl]
        by_cases e : j = k
        · subst e; rw [if_pos rfl]; simp [hnd.2.1]
        · rw [if_neg e]
          simp only [reduceCtorEq, false_iff]
          intro hy; exact e (h.one hy hx)
      · rw [if_neg ey]
        by_cases e : j = k
        · subst e; rw [if_pos rfl, h.wait y j, hq]; simp [ey]
        · rw [if_neg e]; exact h.wait y j
    · unfold updQ
      by_cases e : j = k
      · subst e; rw [if_pos rfl, List.nodup_cons]; exact hnd.2
      · rw [if_neg e]; exact h.nod j

/-- Who has which key now: those that come next. -/
def nexts (Q : Int → List Int) (ks : List Int) : List (Int × Int) := ks.flatMap fun k => firstL k (Q k).tail
theorem TabR.steps {tx : Int} : ∀ (ks : List Int) {t : Tbl} {Q : Int → List Int} (out : List (Int × Int)), TabR t Q → ks.Nodup → (∀ k ∈ ks, (Q k).head? = some tx) →
    TabR (ks.foldl dropStep (t, out)).1 (fun j => if j ∈ ks then (Q j).tail else Q j) ∧ (ks.foldl dropStep (t, out)).2 = out ++ nexts Q ks
  | [], t, Q, out, h, _, _ => by simpa [nexts] using h
  | k :: ks, t, Q, out, h, hn, hk => by
    obtain ⟨l, hq⟩ : ∃ l, Q k = tx :: l := by
      have := hk k (by simp)
      cases hQ : Q k with
      | nil => rw [hQ] at this; simp at this
      | cons a l => rw [hQ] at this; simp at this; exact ⟨l, by rw [this]⟩
    obtain ⟨h1, h2⟩ := h.step hq out
    rw [List.nodup_cons] at hn
    have hne : ∀ j ∈ ks, j ≠ k := fun j hj e => hn.1 (by rw [← e]; exact hj)
    obtain ⟨h3, h4⟩ := TabR.steps ks (dropStep (t, out) k).2 h1 hn.2 (fun j hj => by unfold updQ; rw [if_neg (hne j hj)]; exact hk j (by simp [hj]))
    have e1 : ((dropStep (t, out) k).1, (dropStep (t, out) k).2) = dropStep (t, out) k := rfl
    rw [e1] at h3 h4
    refine ⟨?_, ?_⟩
    · rw [List.foldl_cons]
      have e2 : (fun j => if j ∈ ks then (updQ Q k l j).tail else updQ Q k l j) = fun j => if j ∈ k :: ks then (Q j).tail else Q j := by
        funext j
        unfold updQ
        by_cases e : j = k
        · subst e; simp [hn.1, hq]
        · simp [e]
      rw [← e2]; exact h3
    · rw [List.foldl_cons, h4, h2, List.append_assoc]
      congr 1
      unfold nexts
      rw [List.flatMap_cons, hq]
      congr 1
      unfold List.flatMap
      congr 1
      apply List.map_congr_left
      intro j hj
      unfold updQ
      rw [if_neg (hne j hj)]

theorem holders_mem {tx k : Int} (hn : (t.hold.map (·.1)).Nodup) : k ∈ holders t tx ↔ mget t.hold k = some tx := by
  unfold holders
  simp only [List.mem_map, List.mem_filter, decide_eq_true_eq]
  constructor
  · rintro ⟨⟨a, b⟩, ⟨h1, h2⟩, rfl⟩
    simp only at h2
    subst h2
    exact mget_mem hn h1
  · intro h; exact ⟨(k, tx), ⟨mget_some h, rfl⟩, rfl⟩
theorem holders_nodup {tx : Int} (hn : (t.hold.map (·.1)).Nodup) : (holders t tx).Nodup := hn.sublist (List.Sublist.map _ List.filter_sublist)
theorem strikeT_hold (t : Tbl) (tx : Int) : (strikeT t tx).hold = t.hold := by unfold strikeT; cases mget t.wait tx <;> rfl
theorem strikeQ_at (Q : Int → List Int) (tx k : Int) : (if (Q k).head? = some tx then (strikeQ Q tx k).tail else strikeQ Q tx k) = strike (Q k) tx := by
  unfold strikeQ
  cases hq : Q k with
  | nil => simp [strike]
  | cons a l =>
    rw [strike_cons]
    by_cases e : a = tx
    · subst e; simp
    · simp [e]
/-- What becomes of the queues when one lets go. -/
theorem TabR.dropped (h : TabR t Q) (hn : (t.hold.map (·.1)).Nodup) (tx : Int) : TabR (tbDrop t tx).1 (fun k => strike (Q k) tx) ∧
    (tbDrop t tx).2 = nexts (strikeQ Q tx) (sortI (holders t tx)) := by
  have h1 := h.struck tx
  have hn1 : ((strikeT t tx).hold.map (·.1)).Nodup := by rw [strikeT_hold]; exact hn
  have hmem : ∀ k, k ∈ sortI (holders (strikeT t tx) tx) ↔ (Q k).head? = some tx := by
    intro k; rw [sortI_mem, holders_mem hn1, strikeT_hold, h.hold k]
  have hnd : (sortI (holders (strikeT t tx) tx)).Nodup := (sortI_perm _).nodup_iff.2 (holders_nodup hn1)
  obtain ⟨h2, h3⟩ := TabR.steps (tx := tx) (sortI (holders (strikeT t tx) tx)) [] h1 hnd (fun k hk => by rw [strikeQ_head]; exact (hmem k).1 hk)
  have e : (fun j => if j ∈ sortI (holders (strikeT t tx) tx) then (strikeQ Q tx j).tail else strikeQ Q tx j) = fun k => strike (Q k) tx := by
    funext j
    rw [← strikeQ_at Q tx j]
    by_cases hj : (Q j).head? = some tx
    · rw [if_pos ((hmem j).2 hj), if_pos hj]
    · rw [if_neg (fun x => hj ((hmem j).1 x)), if_neg hj]
  rw [e] at h2
  refine ⟨h2, ?_⟩
  have : holders (strikeT t tx) tx = holders t tx := by unfold holders; rw [strikeT_hold]
  rw [this] at h3
  show (List.foldl dropStep (strikeT t tx, []) (sortI (holders (strikeT t tx) tx))).2 = _
  rw [this, h3]; rfl
end Go.Sep
