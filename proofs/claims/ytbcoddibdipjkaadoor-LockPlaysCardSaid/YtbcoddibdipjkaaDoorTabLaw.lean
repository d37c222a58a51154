/- Who holds which key, and who waits, is the document's: the plain law of tables. No program in sight. -/
import Derived.Test.YtbcoddibdipjkaaDoorMovesLaw
namespace Go.Sep
open Go Go.RowKit

/-- The reference's table: of each key who holds it, and behind that one who waits. -/
def qf (Qs : List (List Int)) (k : Int) : List Int := if 0 ≤ k then (Qs[k.toNat]?).getD [] else []
structure SameT (t : Tbl) (Qs : List (List Int)) : Prop where
  len : Qs.length = 10
  tab : TabR t (qf Qs)
  rk : ∃ r, Rk (qf Qs) r
  pos : ∀ k, ∀ x ∈ qf Qs k, 1 ≤ x
variable {t : Tbl} {Qs : List (List Int)}

theorem qf_nat (Qs : List (List Int)) (k : Nat) : qf Qs k = (Qs[k]?).getD [] := by
  unfold qf; rw [if_pos (by omega)]; simp
theorem qf_in {Qs : List (List Int)} {k x : Int} (h : x ∈ qf Qs k) : 0 ≤ k ∧ k.toNat < Qs.length := by
  unfold qf at h
  split at h
  · refine ⟨by assumption, ?_⟩
    by_cases hl : k.toNat < Qs.length
    · exact hl
    · rw [List.getElem?_eq_none (by omega)] at h; simp at h
  · simp at h
theorem qf_out {Qs : List (List Int)} {k : Int} (h : ¬ (0 ≤ k ∧ k.toNat < Qs.length)) : qf Qs k = [] := by
  apply List.eq_nil_iff_forall_not_mem.2
  intro x hx; exact h (qf_in hx)
theorem qf_set {Qs : List (List Int)} {k : Nat} (hk : k < Qs.length) (l : List Int) : qf (Qs.set k l) = updQ (qf Qs) k l := by
  funext j
  simp only [qf, updQ]
  by_cases h0 : 0 ≤ j
  · rw [if_pos h0, if_pos h0, List.getElem?_set]
    by_cases e : j = (k : Int)
    · subst e
      simp [hk]
    · have : ¬ k = j.toNat := by omega
      rw [if_neg this, if_neg e]
  · have : ¬ j = (k : Int) := by omega
    rw [if_neg h0, if_neg this, if_neg h0]
theorem qf_map (Qs : List (List Int)) (tx : Int) : qf (Qs.map fun l => strike l tx) = fun k => strike (qf Qs k) tx := by
  funext j
  unfold qf
  by_cases h0 : 0 ≤ j
  · simp only [if_pos h0, List.getElem?_map]
    cases Qs[j.toNat]? <;> simp [strike]
  · simp only [if_neg h0]; simp [strike]

theorem SameT.start : SameT ⟨[], [], []⟩ (List.replicate 10 []) := by
  have e : qf (List.replicate 10 []) = fun _ => [] := by
    funext k
    unfold qf
    split
    · rw [List.getElem?_replicate]; split <;> rfl
    · rfl
  refine ⟨by simp, ?_, ⟨fun _ => 0, ?_⟩, ?_⟩
  · rw [e]; exact TabR.start
  · rw [e]; intro k x hx; simp at hx
  · rw [e]; intro k x hx; simp at hx

/-- Who holds a key (0: nobody). -/
def rholds (Qs : List (List Int)) (key : Int) : Int := (qf Qs key).headD 0
theorem SameT.holds (h : SameT t Qs) (key : Int) : (mget t.hold key).getD 0 = rholds Qs key := by
  rw [h.tab.hold]; unfold rholds; cases qf Qs key <;> rfl
/-- Which key one waits for (-1: none). -/
def waitsAt (tx : Int) (q : List Int) : Bool := decide (tx ∈ q.tail)
def rwaits (Qs : List (List Int)) (tx : Int) : Int := match Qs.findIdx? (waitsAt tx) with | some k => (k : Int) | none => -1
theorem SameT.waits (h : SameT t Qs) (tx : Int) : (mget t.wait tx).getD (-1) = rwaits Qs tx := by
  unfold rwaits
  cases hf : Qs.findIdx? (waitsAt tx) with
  | none =>
    rw [List.findIdx?_eq_none_iff] at hf
    have : mget t.wait tx = none := h.tab.none_wait.2 fun k hk => by
      have h0 := qf_in (List.mem_of_mem_tail hk)
      have h1 := hf Qs[k.toNat] (List.getElem_mem h0.2)
      unfold qf at hk
      rw [if_pos h0.1, List.getElem?_eq_getElem h0.2] at hk
      simp only [waitsAt, decide_eq_false_iff_not] at h1
      exact h1 hk
    rw [this]; rfl
  | some k =>
    rw [List.findIdx?_eq_some_iff_getElem] at hf
    obtain ⟨hk, h1, _⟩ := hf
    simp only [waitsAt, decide_eq_true_eq] at h1
    have : mget t.wait tx = some (k : Int) := (h.tab.wait tx k).2 (by rw [qf_nat, List.getElem?_eq_getElem hk]; exact h1)
    rw [this]; rfl
theorem SameT.waits_nonneg (h : SameT t Qs) (tx : Int) : (mget t.wait tx).isSome = decide (0 ≤ rwaits Qs tx) := by
  rw [← h.waits]
  cases hw : mget t.wait tx with
  | none => simp
  | some k =>
    have := qf_in (List.mem_of_mem_tail ((h.tab.wait tx k).1 hw))
    simp only [Option.isSome_some, Option.getD_some]
    exact (decide_eq_true this.1).symm
theorem SameT.line (h : SameT t Qs) (key : Int) : (mget t.line key).getD [] = (qf Qs key).tail := h.tab.line key

/-- The reference's Ask; 'c': round. -/
def raskT (Qs : List (List Int)) (tx key : Int) (c : Bool) : List (List Int) × Bool × Int :=
  if key < 0 ∨ 10 ≤ key ∨ tx < 1 then (Qs, false, 2) else if 0 ≤ rwaits Qs tx then (Qs, false, 6) else
    if rholds Qs key = tx then (Qs, true, 0) else if rholds Qs key ≠ 0 ∧ c = true then (Qs, false, 11) else (Qs.set key.toNat (qf Qs key ++ [tx]), decide (rholds Qs key = 0), 0)
theorem SameT.ask (h : SameT t Qs) {tx key : Int} {c : Bool} (hc : ∀ a, mget t.hold key = some a → ∃ n, chase t tx n a = some c) :
    SameT (tbAsk t tx key c).1 (raskT Qs tx key c).1 ∧ (tbAsk t tx key c).2 = (raskT Qs tx key c).2 := by
  unfold tbAsk raskT
  by_cases e0 : key < 0 ∨ 10 ≤ key ∨ tx < 1
  · rw [if_pos e0, if_pos e0]; exact ⟨h, rfl⟩
  rw [if_neg e0, if_neg e0]
  have hw1 := h.waits_nonneg tx
  by_cases e1 : 0 ≤ rwaits Qs tx
  · rw [if_pos e1, if_pos (by rw [hw1]; simpa using e1)]; exact ⟨h, rfl⟩
  have e1' : ¬ (mget t.wait tx).isSome = true := by rw [hw1]; simpa using e1
  rw [if_neg e1, if_neg e1']
  have hw : mget t.wait tx = none := by simpa using e1'
  have hk : key.toNat < Qs.length := by rw [h.len]; omega
  have hkk : ((key.toNat : Nat) : Int) = key := by omega
  have hset : qf (Qs.set key.toNat (qf Qs key ++ [tx])) = askQ (qf Qs) tx key := by
    rw [qf_set hk, hkk]; rfl
  have hpos : ∀ k, ∀ x ∈ askQ (qf Qs) tx key k, 1 ≤ x := by
    intro k x hx
    unfold askQ updQ at hx
    split at hx
    · rcases List.mem_append.1 hx with hx | hx
      · exact h.pos _ _ hx
      · simp at hx; omega
    · exact h.pos _ _ hx
  obtain ⟨r, hr⟩ := h.rk
  have hh := h.tab.hold key
  have hcs : qf Qs key = [] ∨ ∃ a l, qf Qs key = a :: l := by cases qf Qs key <;> simp
  rcases hcs with hq | ⟨a, l, hq⟩
  · rw [hq] at hh
    simp only [List.head?_nil] at hh
    have hr0 : rholds Qs key = 0 := by unfold rholds; rw [hq]; rfl
    rw [hh]
    dsimp only
    have e2 : ¬ rholds Qs key = tx := by omega
    rw [if_neg e2, if_neg (by rw [hr0]; simp), hr0]
    refine ⟨?_, rfl⟩
    exact ⟨by simpa using h.len, by rw [hset]; exact h.tab.ask_free hh, ⟨r, by rw [hset]; exact hr.free hq⟩, by rw [hset]; exact hpos⟩
  · rw [hq] at hh
    simp only [List.head?_cons] at hh
    have hr0 : rholds Qs key = a := by unfold rholds; rw [hq]; rfl
    have ha : 1 ≤ a := h.pos key a (by rw [hq]; simp)
    rw [hh, hr0]
    simp only
    by_cases e2 : a = tx
    · rw [if_pos e2, if_pos e2]; exact ⟨h, rfl⟩
    rw [if_neg e2, if_neg e2]
    cases c with
    | true => rw [if_pos rfl, if_pos ⟨by omega, rfl⟩]; exact ⟨h, rfl⟩
    | false =>
      have e3 : ¬ a = 0 := by omega
      rw [if_neg (by simp), if_neg (by simp)]
      obtain ⟨n, hn⟩ := hc a hh
      obtain ⟨r', hr'⟩ := Rk.ask h.tab hr hw hh hn
      refine ⟨?_, by simp [e3]⟩
      exact ⟨by simpa using h.len, by rw [hset]; exact h.tab.ask_line hw hh e2, ⟨r', by rw [hset]; exact hr'⟩, by rw [hset]; exact hpos⟩

/-- The reference's Drop: who comes next, by keys. -/
def routK (tx : Int) (k : Int) (l : List Int) : List (Int × Int) := if l.head? = some tx then firstL k (strike l tx) else []
def rout (Qs : List (List Int)) (tx : Int) (n : Nat) : List (Int × Int) := (List.range n).flatMap fun k : Nat => routK tx k (qf Qs k)
theorem rout_succ (Qs : List (List Int)) (tx : Int) (n : Nat) : rout Qs tx (n + 1) = rout Qs tx n ++ routK tx n (qf Qs n) := by simp [rout, List.range_succ, List.flatMap_append]
theorem SameT.drop (h : SameT t Qs) (hn : (t.hold.map (·.1)).Nodup) (tx : Int) : SameT (tbDrop t tx).1 (Qs.map fun l => strike l tx) ∧ (tbDrop t tx).2 = rout Qs tx 10 := by
  obtain ⟨h1, h2⟩ := h.tab.dropped hn tx
  obtain ⟨r, hr⟩ := h.rk
  obtain ⟨r', hr'⟩ := Rk.drop h.tab hr tx
  refine ⟨⟨by simpa using h.len, by rw [qf_map]; exact h1, ⟨r', by rw [qf_map]; exact hr'⟩, by rw [qf_map]; exact fun k x hx => h.pos k x (strike_mem.1 hx).1⟩, ?_⟩
  rw [h2]
  -- the keys that one holds, in order
  have hks : sortI (holders t tx) = ((List.range 10).map fun k : Nat => (k : Int)).filter fun k => decide ((qf Qs k).head? = some tx) := by
    symm
    refine sortI_of ((List.perm_ext_iff_of_nodup ?_ (holders_nodup hn)).2 ?_) ?_
    · exact (show (((List.range 10).map fun k : Nat => (k : Int))).Nodup by decide).sublist List.filter_sublist
    · intro k
      rw [List.mem_filter, holders_mem hn, h.tab.hold k]
      simp only [List.mem_map, List.mem_range, decide_eq_true_eq]
      constructor
      · rintro ⟨_, hk⟩; exact hk
      · intro hk
        refine ⟨?_, hk⟩
        have := qf_in (List.mem_of_mem_head? hk)
        rw [h.len] at this
        exact ⟨k.toNat, this.2, by omega⟩
    · exact List.Pairwise.filter _ (by decide)
  rw [hks]
  unfold nexts rout
  have key : ∀ ks : List Nat, (((ks.map fun k : Nat => (k : Int)).filter fun k => decide ((qf Qs k).head? = some tx)).flatMap fun k => firstL k (strikeQ (qf Qs) tx k).tail) = ks.flatMap fun k : Nat => routK tx k (qf Qs k) := by
    intro ks
    induction ks with
    | nil => rfl
    | cons k ks ih =>
      rw [List.map_cons, List.filter_cons, List.flatMap_cons]
      unfold routK at ih ⊢
      by_cases e : (qf Qs (k : Int)).head? = some tx
      · rw [if_pos (by simpa using e), if_pos e, List.flatMap_cons, ih]
        congr 2
        rw [strikeQ_tail]
        cases hq : qf Qs (k : Int) with
        | nil => rfl
        | cons a l =>
          rw [hq] at e
          simp only [List.head?_cons, Option.some.injEq] at e
          subst e
          rw [strike_cons, if_pos rfl]; rfl
      · rw [if_neg (by simpa using e), if_neg e, ih]; rfl
  exact key _
end Go.Sep
