/- Nobody waits for ever: the plain law of tables of locks. No program in sight. -/
import Derived.Test.YtbcoddibdipjkaaDoorLockQ
namespace Go.Sep
open Go Go.RowKit

/-- Whether the way from one to the next comes to 'tx'. -/
def chase (t : Tbl) (tx : Int) : Nat → Int → Option Bool
  | 0, _ => none
  | n + 1, x => if x = tx then some true else match mget t.wait x with
    | none => some false
    | some k => chase t tx n ((mget t.hold k).getD 0)
def Ranked (t : Tbl) (r : Int → Nat) : Prop := ∀ x k, mget t.wait x = some k → r ((mget t.hold k).getD 0) < r x
theorem chase_ends {t : Tbl} {r : Int → Nat} (h : Ranked t r) (tx : Int) : ∀ (n : Nat) (x : Int), r x < n → ∃ c, chase t tx n x = some c
  | 0, _, hx => by omega
  | n + 1, x, hx => by
    unfold chase
    split
    · exact ⟨_, rfl⟩
    · cases hw : mget t.wait x with
      | none => exact ⟨_, rfl⟩
      | some k => exact chase_ends h tx n _ (by have := h x k hw; omega)
theorem chase_up {t : Tbl} {tx : Int} {c : Bool} : ∀ (n m : Nat) (x : Int), n ≤ m → chase t tx n x = some c → chase t tx m x = some c
  | 0, _, _, _, h => by simp [chase] at h
  | n + 1, 0, _, hm, _ => by omega
  | n + 1, m + 1, x, hm, h => by
    unfold chase at h ⊢
    split
    · rename_i e; rw [if_pos e] at h; exact h
    · rename_i e
      rw [if_neg e] at h
      cases hw : mget t.wait x with
      | none => rw [hw] at h; exact h
      | some k => rw [hw] at h; exact chase_up n m _ (by omega) h
theorem chase_one {t : Tbl} {tx x : Int} {c d : Bool} {n m : Nat} (h1 : chase t tx n x = some c) (h2 : chase t tx m x = some d) : c = d := by
  have e1 := chase_up n (max n m) x (by omega) h1
  have e2 := chase_up m (max n m) x (by omega) h2
  rw [e1] at e2; exact Option.some.inj e2
def Reach (t : Tbl) (tx x : Int) : Prop := ∃ n, chase t tx n x = some true
theorem Reach.here (t : Tbl) (tx : Int) : Reach t tx tx := ⟨1, by simp [chase]⟩
theorem Reach.next {t : Tbl} {tx x k : Int} (hx : x ≠ tx) (hw : mget t.wait x = some k) : Reach t tx x ↔ Reach t tx ((mget t.hold k).getD 0) := by
  constructor
  · rintro ⟨n, h⟩
    cases n with
    | zero => simp [chase] at h
    | succ n => unfold chase at h; rw [if_neg hx, hw] at h; exact ⟨n, h⟩
  · rintro ⟨n, h⟩; exact ⟨n + 1, by unfold chase; rw [if_neg hx, hw]; exact h⟩

/-- What becomes of it; 'c': whether it comes round. -/
def tbAsk (t : Tbl) (tx key : Int) (c : Bool) : Tbl × Bool × Int :=
  if key < 0 ∨ 10 ≤ key ∨ tx < 1 then (t, false, 2) else if (mget t.wait tx).isSome then (t, false, 6) else match mget t.hold key with
  | none => ({ t with hold := mput t.hold key tx }, true, 0)
  | some h => if h = tx then (t, true, 0) else if c then (t, false, 11) else ({ t with wait := mput t.wait tx key, line := mput t.line key (lineAt t key ++ [tx]) }, false, 0)

/-- The queues have a rank: who waits stands above who holds. -/
def Rk (Q : Int → List Int) (r : Int → Nat) : Prop := ∀ k, ∀ x ∈ (Q k).tail, r ((Q k).headD 0) < r x
theorem Rk.ranked {t : Tbl} {Q : Int → List Int} {r : Int → Nat} (h : TabR t Q) (hr : Rk Q r) : Ranked t r := by
  intro x k hw
  have := hr k x ((h.wait x k).1 hw)
  rw [h.hold k]
  cases hq : Q k with
  | nil => rw [hq] at this; simpa using this
  | cons a l => rw [hq] at this; simpa using this

def askQ (Q : Int → List Int) (tx key : Int) : Int → List Int := updQ Q key (Q key ++ [tx])
/-- The queues behind an Ask. -/
theorem TabR.ask_free {t : Tbl} {Q : Int → List Int} (h : TabR t Q) {tx key : Int} (hh : mget t.hold key = none) : TabR { t with hold := mput t.hold key tx } (askQ Q tx key) := by
  have hq : Q key = [] := by have := h.hold key; rw [hh] at this; cases hq : Q key with | nil => rfl | cons a l => rw [hq] at this; simp at this
  unfold askQ
  rw [hq]
  refine ⟨fun j => ?_, fun j => ?_, fun x j => ?_, fun j => ?_⟩
  · show mget (mput t.hold key tx) j = _
    rw [mget_put]; unfold updQ
    by_cases e : j = key
    · simp [e]
    · rw [if_neg e, if_neg e]; exact h.hold j
  · show (mget t.line j).getD [] = _
    unfold updQ
    by_cases e : j = key
    · subst e; rw [if_pos rfl, h.line j, hq]; rfl
    · rw [if_neg e]; exact h.line j
  · show mget t.wait x = some j ↔ _
    unfold updQ
    by_cases e : j = key
    · subst e; rw [if_pos rfl, h.wait x j, hq]; simp
    · rw [if_neg e]; exact h.wait x j
  · unfold updQ
    by_cases e : j = key
    · simp [e]
    · rw [if_neg e]; exact h.nod j
theorem TabR.ask_line {t : Tbl} {Q : Int → List Int} (h : TabR t Q) {tx key a : Int} (hw : mget t.wait tx = none) (hh : mget t.hold key = some a) (ha : a ≠ tx) : TabR { t with wait := mput t.wait tx key, line := mput t.line key (lineAt t key ++ [tx]) } (askQ Q tx key) := by
  obtain ⟨l, hq⟩ : ∃ l, Q key = a :: l := by have := h.hold key; rw [hh] at this; cases hq : Q key with | nil => rw [hq] at this; simp at this | cons b l => rw [hq] at this; simp at this; exact ⟨l, by rw [this]⟩
  have hn := h.none_wait.1 hw
  have hl : lineAt t key = l := by unfold lineAt; rw [h.line key, hq]; rfl
  unfold askQ
  refine ⟨fun j => ?_, fun j => ?_, fun x j => ?_, fun j => ?_⟩
  · show mget t.hold j = _
    unfold updQ
    by_cases e : j = key
    · subst e; rw [if_pos rfl, hh, hq]; rfl
    · rw [if_neg e]; exact h.hold j
  · show (mget (mput t.line key _) j).getD [] = _
    rw [mget_put]
    unfold updQ
    by_cases e : j = key
    · subst e; rw [if_pos rfl, if_pos rfl, hl, hq]; rfl
    · rw [if_neg e, if_neg e]; exact h.line j
  · show mget (mput t.wait tx key) x = some j ↔ _
    rw [mget_put]
    unfold updQ
    by_cases ex : x = tx
    · subst ex
      rw [if_pos rfl]
      by_cases e : j = key
      · subst e; rw [if_pos rfl, hq]; simp
      · rw [if_neg e]
        constructor
        · intro h1; exact absurd (Option.some.inj h1).symm e
        · intro h1; exact absurd h1 (hn j)
    · rw [if_neg ex]
      by_cases e : j = key
      · subst e; rw [if_pos rfl, h.wait x j, hq]; simp [ex]
      · rw [if_neg e]; exact h.wait x j
  · unfold updQ
    by_cases e : j = key
    · subst e
      rw [if_pos rfl, List.nodup_append]
      refine ⟨h.nod j, by simp, ?_⟩
      intro x hx y hy
      simp at hy; subst hy
      intro e; subst e
      rw [hq] at hx
      rcases List.mem_cons.1 hx with e | hx
      · exact ha e.symm
      · exact hn j (by rw [hq]; exact hx)
    · rw [if_neg e]; exact h.nod j

/-- The rank behind an Ask that waits. -/
theorem Rk.ask {t : Tbl} {Q : Int → List Int} {r : Int → Nat} (h : TabR t Q) (hr : Rk Q r) {tx key a : Int} {n : Nat} (hw : mget t.wait tx = none) (hh : mget t.hold key = some a) (hc : chase t tx n a = some false) : ∃ r', Rk (askQ Q tx key) r' := by
  classical
  obtain ⟨l, hq⟩ : ∃ l, Q key = a :: l := by have := h.hold key; rw [hh] at this; cases hq : Q key with | nil => rw [hq] at this; simp at this | cons b l => rw [hq] at this; simp at this; exact ⟨l, by rw [this]⟩
  refine ⟨fun x => r x + if Reach t tx x then r a + 1 else 0, fun k x hx => ?_⟩
  have hna : ¬ Reach t tx a := by rintro ⟨m, hm⟩; have := chase_one hc hm; cases this
  have old : ∀ k x, x ∈ (Q k).tail → (r ((Q k).headD 0) + if Reach t tx ((Q k).headD 0) then r a + 1 else 0) < r x + if Reach t tx x then r a + 1 else 0 := by
    intro k x hx
    have h1 := hr k x hx
    have hwx := (h.wait x k).2 hx
    have hne : x ≠ tx := by intro e; subst e; rw [hw] at hwx; cases hwx
    have h2 := Reach.next hne hwx
    have e : (mget t.hold k).getD 0 = (Q k).headD 0 := by rw [h.hold k]; cases Q k <;> rfl
    rw [e] at h2
    by_cases hR : Reach t tx x
    · rw [if_pos hR, if_pos (h2.1 hR)]; omega
    · rw [if_neg hR, if_neg (fun x => hR (h2.2 x))]; omega
  unfold askQ updQ at hx ⊢
  by_cases e : k = key
  · subst e
    simp only [if_pos, hq, List.cons_append, List.tail_cons, List.headD_cons, List.mem_append, List.mem_singleton] at hx ⊢
    rcases hx with hx | rfl
    · have := old k x (by rw [hq]; exact hx)
      simpa [hq] using this
    · rw [if_neg hna, if_pos (Reach.here t x)]; omega
  · simp only [if_neg e] at hx ⊢; exact old k x hx
theorem Rk.free {Q : Int → List Int} {r : Int → Nat} (hr : Rk Q r) {tx key : Int} (hq : Q key = []) : Rk (askQ Q tx key) r := by
  intro k x hx
  unfold askQ updQ at hx ⊢
  by_cases e : k = key
  · subst e; simp [hq] at hx
  · simp only [if_neg e] at hx ⊢; exact hr k x hx
theorem strike_tail_sub {l : List Int} {tx x : Int} (h : x ∈ (strike l tx).tail) : x ∈ l.tail := by
  cases l with
  | nil => simp [strike] at h
  | cons a l =>
    rw [strike_cons] at h
    split at h
    · exact (strike_mem.1 (List.mem_of_mem_tail h)).1
    · exact (strike_mem.1 h).1
/-- The rank when one lets go. -/
theorem Rk.drop {t : Tbl} {Q : Int → List Int} {r : Int → Nat} (h : TabR t Q) (hr : Rk Q r) (tx : Int) : ∃ r', Rk (fun k => strike (Q k) tx) r' := by
  classical
  refine ⟨fun x => if ∃ k, x ∈ (strike (Q k) tx).tail then r x + 1 else 0, fun k x hx => ?_⟩
  simp only at hx ⊢
  rw [if_pos (⟨k, hx⟩ : ∃ k, x ∈ (strike (Q k) tx).tail)]
  split
  · rename_i hw
    obtain ⟨k', hk'⟩ := hw
    have hx0 := strike_tail_sub hx
    -- the holder is the one that held
    cases hq : Q k with
    | nil => rw [hq] at hx; simp [strike] at hx
    | cons a l =>
      rw [hq] at hx0
      simp only [List.tail_cons] at hx0
      by_cases ea : a = tx
      · exfalso
        subst ea
        rw [hq, strike_cons, if_pos rfl] at hx hk'
        cases hs : strike l a with
        | nil => rw [hs] at hx; simp at hx
        | cons b m =>
          rw [hs] at hk'
          simp only [List.headD_cons] at hk'
          have hb : b ∈ l := (strike_mem.1 (by rw [hs]; simp : b ∈ strike l a)).1
          have hkk := h.one (x := b) (k := k) (k' := k') (by rw [hq]; exact hb) (strike_tail_sub hk')
          subst hkk
          rw [hq, strike_cons, if_pos rfl, hs] at hk'
          have hnd := h.nod k
          rw [hq, List.nodup_cons] at hnd
          have : (strike l a).Nodup := hnd.2.sublist List.filter_sublist
          rw [hs, List.nodup_cons] at this
          exact this.1 hk'
      · have h1 := hr k x (by rw [hq]; exact hx0)
        rw [hq] at h1
        rw [strike_cons, if_neg ea]
        simp only [List.headD_cons] at h1 ⊢
        omega
  · omega

/-- Who stands anywhere is one of a few, and so are the keys. -/
def Rng (Q : Int → List Int) : Prop := ∀ k, ∀ x ∈ Q k, 1 ≤ x ∧ x ≤ 8 ∧ 0 ≤ k ∧ k < 5
theorem Rng.ask {Q : Int → List Int} (h : Rng Q) {tx key : Int} (h1 : 1 ≤ tx) (h2 : tx ≤ 8) (h3 : 0 ≤ key) (h4 : key < 5) : Rng (askQ Q tx key) := by
  intro k x hx
  unfold askQ updQ at hx
  by_cases e : k = key
  · subst e
    simp at hx
    rcases hx with hx | rfl
    · exact h k x hx
    · exact ⟨h1, h2, h3, h4⟩
  · simp only [if_neg e] at hx; exact h k x hx
theorem Rng.drop {Q : Int → List Int} (h : Rng Q) (tx : Int) : Rng (fun k => strike (Q k) tx) := fun k x hx => h k x (strike_mem.1 hx).1

theorem few : ∀ {l S : List Int}, l.Nodup → (∀ x ∈ l, x ∈ S) → l.length ≤ S.length
  | [], _, _, _ => Nat.zero_le _
  | a :: l, S, hn, hs => by
    rw [List.nodup_cons] at hn
    have ha := hs a (by simp)
    have := few (l := l) (S := S.erase a) hn.2 (fun x hx => by
      have h1 := hs x (by simp [hx])
      exact (List.mem_erase_of_ne (by intro e; subst e; exact hn.1 hx)).2 h1)
    have h2 := List.length_erase_of_mem ha
    have h3 : 0 < S.length := List.length_pos_of_mem ha
    simp only [List.length_cons]; omega
theorem few8 {l : List Int} (hn : l.Nodup) (h : ∀ x ∈ l, 1 ≤ x ∧ x ≤ 8) : l.length ≤ 8 :=
  few (S := [1, 2, 3, 4, 5, 6, 7, 8]) hn (fun x hx => by have := h x hx; simp; omega)

/-- All that holds of a table at each step of the law. -/
structure GoodT (t : Tbl) (Q : Int → List Int) (r : Int → Nat) : Prop where
  tab : TabR t Q
  rk : Rk Q r
  rng : Rng Q
theorem GoodT.start : ∃ r, GoodT ⟨[], [], []⟩ (fun _ => []) r := ⟨fun _ => 0, TabR.start, by intro k x hx; simp at hx, by intro k x hx; simp at hx⟩
variable {t : Tbl} {Q : Int → List Int} {r : Int → Nat}
theorem GoodT.waits (h : GoodT t Q r) {y k : Int} (hw : mget t.wait y = some k) : ∃ a, mget t.hold k = some a ∧ a ≠ 0 ∧ a ≠ y ∧ r a < r y ∧ 1 ≤ a ∧ a ≤ 8 ∧ 0 ≤ k := by
  have hy := (h.tab.wait y k).1 hw
  have h1 := h.rk k y hy
  have h2 := h.tab.hold k
  cases hq : Q k with
  | nil => rw [hq] at hy; simp at hy
  | cons a l =>
    rw [hq] at h1 h2
    simp only [List.headD_cons, List.head?_cons] at h1 h2
    obtain ⟨h3, h4, h5, _⟩ := h.rng k a (by rw [hq]; simp)
    exact ⟨a, h2, by omega, by intro e; subst e; omega, h1, h3, h4, h5⟩
theorem GoodT.line_le (h : GoodT t Q r) (k : Int) : (lineAt t k).length ≤ 8 := by
  unfold lineAt; rw [h.tab.line k]
  have := few8 (h.tab.nod k) (fun x hx => ⟨(h.rng k x hx).1, (h.rng k x hx).2.1⟩)
  rw [List.length_tail]; omega
theorem GoodT.line_wait (h : GoodT t Q r) {k x : Int} (hx : x ∈ lineAt t k) : mget t.wait x = some k := by
  unfold lineAt at hx; rw [h.tab.line k] at hx; exact (h.tab.wait x k).2 hx
theorem GoodT.line_hold (h : GoodT t Q r) {k : Int} (hl : lineAt t k ≠ []) : ∃ a, mget t.hold k = some a ∧ a ≠ 0 := by
  unfold lineAt at hl
  rw [h.tab.line k] at hl
  cases hq : Q k with
  | nil => rw [hq] at hl; exact absurd rfl hl
  | cons a l =>
    have := h.tab.hold k
    rw [hq] at this
    exact ⟨a, this, by have := (h.rng k a (by rw [hq]; simp)).1; omega⟩
/-- The Ask of the law. -/
theorem GoodT.ask (h : GoodT t Q r) {tx key : Int} {c : Bool} (h1 : 1 ≤ tx) (h2 : tx ≤ 8) (h3 : 0 ≤ key) (h4 : key < 5) (hc : ∀ a, mget t.hold key = some a → ∃ n, chase t tx n a = some c) :
    (∃ Q' r', GoodT (tbAsk t tx key c).1 Q' r') ∧ ((tbAsk t tx key c).2.1 = true → (tbAsk t tx key c).2.2 = 0 ∧ mget (tbAsk t tx key c).1.hold key = some tx) := by
  have e0 : ¬ (key < 0 ∨ 10 ≤ key ∨ tx < 1) := by omega
  unfold tbAsk
  rw [if_neg e0]
  cases hw : mget t.wait tx with
  | some k => exact ⟨⟨Q, r, h⟩, by simp⟩
  | none =>
    simp only [Option.isSome_none, Bool.false_eq_true, ↓reduceIte]
    cases hh : mget t.hold key with
    | none =>
      have hq : Q key = [] := by have := h.tab.hold key; rw [hh] at this; cases hq : Q key with | nil => rfl | cons a l => rw [hq] at this; simp at this
      exact ⟨⟨_, r, h.tab.ask_free hh, h.rk.free hq, h.rng.ask h1 h2 h3 h4⟩, fun _ => ⟨rfl, by simp [mget_put]⟩⟩
    | some a =>
      obtain ⟨n, hn⟩ := hc a hh
      simp only
      by_cases ea : a = tx
      · rw [if_pos ea]; subst ea; exact ⟨⟨Q, r, h⟩, fun _ => ⟨rfl, hh⟩⟩
      · rw [if_neg ea]
        cases c with
        | true => exact ⟨⟨Q, r, h⟩, by simp⟩
        | false =>
          obtain ⟨r', hr'⟩ := Rk.ask h.tab h.rk hw hh hn
          exact ⟨⟨_, r', h.tab.ask_line hw hh ea, hr', h.rng.ask h1 h2 h3 h4⟩, by simp⟩
/-- The Drop of the law. -/
theorem GoodT.drop (h : GoodT t Q r) (hn : (t.hold.map (·.1)).Nodup) (tx : Int) : (∃ r', GoodT (tbDrop t tx).1 (fun k => strike (Q k) tx) r') ∧ ∀ p ∈ (tbDrop t tx).2, mget (tbDrop t tx).1.hold p.1 = some p.2 ∧ mget (tbDrop t tx).1.wait p.2 = none := by
  obtain ⟨h1, h2⟩ := h.tab.dropped hn tx
  obtain ⟨r', hr'⟩ := Rk.drop h.tab h.rk tx
  refine ⟨⟨r', h1, hr', h.rng.drop tx⟩, fun p hp => ?_⟩
  rw [h2] at hp
  unfold nexts at hp
  rw [List.mem_flatMap] at hp
  obtain ⟨k, hk, hpk⟩ := hp
  rw [sortI_mem, holders_mem hn] at hk
  rw [strikeQ_tail] at hpk
  cases hq : Q k with
  | nil => rw [hq] at hpk; simp [strike, firstL] at hpk
  | cons a l =>
    have := h.tab.hold k
    rw [hk, hq] at this
    simp only [List.head?_cons, Option.some.injEq] at this
    subst this
    rw [hq] at hpk
    simp only [List.tail_cons] at hpk
    cases hs : strike l tx with
    | nil => rw [hs] at hpk; simp [firstL] at hpk
    | cons b m =>
      rw [hs] at hpk
      simp only [firstL, List.mem_singleton] at hpk
      subst hpk
      have hsk : strike (Q k) tx = b :: m := by rw [hq, strike_cons, if_pos rfl, hs]
      refine ⟨by rw [h1.hold]; simp [hsk], ?_⟩
      rw [h1.none_wait]
      intro k' hk'
      have hb : b ∈ (Q k).tail := by rw [hq]; exact (strike_mem.1 (by rw [hs]; simp : b ∈ strike l tx)).1
      have := h.tab.one hb (strike_tail_sub hk')
      subst this
      rw [hsk] at hk'
      have hnd := h1.nod k
      simp only [hsk, List.nodup_cons] at hnd
      exact hnd.1 hk'
theorem GoodT.hold_le (h : GoodT t Q r) (hn : (t.hold.map (·.1)).Nodup) : t.hold.length ≤ 5 := by
  have := few (S := [0, 1, 2, 3, 4]) hn (fun k hk => by
    obtain ⟨p, hp, rfl⟩ := List.mem_map.1 hk
    have h1 := mget_mem hn (show (p.1, p.2) ∈ t.hold from hp)
    rw [h.tab.hold] at h1
    cases hq : Q p.1 with
    | nil => rw [hq] at h1; simp at h1
    | cons a l => have := h.rng p.1 a (by rw [hq]; simp); simp; omega)
  simpa using this
theorem S.tab_nodup {w0 w : World} {L : List HProp} {T b o : Nat} (h : S w0 w (tabP T b o t :: L)) : (t.hold.map (·.1)).Nodup := by
  rcases h.tab_cases with h0 | ⟨bh, bl, bb, E, h1⟩
  · obtain ⟨rfl, _⟩ := h0.tab0_cells; simp
  · exact h1.tab_keys.2.1
/-- From one to the next, 'n' steps far. -/
def Chain (r : Int → Nat) (n : Nat) (y : Int) : Prop := ∃ vs : List Int, vs.length = n ∧ vs.Nodup ∧ (∀ v ∈ vs, 1 ≤ v ∧ v ≤ 8 ∧ r y < r v) ∧ 1 ≤ y ∧ y ≤ 8
theorem Chain.start {r : Int → Nat} {y : Int} (h1 : 1 ≤ y) (h2 : y ≤ 8) : Chain r 0 y := ⟨[], rfl, List.nodup_nil, by simp, h1, h2⟩
theorem Chain.next {r : Int → Nat} {n : Nat} {y a : Int} (h : Chain r n y) (h1 : r a < r y) (h2 : 1 ≤ a) (h3 : a ≤ 8) : Chain r (n + 1) a := by
  obtain ⟨vs, hl, hn, hv, h4, h5⟩ := h
  refine ⟨y :: vs, by simp [hl], ?_, ?_, h2, h3⟩
  · rw [List.nodup_cons]; exact ⟨fun hy => by have := (hv y hy).2.2; omega, hn⟩
  · intro v hm
    rcases List.mem_cons.1 hm with rfl | hm
    · exact ⟨h4, h5, h1⟩
    · obtain ⟨h6, h7, h8⟩ := hv v hm; exact ⟨h6, h7, by omega⟩
theorem Chain.le {r : Int → Nat} {n : Nat} {y : Int} (h : Chain r n y) : n ≤ 8 := by
  obtain ⟨vs, hl, hn, hv, _, _⟩ := h
  rw [← hl]; exact few8 hn (fun x hx => ⟨(hv x hx).1, (hv x hx).2.1⟩)
/-- Only those from 'x' on are left. -/
def Left (x : Int) (Q : Int → List Int) : Prop := ∀ k, ∀ y ∈ Q k, x ≤ y
theorem Left.start {Q : Int → List Int} (h : Rng Q) : Left 1 Q := fun k y hy => (h k y hy).1
theorem Left.next {x : Int} {Q : Int → List Int} (h : Left x Q) : Left (x + 1) (fun k => Sep.strike (Q k) x) := by
  intro k y hy
  obtain ⟨h1, h2⟩ := strike_mem.1 hy
  have := h k y h1; omega
theorem Left.none {Q : Int → List Int} (h : Left 9 Q) (hr : Rng Q) (k : Int) : Q k = [] := by
  apply List.eq_nil_iff_forall_not_mem.2
  intro y hy
  have := h k y hy; have := (hr k y hy).2.1; omega
end Go.Sep
