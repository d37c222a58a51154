/- The program's engine: Begin. -/
import Derived.Test.YtmfngjclccehaaaGreatDoorZ0
import Derived.Test.YtmfngjclccehaaaGreatDoorZ12
import Derived.Test.YtmfngjclccehaaaGreatDoorZ4
import Derived.Test.YtmfngjclccehaaaGreatDoorZ11
import Derived.Test.YtmfngjclccehaaaGreatDoorZ10
import Derived.Deep.MidRow
/- Transactions at the same time: who holds what it wrote; of two that overlap, and are not loose, no two wrote the same key. No walk in sight. -/
namespace Go.Proofs.YtmfngjclccehaaaGreatDoor
open Go Go.RowKit Go.Sep
section
variable {e e' e0 : Eng} {i j : Nat} {N : Nat} {T U : List Task}
structure Sure (e : Eng) (T : List Task) : Prop where
 cnt : ∀ i, i < e.txs.length → (e.tx i).begun ≤ e.count ∧ (e.tx i).ended ≤ e.count ∧ (e.tx i).start ≤ e.last
 rows : RowsOk e
 lastc : e.last ≤ e.count
 held : ∀ i K, (e.tx i).alive = true → (e.tx i).wrote K = true → mget e.t.hold K = some ((i : Int) + 1)
 newer : ∀ i k K, i < e.txs.length → (e.tx i).alive = true → (e.tx i).level ≠ 0 → (e.tx k).state = 2 → (e.tx i).begun < (e.tx k).ended → (e.tx k).wrote K = true → newerL (e.row K) (e.tx i).start ≠ []
 apart : ∀ i k K, i < e.txs.length → i ≠ k → (e.tx i).level ≠ 0 → ((e.tx i).alive = true ∨ ((e.tx i).state = 2 ∧ (e.tx k).level ≠ 0 ∧ (e.tx k).begun < (e.tx i).ended)) → (e.tx k).state = 2 → (e.tx i).begun < (e.tx k).ended → (e.tx k).wrote K = true → (e.tx i).wrote K = false
 wantk : ∀ (j : Nat) k, mget e.t.wait ((j : Int) + 1) = some k → (e.tx j).want.1 = k
 handk : ∀ w, Task.hand w ∈ T → (e.tx (w.2.toNat - 1)).want.1 = w.1 ∧ mget e.t.hold w.1 = some w.2
 putk : ∀ i w, Task.put i w ∈ T → mget e.t.hold w.1 = some ((i : Int) + 1) ∧ w = (e.tx i).want
theorem wrote_lt {K : Int} (h : (e.tx i).wrote K = true) : i < e.txs.length := by
 refine Classical.byContradiction fun hn => ?_
 rw [Eng.tx_far hn] at h
 cases h
theorem OkT.wrote_ok (h : OkT N e U) {K : Int} (hw : (e.tx i).wrote K = true) : keyOk K := by
 have hx := h.at (wrote_lt hw)
 unfold Tx.wrote at hw
 obtain ⟨v, hv⟩ := Option.isSome_iff_exists.1 hw
 exact (hx.own _ (mget_some hv)).1
theorem Sure.start : Sure Eng.zero [] where
 cnt i hi := by simp [Eng.zero] at hi
 rows vs hv := by
  simp only [Eng.zero, List.mem_replicate] at hv
  rw [hv.2]; simp
 lastc := by decide
 held i K _ hw := by have := wrote_lt hw; simp [Eng.zero] at this
 newer i k K hi := by simp [Eng.zero] at hi
 apart i k K hi := by simp [Eng.zero] at hi
 wantk j k h := by simp [Eng.zero, mget_nil] at h
 handk w h := by simp at h
 putk i w h := by simp at h
theorem Sure.congr (h : Sure e T) (hV : e'.V = e.V) (hl : e'.last = e.last) (hc : e'.count = e.count) (ht : e'.t = e.t) (hlen : e'.txs.length = e.txs.length)
  (hx : ∀ j, (e'.tx j).level = (e.tx j).level ∧ (e'.tx j).state = (e.tx j).state ∧ (e'.tx j).start = (e.tx j).start ∧ (e'.tx j).begun = (e.tx j).begun ∧ (e'.tx j).ended = (e.tx j).ended ∧ (e'.tx j).writes = (e.tx j).writes ∧ (e'.tx j).want = (e.tx j).want) : Sure e' T := by
 have x1 := fun j => (hx j).1
 have x2 := fun j => (hx j).2.1
 have x3 := fun j => (hx j).2.2.1
 have x4 := fun j => (hx j).2.2.2.1
 have x5 := fun j => (hx j).2.2.2.2.1
 have x6 := fun j K => show (e'.tx j).wrote K = (e.tx j).wrote K by unfold Tx.wrote; rw [(hx j).2.2.2.2.2.1]
 have x7 := fun j => (hx j).2.2.2.2.2.2
 have x8 := fun j => alive_of_state (x2 j)
 have x9 := fun K => show e'.row K = e.row K by unfold Eng.row; rw [hV]
 refine ⟨fun i hi => ?_, by unfold RowsOk; rw [hV, hl]; exact h.rows, by rw [hl, hc]; exact h.lastc, fun i K => ?_, fun i k K => ?_, fun i k K => ?_, fun j k => ?_, fun w => ?_, fun i w => ?_⟩
 ·rw [x3, x4, x5, hl, hc]; exact h.cnt i (by rw [← hlen]; exact hi)
 ·rw [x8, x6, ht]; exact h.held i K
 ·rw [hlen, x8, x1, x2, x3, x4, x5, x6, x9]; exact h.newer i k K
 ·rw [hlen, x8, x1, x1, x2, x2, x4, x4, x5, x5, x6, x6]; exact h.apart i k K
 ·rw [ht, x7]; exact h.wantk j k
 ·rw [ht, x7]; exact h.handk w
 ·rw [ht, x7]; exact h.putk i w
theorem Sure.sub {T' : List Task} (h : Sure e T) (ht : ∀ t ∈ T', t ∈ T ∨ ∃ i k l, t = .ask i k l) : Sure e T' :=
 ⟨h.cnt, h.rows, h.lastc, h.held, h.newer, h.apart, h.wantk, fun w hw => (ht _ hw).elim (h.handk w) (fun ⟨_, _, _, h1⟩ => by cases h1), fun i w hw => (ht _ hw).elim (h.putk i w) (fun ⟨_, _, _, h1⟩ => by cases h1)⟩
theorem note_all (e : Eng) (a b j : Nat) : ((e.note a b).tx j).level = (e.tx j).level ∧ ((e.note a b).tx j).state = (e.tx j).state ∧ ((e.note a b).tx j).start = (e.tx j).start ∧ ((e.note a b).tx j).begun = (e.tx j).begun ∧ ((e.note a b).tx j).ended = (e.tx j).ended ∧ ((e.note a b).tx j).writes = (e.tx j).writes ∧ ((e.note a b).tx j).want = (e.tx j).want :=
 ⟨Eng.note_keep (·.level) (fun _ _ => rfl) (fun _ _ => rfl) a b j, Eng.note_keep (·.state) (fun _ _ => rfl) (fun _ _ => rfl) a b j, Eng.note_keep (·.start) (fun _ _ => rfl) (fun _ _ => rfl) a b j, Eng.note_keep (·.begun) (fun _ _ => rfl) (fun _ _ => rfl) a b j,
  Eng.note_keep (·.ended) (fun _ _ => rfl) (fun _ _ => rfl) a b j, Eng.note_keep (·.writes) (fun _ _ => rfl) (fun _ _ => rfl) a b j, Eng.note_keep (·.want) (fun _ _ => rfl) (fun _ _ => rfl) a b j⟩
theorem Sure.note (h : Sure e T) (a b : Nat) : Sure (e.note a b) T := h.congr rfl rfl rfl rfl (Eng.note_len ..) (note_all e a b)
theorem Sure.restate (h : Sure e T) (hs : (e.tx i).alive = true) (s : Int) (h1 : s ≤ 1) : Sure (e.upd i fun x => { x with state := s }) T := by
 have hx : ∀ {β : Type} (g : Tx → β) (_ : ∀ x s, g { x with state := s } = g x) (j : Nat), g ((e.upd i fun x => { x with state := s }).tx j) = g (e.tx j) := fun g hg j => Eng.upd_keep g _ (fun x => hg x _) j
 have x1 := hx (·.level) (fun _ _ => rfl)
 have x3 := hx (·.start) (fun _ _ => rfl)
 have x4 := hx (·.begun) (fun _ _ => rfl)
 have x5 := hx (·.ended) (fun _ _ => rfl)
 have x6 := fun K => hx (·.wrote K) (fun _ _ => rfl)
 have x7 := hx (·.want) (fun _ _ => rfl)
 have hcase : ∀ j, ((e.upd i fun x => { x with state := s }).tx j).alive = (e.tx j).alive ∧ (((e.upd i fun x => { x with state := s }).tx j).state = 2 ↔ (e.tx j).state = 2) := fun j => by
  rw [Eng.upd_tx]
  split
  ·rename_i hc
   obtain ⟨rfl, _⟩ := hc
   refine ⟨by rw [hs]; simp [Tx.alive, h1], ?_⟩
   simp only [Tx.alive, decide_eq_true_eq] at hs
   constructor
   ·intro h
    have h : s = 2 := h
    omega
   ·intro h; omega
  ·exact ⟨rfl, Iff.rfl⟩
 have x8 := fun j => (hcase j).1
 have x2 := fun j => (hcase j).2
 refine ⟨fun i' hi => ?_, h.rows, h.lastc, fun i' K => ?_, fun i' k K => ?_, fun i' k K => ?_, fun j k => ?_, fun w => ?_, fun i' w => ?_⟩
 ·rw [x3, x4, x5]; exact h.cnt i' (by rw [Eng.upd_len] at hi; exact hi)
 ·rw [x8, x6]; exact h.held i' K
 ·rw [Eng.upd_len, x8, x1, x2, x3, x4, x5, x6]; exact h.newer i' k K
 ·rw [Eng.upd_len, x8, x1, x1, x2, x2, x4, x4, x5, x5, x6, x6]; exact h.apart i' k K
 ·rw [x7]; exact h.wantk j k
 ·rw [x7]; exact h.handk w
 ·rw [x7]; exact h.putk i' w
theorem strike_head {l : List Int} {tx x : Int} (h : l.head? = some x) (hx : x ≠ tx) : (strike l tx).head? = some x := by
 cases l with
 | nil => cases h
 | cons a l =>
  simp only [List.head?_cons, Option.some.injEq] at h
  subst h
  rw [strike_cons, if_neg hx]; rfl
theorem lets_hold (h : OkT N e U) {K : Int} (hj : mget e.t.hold K = some ((j : Int) + 1)) (hji : j ≠ i) : mget (e.lets i).t.hold K = some ((j : Int) + 1) := by
 obtain ⟨Q, hQ⟩ := h.tab
 have hd := (hQ.tab.dropped hQ.hold ((i : Int) + 1)).1
 show mget (tbDrop e.t ((i : Int) + 1)).1.hold K = _
 rw [hd.hold]
 refine strike_head ?_ (by omega)
 rw [← hQ.tab.hold]; exact hj
theorem lets_wait (h : OkT N e U) {x K : Int} (hx : mget (e.lets i).t.wait x = some K) : mget e.t.wait x = some K := by
 obtain ⟨Q, hQ⟩ := h.tab
 have hd := (hQ.tab.dropped hQ.hold ((i : Int) + 1)).1
 have h1 := (hd.wait x K).1 hx
 exact (hQ.tab.wait x K).2 (strike_tail_sub h1)
theorem lets_heir (h : OkT N e U) {w : Int × Int} (hw : w ∈ e.heirs i) : mget e.t.wait w.2 = some w.1 ∧ mget (e.lets i).t.hold w.1 = some w.2 ∧ 1 ≤ w.2 ∧ w.2 ≠ (i : Int) + 1 := by
 obtain ⟨Q, hQ⟩ := h.tab
 have hd := (hQ.tab.dropped hQ.hold ((i : Int) + 1)).1
 have hp := (heir_iff hQ.tab hQ.hold ((i : Int) + 1) w).1 hw
 obtain ⟨a1, a2⟩ := hp.waits
 refine ⟨(hQ.tab.wait _ _).2 a1, ?_, (hQ.key _ _ (List.mem_of_mem_tail a1)).2.1, a2⟩
 show mget (tbDrop e.t ((i : Int) + 1)).1.hold w.1 = _
 rw [hd.hold]
 obtain ⟨m, hm⟩ := hp.next
 rw [hm]; rfl
theorem left_tx (e : Eng) (i : Nat) (why : Int) (j : Nat) : (e.left i why).tx j = if i = j ∧ j < e.txs.length then { e.tx j with state := 3, why := why, ended := e.count + 1 } else e.tx j := Eng.mark_tx e i why j
theorem left_len (e : Eng) (i : Nat) (why : Int) : (e.left i why).txs.length = e.txs.length := Eng.mark_len e i why
theorem Sure.left (h : Sure e T) (hok : OkT N e T) (hi : i < e.txs.length) (ha : (e.tx i).alive = true) (hne : ∀ u ∈ T, u.who ≠ i) (why : Int) : Sure (e.left i why) ((e.heirs i).map .hand ++ T) := by
 have hx : ∀ {β : Type} (g : Tx → β) (_ : ∀ x s y c, g { x with state := s, why := y, ended := c } = g x) (j : Nat), g ((e.left i why).tx j) = g (e.tx j) := fun g hg j => by
  rw [left_tx]; split
  ·exact hg _ _ _ _
  ·rfl
 have x1 := hx (·.level) (fun _ _ _ _ => rfl)
 have x3 := hx (·.start) (fun _ _ _ _ => rfl)
 have x4 := hx (·.begun) (fun _ _ _ _ => rfl)
 have x6 := fun K => hx (·.wrote K) (fun _ _ _ _ => rfl)
 have x7 := hx (·.want) (fun _ _ _ _ => rfl)
 have hself : ((e.left i why).tx i).state = 3 := by rw [left_tx, if_pos ⟨rfl, hi⟩]
 have hother : ∀ j, j ≠ i → (e.left i why).tx j = e.tx j := fun j hj => by rw [left_tx, if_neg (fun x => hj x.1.symm)]
 have x8 : ∀ j, ((e.left i why).tx j).alive = true → j ≠ i ∧ (e.tx j).alive = true := fun j hj => by
  by_cases hji : j = i
  ·subst hji; simp [Tx.alive, hself] at hj
  ·rw [hother j hji] at hj; exact ⟨hji, hj⟩
 have x2 : ∀ j, ((e.left i why).tx j).state = 2 → j ≠ i ∧ (e.tx j).state = 2 ∧ ((e.left i why).tx j).ended = (e.tx j).ended := fun j hj => by
  by_cases hji : j = i
  ·subst hji; omega
  ·rw [hother j hji] at hj ⊢; exact ⟨hji, hj, rfl⟩
 refine ⟨fun j hj => ?_, h.rows, by have := h.lastc; show e.last ≤ e.count + 1; omega, fun j K hj hw => ?_, fun j k K hj hal hlv hk hlt hw => ?_, fun j k K hj hjk hlv hor hk hlt hw => ?_, fun j k hw => ?_, fun w hw => ?_, fun j w hw => ?_⟩
 ·rw [left_len] at hj
  obtain ⟨a1, a2, a3⟩ := h.cnt j hj
  rw [x4, x3]
  refine ⟨by show _ ≤ e.count + 1; omega, ?_, a3⟩
  rw [left_tx]; split
  ·exact Int.le_refl _
  ·show _ ≤ e.count + 1; omega
 ·obtain ⟨b1, b2⟩ := x8 j hj
  rw [x6] at hw
  exact lets_hold hok (h.held j K b2 hw) b1
 ·obtain ⟨b1, b2⟩ := x8 j hal
  obtain ⟨c1, c2, c3⟩ := x2 k hk
  rw [x1] at hlv
  rw [x4, c3] at hlt
  rw [x6] at hw
  rw [x3]
  exact h.newer j k K (by rw [← left_len e i why]; exact hj) b2 hlv c2 hlt hw
 ·obtain ⟨c1, c2, c3⟩ := x2 k hk
  rw [x1] at hlv
  rw [x4, c3] at hlt
  rw [x6] at hw ⊢
  refine h.apart j k K (by rw [← left_len e i why]; exact hj) hjk hlv ?_ c2 hlt hw
  rcases hor with ho | ⟨o1, o2, o3⟩
  ·exact .inl (x8 j ho).2
  ·obtain ⟨d1, d2, d3⟩ := x2 j o1
   rw [x1] at o2
   rw [x4, d3] at o3
   exact .inr ⟨d2, o2, o3⟩
 ·rw [x7]; exact h.wantk j k (lets_wait hok hw)
 ·rw [x7]
  rcases List.mem_append.1 hw with hw | hw
  ·obtain ⟨w', hw', e1⟩ := List.mem_map.1 hw
   cases e1
   obtain ⟨a1, a2, a3, a4⟩ := lets_heir hok hw'
   refine ⟨?_, a2⟩
   refine h.wantk (w.2.toNat - 1) w.1 ?_
   rw [show ((w.2.toNat - 1 : Nat) : Int) + 1 = w.2 by omega]; exact a1
  ·obtain ⟨b1, b2⟩ := h.handk w hw
   have hwho := hne _ hw
   have hpos := ((hok.ok _ hw).hand w rfl).1
   simp only [Task.who] at hwho
   refine ⟨b1, ?_⟩
   have e1 : w.2 = ((w.2.toNat - 1 : Nat) : Int) + 1 := by omega
   rw [e1] at b2 ⊢
   exact lets_hold hok b2 hwho
 ·rcases List.mem_append.1 hw with hw | hw
  ·obtain ⟨w', _, e1⟩ := List.mem_map.1 hw
   cases e1
  ·obtain ⟨b1, b2⟩ := h.putk j w hw
   have hwho := hne _ hw
   simp only [Task.who] at hwho
   rw [x7]
   exact ⟨lets_hold hok b1 hwho, b2⟩
theorem wput_tx (e : Eng) (i : Nat) (w : Int × Int) (j : Nat) : (e.wput i w).tx j = if i = j ∧ j < e.txs.length then { e.tx j with writes := mput (e.tx j).writes w.1 w.2 } else e.tx j := Eng.upd_tx e i _ j
theorem wrote_put (x : Tx) (w : Int × Int) (K : Int) : ({ x with writes := mput x.writes w.1 w.2 } : Tx).wrote K = (decide (K = w.1) || x.wrote K) := by
 unfold Tx.wrote
 simp only [mget_put]
 by_cases h : K = w.1 <;> simp [h]
theorem Sure.wput {w : Int × Int} (h : Sure e (.put i w :: T)) (hok : OkT N e (.put i w :: T)) (hl : ¬ e.late i w.1) : Sure (e.wput i w) T := by
 obtain ⟨hi, ha⟩ := hok.put_lt
 obtain ⟨hp, _⟩ := h.putk i w (List.mem_cons_self ..)
 have hx : ∀ {β : Type} (g : Tx → β) (_ : ∀ x s, g { x with writes := s } = g x) (j : Nat), g ((e.wput i w).tx j) = g (e.tx j) := fun g hg j => Eng.upd_keep g _ (fun x => hg x _) j
 have x1 := hx (·.level) (fun _ _ => rfl)
 have x2 := hx (·.state) (fun _ _ => rfl)
 have x3 := hx (·.start) (fun _ _ => rfl)
 have x4 := hx (·.begun) (fun _ _ => rfl)
 have x5 := hx (·.ended) (fun _ _ => rfl)
 have x7 := hx (·.want) (fun _ _ => rfl)
 have x8 := hx (·.alive) (fun _ _ => rfl)
 have xo : ∀ j, (e.tx j).alive = false → ∀ K, ((e.wput i w).tx j).wrote K = (e.tx j).wrote K := fun j hj K => by
  rw [wput_tx, if_neg]
  rintro ⟨rfl, _⟩; rw [ha] at hj; cases hj
 have x6 : ∀ j K, ((e.wput i w).tx j).wrote K = true → (e.tx j).wrote K = true ∨ (j = i ∧ K = w.1) := fun j K hw => by
  rw [wput_tx] at hw
  split at hw
  ·rename_i hc
   rw [wrote_put] at hw
   rcases Bool.or_eq_true _ _ ▸ hw with h1 | h1
   ·exact .inr ⟨hc.1.symm, by simpa using h1⟩
   ·exact .inl h1
  ·exact .inl hw
 have hno2 : ∀ k, (e.tx k).state = 2 → (e.tx k).alive = false := fun k hk => by simp [Tx.alive, hk]
 have hlen : (e.wput i w).txs.length = e.txs.length := Eng.upd_len ..
 refine ⟨fun j hj => ?_, h.rows, h.lastc, fun j K hj hw => ?_, fun j k K => ?_, fun j k K hj hjk hlv hor hk hlt hw => ?_, fun j k => ?_, fun w' hw' => ?_, fun j w' hw' => ?_⟩
 ·rw [x3, x4, x5]; exact h.cnt j (by rw [← hlen]; exact hj)
 ·rw [x8] at hj
  rcases x6 j K hw with h1 | ⟨rfl, rfl⟩
  ·exact h.held j K hj h1
  ·exact hp
 ·rw [hlen, x8, x1, x2, x3, x4, x5]
  intro a1 a2 a3 a4 a5 a6
  rw [xo k (hno2 k a4)] at a6
  exact h.newer j k K a1 a2 a3 a4 a5 a6
 ·rw [hlen] at hj
  rw [x1] at hlv
  rw [x8, x2, x1, x4, x5] at hor
  rw [x2] at hk
  rw [x4, x5] at hlt
  rw [xo k (hno2 k hk)] at hw
  cases hq : ((e.wput i w).tx j).wrote K with
  | false => rfl
  | true =>
   rcases x6 j K hq with h1 | ⟨rfl, rfl⟩
   ·rw [h.apart j k K hj hjk hlv hor hk hlt hw] at h1; cases h1
   ·exact absurd ⟨hlv, h.newer j k _ hj ha hlv hk hlt hw⟩ hl
 ·rw [x7]; exact h.wantk j k
 ·rw [x7]; exact h.handk w' (List.mem_cons_of_mem _ hw')
 ·rw [x7]; exact h.putk j w' (List.mem_cons_of_mem _ hw')
theorem sure_rule : Rule Sure where
 hand N e w T h p := by
  have hl := h.hand_lt
  have h1 := p.restate (i := w.2.toNat - 1) hl.2.1 0 (by decide)
  obtain ⟨b1, b2⟩ := p.handk w (List.mem_cons_self ..)
  have hwant : ((e.opens (w.2.toNat - 1)).tx (w.2.toNat - 1)).want = (e.tx (w.2.toNat - 1)).want := Eng.upd_keep (·.want) (fun x => { x with state := 0 }) (fun _ => rfl) _
  refine ⟨h1.cnt, h1.rows, h1.lastc, h1.held, h1.newer, h1.apart, h1.wantk, fun w' hw' => ?_, fun i' w' hw' => ?_⟩
  ·rcases List.mem_cons.1 hw' with hw' | hw'
   ·cases hw'
   ·exact h1.handk w' (List.mem_cons_of_mem _ hw')
  ·rcases List.mem_cons.1 hw' with hw' | hw'
   ·cases hw'
    refine ⟨?_, hwant.symm⟩
    show mget e.t.hold _ = _
    rw [b1, b2, hl.2.2.2]
   ·exact h1.putk i' w' (List.mem_cons_of_mem _ hw')
 late N e i w T h hl p := (p.sub fun t ht => .inl (List.mem_cons_of_mem _ ht)).left (h.tail (by simp)) h.put_lt.1 h.put_lt.2 h.who_ne 10
 put N e i w T h hl _ p := p.wput h hl
 puts N e i w T h hl _ p := (p.wput h hl).sub fun t ht => by
  rcases List.mem_cons.1 ht with rfl | ht
  ·exact .inr ⟨_, _, _, rfl⟩
  ·exact .inl ht
 asked N e i key T h p := p.sub fun t ht => .inl (List.mem_cons_of_mem _ ht)
 skip N e i j key l T h _ p := p.sub fun t ht => by
  rcases List.mem_cons.1 ht with rfl | ht
  ·exact .inr ⟨_, _, _, rfl⟩
  ·exact .inl (List.mem_cons_of_mem _ ht)
 note N e i j key l T h _ _ p := (p.note j i).sub fun t ht => by
  rcases List.mem_cons.1 ht with rfl | ht
  ·exact .inr ⟨_, _, _, rfl⟩
  ·exact .inl (List.mem_cons_of_mem _ ht)
 wrong N e i j key l T h _ _ p := ((p.note j i).sub fun t ht => .inl (List.mem_cons_of_mem _ ht)).left (h.noted.tail (by simp)) h.noted.ask_lt.1 h.noted.ask_lt.2 h.noted.who_ne 13
theorem Sure.goes (h : Sure e []) (hok : OkT N e []) (hi : i < e.txs.length) (ha : (e.tx i).alive = true) (why : Int) : Sure (e.goes i why) [] := by
 have h1 := h.left hok hi ha (by simp) why
 rw [List.append_nil] at h1
 exact sure_rule.goes hok hi ha why h1
theorem Sure.begun (h : Sure e []) (hok : OkT N e []) (level : Int) : Sure (e.begin_ level).1 [] := by
 rcases begin_out e level with ⟨_, _, b3⟩ | ⟨_, b2⟩
 ·rw [b3]
  ·skip
   ·skip
    have hg : ∀ j, j < e.txs.length → (e.grown (e.fresh level)).tx j = e.tx j := fun j hj => Eng.grown_tx hj
    have hlen := Eng.grown_len (e := e) (e.fresh level)
    have hnew := Eng.grown_last (e := e) (e.fresh level)
    have hcase : ∀ j, j < e.txs.length + 1 → j < e.txs.length ∨ j = e.txs.length := fun j hj => by omega
    have hs2 : ∀ k, ((e.grown (e.fresh level)).tx k).state = 2 → k < e.txs.length := fun k hk => by
     by_cases h1 : k < e.txs.length
     ·exact h1
     ·by_cases h2 : k = e.txs.length
      ·subst h2; rw [hnew] at hk; exact absurd (show (0 : Int) = 2 from hk) (by decide)
      ·rw [Eng.tx_far (by rw [hlen]; omega)] at hk; exact absurd (show (0 : Int) = 2 from hk) (by decide)
    refine ⟨fun j hj => ?_, h.rows, by have := h.lastc; show e.last ≤ e.count + 1; omega, fun j K hj hw => ?_, fun j k K hj hal hlv hk hlt hw => ?_, fun j k K hj hjk hlv hor hk hlt hw => ?_, fun j k hw => ?_, by simp, by simp⟩
    ·rw [hlen] at hj
     rcases hcase j hj with h1 | rfl
     ·rw [hg j h1]
      obtain ⟨a1, a2, a3⟩ := h.cnt j h1
      exact ⟨by show _ ≤ e.count + 1; omega, by show _ ≤ e.count + 1; omega, a3⟩
     ·rw [hnew]
      have := hok.cnt
      exact ⟨by show e.count + 1 ≤ e.count + 1; omega, by show (0 : Int) ≤ e.count + 1; omega, Int.le_refl _⟩
    ·have h1 := wrote_lt hw
     rw [hlen] at h1
     rcases hcase j h1 with h2 | rfl
     ·rw [hg j h2] at hj hw; exact h.held j K hj hw
     ·rw [hnew] at hw; cases hw
    ·have hk2 := hs2 k hk
     rw [hg k hk2] at hk hlt hw
     rw [hlen] at hj
     rcases hcase j hj with h1 | rfl
     ·rw [hg j h1] at hal hlv hlt ⊢
      exact h.newer j k K h1 hal hlv hk hlt hw
     ·rw [hnew] at hlt
      have := (h.cnt k hk2).2.1
      have hlt' : e.count + 1 < (e.tx k).ended := hlt
      omega
    ·have hk2 := hs2 k hk
     rw [hg k hk2] at hk hlt hw hor
     rw [hlen] at hj
     rcases hcase j hj with h1 | rfl
     ·rw [hg j h1] at hlv hlt hor ⊢
      exact h.apart j k K h1 hjk hlv hor hk hlt hw
     ·rw [hnew]; rfl
    ·have hj : j < e.txs.length := by
      obtain ⟨Q, hQ⟩ := hok.tab
      have := hQ.key k _ (List.mem_of_mem_tail ((hQ.tab.wait _ _).1 hw))
      omega
     rw [hg j hj]; exact h.wantk j k hw
 ·rw [b2]; exact h
theorem Sure.noted (h : Sure e []) (key : Int) : Sure (e.noted i key) [] :=
 h.congr rfl rfl rfl rfl (noted_len ..) fun j => ⟨noted_tx e i key (·.level) (fun _ _ => rfl) j, noted_tx e i key (·.state) (fun _ _ => rfl) j, noted_tx e i key (·.start) (fun _ _ => rfl) j, noted_tx e i key (·.begun) (fun _ _ => rfl) j, noted_tx e i key (·.ended) (fun _ _ => rfl) j, noted_tx e i key (·.writes) (fun _ _ => rfl) j, noted_tx e i key (·.want) (fun _ _ => rfl) j⟩
theorem Sure.red (h : Sure e []) (hok : OkT N e []) (n key : Int) : Sure (e.read n key).1 [] := by
 have hc := read_case e n key
 generalize e.read n key = r at hc
 cases hc with
 | err x h0 h8 => exact h
 | own i v hn hi hs hv => exact h
 | plain i hn hi hs hv hk hl => exact h.noted key
 | seen i hn hi hs hv hk hl hr => exact sees_keep (P := fun f => Sure f []) (fun f a b hf => hf.note a b) (h.noted key)
 | gone i hn hi hs hv hk hl hr =>
  have h1 := hok.noted1 hi key
  have hi1 : i < (e.noted i key).txs.length := by rw [noted_len]; exact hi
  obtain ⟨g1, g2, g3, _⟩ := sees_ok h1 hi1 key
  have hal : (((e.noted i key).sees i key).1.tx i).alive = true := by
   rw [alive_of_state (g3 i)]
   rw [noted_tx e i key (·.alive) (fun _ _ => rfl)]; exact state_alive hs
  exact (sees_keep (P := fun f => Sure f []) (fun f a b hf => hf.note a b) (h.noted key)).goes g1 (by rw [g2]; exact hi1) hal 13
theorem Sure.wanting (h : Sure e []) (hok : OkT N e []) (hs : (e.tx i).state = 0) (w : Int × Int) : Sure (e.wanting i w) [] := by
 have x := fun {β : Type} (g : Tx → β) (hg : ∀ x u, g { x with want := u } = g x) (j : Nat) => wanting_tx e i w g hg j
 have hlen : (e.wanting i w).txs.length = e.txs.length := Eng.upd_len ..
 refine ⟨fun j hj => ?_, h.rows, h.lastc, fun j K => ?_, fun j k K => ?_, fun j k K => ?_, fun j k hw => ?_, by simp, by simp⟩
 ·rw [x (·.begun) (fun _ _ => rfl), x (·.ended) (fun _ _ => rfl), x (·.start) (fun _ _ => rfl)]; exact h.cnt j (by rw [← hlen]; exact hj)
 ·rw [x (·.alive) (fun _ _ => rfl), x (·.wrote K) (fun _ _ => rfl)]; exact h.held j K
 ·rw [hlen, x (·.alive) (fun _ _ => rfl), x (·.level) (fun _ _ => rfl), x (·.state) (fun _ _ => rfl), x (·.begun) (fun _ _ => rfl), x (·.ended) (fun _ _ => rfl), x (·.start) (fun _ _ => rfl), x (·.wrote K) (fun _ _ => rfl)]; exact h.newer j k K
 ·rw [hlen, x (·.alive) (fun _ _ => rfl), x (·.level) (fun _ _ => rfl), x (·.level) (fun _ _ => rfl), x (·.state) (fun _ _ => rfl), x (·.state) (fun _ _ => rfl), x (·.begun) (fun _ _ => rfl), x (·.begun) (fun _ _ => rfl), x (·.ended) (fun _ _ => rfl), x (·.ended) (fun _ _ => rfl), x (·.wrote K) (fun _ _ => rfl), x (·.wrote K) (fun _ _ => rfl)]; exact h.apart j k K
 ·have hji : i ≠ j := by
   rintro rfl
   have hw' : mget e.t.wait ((i : Int) + 1) = some k := hw
   rw [hok.wait_none (i := i) (by omega)] at hw'; cases hw'
  unfold Eng.wanting
  rw [Eng.upd_ne hji]; exact h.wantk j k hw
theorem Sure.table (h : Sure e []) {t' : Tbl} (h1 : ∀ K x, mget e.t.hold K = some x → mget t'.hold K = some x) (h2 : ∀ (j : Nat) k, mget t'.wait ((j : Int) + 1) = some k → (e.tx j).want.1 = k) : Sure (e.table t') [] :=
 ⟨h.cnt, h.rows, h.lastc, fun j K a b => h1 K _ (h.held j K a b), h.newer, h.apart, h2, by simp, by simp⟩
theorem Sure.wrote (h : Sure e []) (hok : OkT N e []) (n key value : Int) : Sure (e.write n key value).1 [] := by
 have hc := write_case hok n key value
 generalize e.write n key value = r at hc
 cases hc with
 | err x h0 => exact h
 | cycle i hn hi hs hk hv =>
  have ha : (((e.wanting i (key, value)).table e.t).tx i).alive = true := (wanting_tx e i _ (·.alive) (fun _ _ => rfl) i).trans (state_alive hs)
  have h1 := h.wanting hok hs (key, value)
  have h2 : Sure ((e.wanting i (key, value)).table e.t) [] := h1.table (fun _ _ h => h) h1.wantk
  exact h2.goes (cycle_ok hok hi hk hv) (by show i < (e.wanting i (key, value)).txs.length; rw [show (e.wanting i (key, value)).txs.length = e.txs.length from Eng.upd_len ..]; exact hi) ha 11
 | waits i a hn hi hs hk hv hh ha =>
  have h1 := h.wanting hok hs (key, value)
  refine Sure.restate (h1.table (t' := waitT e.t ((i : Int) + 1) key) (fun _ _ h => h) fun j k hw => ?_) ?_ 1 (by decide)
  ·have hw' : mget (mput e.t.wait ((i : Int) + 1) key) ((j : Int) + 1) = some k := hw
   rw [mget_put] at hw'
   split at hw'
   ·rename_i hji
    obtain rfl : j = i := by omega
    cases hw'
    unfold Eng.wanting
    rw [Eng.upd_self hi]
   ·exact h1.wantk j k hw'
  ·exact (wanting_tx e i _ (·.alive) (fun _ _ => rfl) i).trans (state_alive hs)
 | puts i t' hn hi hs hk hv ht r hr =>
  have h1 := h.wanting hok hs (key, value)
  have h2 : Sure ((e.wanting i (key, value)).table t') [] := by
   rcases ht with ⟨rfl, hh⟩ | ⟨rfl, hh⟩
   ·refine h1.table (fun K x hx => ?_) h1.wantk
    show mget (mput e.t.hold key ((i : Int) + 1)) K = _
    rw [mget_put]
    split
    ·rename_i hK; subst hK
     have hx' : mget e.t.hold K = some x := hx
     rw [hh] at hx'; cases hx'
    ·exact hx
   ·exact h1.table (fun _ _ h => h) h1.wantk
  obtain ⟨p1, p2, p3⟩ := put_ok hok hi hs hk hv ht
  refine sure_rule.putsE p1 ⟨h2.cnt, h2.rows, h2.lastc, h2.held, h2.newer, h2.apart, h2.wantk, by simp, fun i' w' hw' => ?_⟩
  simp only [List.mem_singleton] at hw'
  cases hw'
  refine ⟨?_, ?_⟩
  ·show mget t'.hold key = _
   rcases ht with ⟨rfl, hh⟩ | ⟨rfl, hh⟩
   ·show mget (mput e.t.hold key ((i : Int) + 1)) key = _
    rw [mget_put, if_pos rfl]
   ·exact hh
  ·show _ = ((e.wanting i (key, value)).tx i).want
   unfold Eng.wanting
   rw [Eng.upd_self hi]
theorem over2_tx (e : Eng) (i j : Nat) : ((e.over2 i).lets i).tx j = if i = j ∧ j < e.txs.length then { e.tx j with state := 2, ended := e.count + 1 } else e.tx j := by
 have := Eng.upd_tx (e.told i) i (fun x => { x with state := 2, ended := e.count + 1 }) j
 have e1 : (e.told i).tx j = e.tx j := by unfold Eng.tx; rw [(told_txs e i).1]
 rw [(told_txs e i).1, e1] at this
 exact this
theorem over2_len (e : Eng) (i : Nat) : ((e.over2 i).lets i).txs.length = e.txs.length := by
 have := Eng.upd_len (e.told i) i (fun x => { x with state := 2, ended := e.count + 1 })
 rw [(told_txs e i).1] at this
 exact this
theorem Sure.over2 (h : Sure e []) (hok : OkT N e []) (hi : i < e.txs.length) (ha : (e.tx i).alive = true) : Sure ((e.over2 i).lets i) (((e.over2 i).heirs i).map .hand) := by
 have hx : ∀ {β : Type} (g : Tx → β) (_ : ∀ x s c, g { x with state := s, ended := c } = g x) (j : Nat), g (((e.over2 i).lets i).tx j) = g (e.tx j) := fun g hg j => by
  rw [over2_tx]; split
  ·exact hg _ _ _
  ·rfl
 have x1 := hx (·.level) (fun _ _ _ => rfl)
 have x3 := hx (·.start) (fun _ _ _ => rfl)
 have x4 := hx (·.begun) (fun _ _ _ => rfl)
 have x6 := fun K => hx (·.wrote K) (fun _ _ _ => rfl)
 have x7 := hx (·.want) (fun _ _ _ => rfl)
 have hself : (((e.over2 i).lets i).tx i).state = 2 ∧ (((e.over2 i).lets i).tx i).ended = e.count + 1 := by rw [over2_tx, if_pos ⟨rfl, hi⟩]; exact ⟨rfl, rfl⟩
 have hother : ∀ j, j ≠ i → ((e.over2 i).lets i).tx j = e.tx j := fun j hj => by rw [over2_tx, if_neg (fun x => hj x.1.symm)]
 have x8 : ∀ j, (((e.over2 i).lets i).tx j).alive = true → j ≠ i ∧ (e.tx j).alive = true := fun j hj => by
  by_cases hji : j = i
  ·subst hji; simp [Tx.alive, hself.1] at hj
  ·rw [hother j hji] at hj; exact ⟨hji, hj⟩
 have x2 : ∀ j, (((e.over2 i).lets i).tx j).state = 2 → j = i ∨ (j ≠ i ∧ (e.tx j).state = 2 ∧ (((e.over2 i).lets i).tx j).ended = (e.tx j).ended) := fun j hj => by
  by_cases hji : j = i
  ·exact .inl hji
  ·rw [hother j hji] at hj ⊢; exact .inr ⟨hji, hj, rfl⟩
 have htab : ((e.over2 i).lets i).t = (e.lets i).t := by show (tbDrop (e.told i).t _).1 = (tbDrop e.t _).1; rw [(told_txs e i).2.1]
 have hheir : (e.over2 i).heirs i = e.heirs i := over2_heirs e i
 have hcount : ((e.over2 i).lets i).count = e.count + 1 := rfl
 have hlast : ((e.over2 i).lets i).last = (e.told i).last := rfl
 have hrow : ∀ K, ((e.over2 i).lets i).row K = rowOf (e.told i).V K := fun K => rfl
 have hlc := h.lastc
 obtain ⟨l1, l2, l3⟩ := told_last hok hi hlc
 have hboth : ∀ j K, j ≠ i → (e.tx j).alive = true → (e.tx j).wrote K = true → (e.tx i).wrote K = true → False := fun j K hji hj hw1 hw2 => by
  have h1 := h.held j K hj hw1
  rw [h.held i K ha hw2] at h1
  have := Option.some.inj h1
  omega
 refine ⟨fun j hj => ?_, ?_, by rw [hcount, hlast]; omega, fun j K hj hw => ?_, fun j k K hj hal hlv hk hlt hw => ?_, fun j k K hj hjk hlv hor hk hlt hw => ?_, fun j k hw => ?_, fun w hw => ?_, fun j w hw => ?_⟩
 ·rw [over2_len] at hj
  obtain ⟨a1, a2, a3⟩ := h.cnt j hj
  rw [x4, x3, hcount, hlast]
  refine ⟨by omega, ?_, by omega⟩
  rw [over2_tx]; split
  ·exact Int.le_refl _
  ·omega
 ·exact told_rows hok hi hlc h.rows
 ·obtain ⟨b1, b2⟩ := x8 j hj
  rw [x6] at hw
  rw [htab]
  exact lets_hold hok (h.held j K b2 hw) b1
 ·rw [over2_len] at hj
  obtain ⟨b1, b2⟩ := x8 j hal
  rw [x1] at hlv
  rw [x6] at hw
  rw [x3, hrow, told_row hok hi hlc h.rows (hok.wrote_ok hw), newerL_append]
  rcases x2 k hk with rfl | ⟨c1, c2, c3⟩
  ·unfold Tx.wrote at hw
   obtain ⟨v, hv⟩ := Option.isSome_iff_exists.1 hw
   rw [hv]
   have := (h.cnt j hj).2.2
   simp [newerL]
   intro _
   omega
  ·rw [x4, c3] at hlt
   have := h.newer j k K hj b2 hlv c2 hlt hw
   intro e1
   exact this (List.append_eq_nil_iff.1 e1).1
 ·rw [over2_len] at hj
  rw [x1] at hlv
  rw [x6] at hw ⊢
  cases hq : (e.tx j).wrote K with
  | false => rfl
  | true =>
   exfalso
   by_cases hji : j = i
   ·subst hji
    rcases x2 k hk with rfl | ⟨c1, c2, c3⟩
    ·exact hjk rfl
    ·rw [x4, c3] at hlt
     rw [h.apart j k K hj hjk hlv (.inl ha) c2 hlt hw] at hq; cases hq
   ·rw [hother j hji, x1, x4] at hor
    rcases x2 k hk with rfl | ⟨c1, c2, c3⟩
    ·rcases hor with ho | ⟨o1, o2, o3⟩
     ·exact hboth j K hji ho hq hw
     ·rw [h.apart k j K hi (fun x => hjk x.symm) o2 (.inl ha) o1 o3 hq] at hw; cases hw
    ·rw [x4, c3] at hlt
     rw [h.apart j k K hj hjk hlv hor c2 hlt hw] at hq; cases hq
 ·rw [htab] at hw
  rw [x7]; exact h.wantk j k (lets_wait hok hw)
 ·rw [hheir] at hw
  obtain ⟨w', hw', e1⟩ := List.mem_map.1 hw
  cases e1
  obtain ⟨a1, a2, a3, a4⟩ := lets_heir hok hw'
  rw [x7, htab]
  refine ⟨h.wantk (w.2.toNat - 1) w.1 ?_, a2⟩
  rw [show ((w.2.toNat - 1 : Nat) : Int) + 1 = w.2 by omega]; exact a1
 ·obtain ⟨w', _, e1⟩ := List.mem_map.1 hw
  cases e1
theorem Sure.committed (h : Sure e []) (hok : OkT N e []) (n : Int) : Sure (e.commit n).1 [] := by
 by_cases h0 : e.ready n = 0
 ·obtain ⟨i, rfl, hi, hs⟩ := ready_at h0
  rw [commit_eq e i h0]
  exact sure_rule.frees hok hi (state_alive hs) (h.over2 hok hi (state_alive hs))
 ·unfold Eng.commit
  rw [if_pos h0]
  simp only
  split
  ·rename_i h13
   obtain ⟨i, rfl, hi, hs⟩ := ready_13 h13
   have hi2 : ((i : Int) + 1).toNat - 1 = i := by omega
   rw [hi2]
   exact h.goes hok hi (state_alive hs) 13
  ·exact h
theorem Sure.aborted (h : Sure e []) (hok : OkT N e []) (n : Int) : Sure (e.abort n).1 [] := by
 rcases abort_case e n with ⟨x, _, hx⟩ | ⟨i, rfl, hi, hs, hx⟩
 ·rw [hx]; exact h
 ·rw [hx]; exact h.goes hok hi (by simp [Tx.alive]; omega) 0
theorem Sure.swept (h : Sure e []) : Sure e.sweep.1 [] := by
 refine ⟨h.cnt, fun vs hvs => ?_, h.lastc, h.held, fun i k K hi ha hlv hk hlt hw => ?_, h.apart, h.wantk, by simp, by simp⟩
 ·obtain ⟨a, ha, rfl⟩ := List.mem_map.1 (show vs ∈ e.V.map (Proofs.YtmfngjclccehaaaGreatDoor.swept e.floor) from hvs)
  obtain ⟨h1, h2⟩ := h.rows a ha
  obtain ⟨_, _, _, h4⟩ := sweptN_spec e.floor a
  rw [h4]
  exact ⟨h1.sublist (List.drop_sublist _ _), fun p hp => h2 p (List.mem_of_mem_drop hp)⟩
 ·have := (sweep_rel h.rows (floor_le hi ha hlv) K).newer (Int.le_refl _)
  rw [show ((e.sweep.1).tx i).start = (e.tx i).start from rfl, ← this]
  exact h.newer i k K hi ha hlv hk hlt hw
end
end Go.Proofs.YtmfngjclccehaaaGreatDoor
/- Transactions at the same time: what one wrote, or waits to write, through all that is asked of an engine; how old each one is. No walk in sight. -/
namespace Go.Proofs.YtmfngjclccehaaaGreatDoor
open Go Go.RowKit Go.Sep
section
variable {e e' e0 : Eng} {i j : Nat} {N : Nat} {T U : List Task}
def Tx.owns (x : Tx) (w : Bool) (K : Int) : Option Int := if w = true ∧ K = x.want.1 then some x.want.2 else mget x.writes K
structure Eff (g : Nat → Int → Option Int) (e : Eng) (T : List Task) : Prop where
 wait : ∀ j K, (e.tx j).state = 1 → g j K = (e.tx j).owns true K
 put : ∀ j K w, Task.put j w ∈ T → g j K = (e.tx j).owns true K
 open_ : ∀ j K, (e.tx j).state = 0 → (∀ w, Task.put j w ∉ T) → g j K = mget (e.tx j).writes K
variable {g : Nat → Int → Option Int}
theorem Eff.congr (h : Eff g e T) (hs : ∀ j, (e'.tx j).state = (e.tx j).state) (hw : ∀ j, (e'.tx j).writes = (e.tx j).writes) (hk : ∀ j, (e'.tx j).want = (e.tx j).want) {T' : List Task} (ht : ∀ j w, Task.put j w ∈ T' ↔ Task.put j w ∈ T) : Eff g e' T' := by
 refine ⟨fun j K h1 => ?_, fun j K w h1 => ?_, fun j K h1 h2 => ?_⟩
 ·unfold Tx.owns; rw [hw, hk]; exact h.wait j K (by rw [← hs]; exact h1)
 ·unfold Tx.owns; rw [hw, hk]; exact h.put j K w ((ht j w).1 h1)
 ·rw [hw]; exact h.open_ j K (by rw [← hs]; exact h1) fun w hw' => h2 w ((ht j w).2 hw')
theorem Eff.note (h : Eff g e T) (a b : Nat) {T' : List Task} (ht : ∀ j w, Task.put j w ∈ T' ↔ Task.put j w ∈ T) : Eff g (e.note a b) T' :=
 h.congr (fun j => (note_all e a b j).2.1) (fun j => (note_all e a b j).2.2.2.2.2.1) (fun j => (note_all e a b j).2.2.2.2.2.2) ht
theorem Eff.left (h : Eff g e T) (hi : i < e.txs.length) (hne : ∀ u ∈ T, u.who ≠ i) (why : Int) : Eff g (e.left i why) ((e.heirs i).map .hand ++ T) := by
 have hself : ((e.left i why).tx i).state = 3 := by rw [left_tx, if_pos ⟨rfl, hi⟩]
 have hother : ∀ j, j ≠ i → (e.left i why).tx j = e.tx j := fun j hj => by rw [left_tx, if_neg (fun x => hj x.1.symm)]
 have ht : ∀ j w, Task.put j w ∈ (e.heirs i).map .hand ++ T ↔ Task.put j w ∈ T := fun j w => by
  rw [List.mem_append]
  constructor
  ·rintro (h1 | h1)
   ·obtain ⟨_, _, h2⟩ := List.mem_map.1 h1; cases h2
   ·exact h1
  ·exact .inr
 refine ⟨fun j K h1 => ?_, fun j K w h1 => ?_, fun j K h1 h2 => ?_⟩
 ·by_cases hji : j = i
  ·subst hji; omega
  ·rw [hother j hji] at h1 ⊢; exact h.wait j K h1
 ·have h2 := (ht j w).1 h1
  have hji : j ≠ i := hne _ h2
  rw [hother j hji]; exact h.put j K w h2
 ·by_cases hji : j = i
  ·subst hji; omega
  ·rw [hother j hji] at h1 ⊢
   exact h.open_ j K h1 fun w hw => h2 w ((ht j w).2 hw)
theorem Eff.wput {w : Int × Int} (h : Eff g e (.put i w :: T)) (hS : Sure e (.put i w :: T)) (hok : OkT N e (.put i w :: T)) {T' : List Task} (ht : ∀ j w, Task.put j w ∈ T' ↔ Task.put j w ∈ T) : Eff g (e.wput i w) T' := by
 obtain ⟨hi, ha⟩ := hok.put_lt
 have hst := (hok.ok _ (List.mem_cons_self ..)).put _ _ rfl |>.1
 obtain ⟨_, hw⟩ := hS.putk i w (List.mem_cons_self ..)
 have hno : ∀ w', Task.put i w' ∉ T := fun w' h1 => hok.who_ne _ h1 rfl
 have hother : ∀ j, j ≠ i → (e.wput i w).tx j = e.tx j := fun j hj => by rw [wput_tx, if_neg (fun x => hj x.1.symm)]
 have hself : (e.wput i w).tx i = { e.tx i with writes := mput (e.tx i).writes w.1 w.2 } := by rw [wput_tx, if_pos ⟨rfl, hi⟩]
 refine ⟨fun j K h1 => ?_, fun j K w' h1 => ?_, fun j K h1 h2 => ?_⟩
 ·by_cases hji : j = i
  ·subst hji; rw [hself] at h1; simp only at h1; omega
  ·rw [hother j hji] at h1 ⊢; exact h.wait j K h1
 ·have h2 := (ht j w').1 h1
  have hji : j ≠ i := by rintro rfl; exact hno _ h2
  rw [hother j hji]; exact h.put j K w' (List.mem_cons_of_mem _ h2)
 ·by_cases hji : j = i
  ·subst hji
   rw [h.put j K w (List.mem_cons_self ..), hself]
   simp only [Tx.owns, mget_put]
   rw [← hw]
   simp only [true_and]
  ·rw [hother j hji] at h1 ⊢
   refine h.open_ j K h1 fun w' hw' => ?_
   rcases List.mem_cons.1 hw' with e1 | e1
   ·cases e1; exact hji rfl
   ·exact h2 w' ((ht j w').2 e1)
def Eng.owns (e : Eng) (j : Nat) (K : Int) : Option Int := (e.tx j).owns (decide ((e.tx j).state = 1)) K
theorem Eff.of (e : Eng) : Eff e.owns e [] :=
 ⟨fun j K h => by unfold Eng.owns; simp [h], by simp, fun j K h _ => by unfold Eng.owns Tx.owns; simp [h]⟩
theorem TxOk.alive_cases {n : Nat} {x : Tx} (h : TxOk n x) (ha : x.alive = true) : x.state = 0 ∨ x.state = 1 := by
 have := h.state
 simp only [Tx.alive, decide_eq_true_eq] at ha
 omega
theorem Eff.owns (h : Eff g e []) (hok : OkT N e U) (hj : j < e.txs.length) (ha : (e.tx j).alive = true) (K : Int) : e.owns j K = g j K := by
 rcases (hok.at hj).alive_cases ha with h0 | h1
 ·rw [h.open_ j K h0 (by simp)]
  unfold Eng.owns Tx.owns; simp [h0]
 ·rw [h.wait j K h1]
  unfold Eng.owns; simp [h1]
def Owns (e e' : Eng) : Prop := ∀ j, j < e.txs.length → (e'.tx j).alive = true → ∀ K, e'.owns j K = e.owns j K
theorem Owns.trans {a b c : Eng} (h : Owns a b) (g : Owns b c) (hl : Later b c) (hlen : a.txs.length ≤ b.txs.length) : Owns a c := fun j hj ha K => (g j (by omega) ha K).trans (h j hj (hl.live j (by omega) ha) K)
end
end Go.Proofs.YtmfngjclccehaaaGreatDoor
/- Transactions at the same time: who is not gone has no reason to be, and no two things happen at one step, whatever is asked. No walk in sight. -/
namespace Go.Proofs.YtmfngjclccehaaaGreatDoor
open Go Go.RowKit Go.Sep
section
variable {e e' : Eng} {i j : Nat} {N : Nat} {T U : List Task}
def Whys (e : Eng) : Prop := ∀ j, j < e.txs.length → (e.tx j).state ≠ 3 → (e.tx j).why = 0
theorem Whys.start : Whys Eng.zero := fun j h => by simp [Eng.zero] at h
theorem Whys.same (h : Whys e) (ht : e'.txs = e.txs) : Whys e' := by
 intro j hj hs
 unfold Eng.tx at hs ⊢
 rw [ht] at hj hs ⊢
 exact h j hj hs
theorem Whys.upd {f : Tx → Tx} (h : Whys e) (hf : i < e.txs.length → (f (e.tx i)).state ≠ 3 → (f (e.tx i)).why = 0) : Whys (e.upd i f) := by
 intro j hj hs
 rw [Eng.upd_len] at hj
 rw [Eng.upd_tx] at hs ⊢
 split at hs
 ·rename_i hc
  obtain ⟨rfl, h2⟩ := hc
  rw [if_pos ⟨rfl, h2⟩]
  exact hf h2 hs
 ·rename_i hc
  rw [if_neg hc]
  exact h j hj hs
theorem Whys.note (h : Whys e) (a b : Nat) : Whys (e.note a b) := by
 intro j hj hs
 rw [Eng.note_len] at hj
 rw [Eng.note_state] at hs
 rw [Eng.note_keep (·.why) (fun _ _ => rfl) (fun _ _ => rfl)]
 exact h j hj hs
theorem Whys.left (h : Whys e) (i : Nat) (why : Int) : Whys (e.left i why) := by
 intro j hj hs
 rw [left_tx] at hs ⊢
 have hj2 : j < e.txs.length := by rw [← Eng.mark_len e i why]; exact hj
 split at hs
 ·exact absurd rfl hs
 ·rename_i hc; rw [if_neg hc]; exact h j hj2 hs
theorem why_rule : Rule fun e _ => Whys e where
 hand N e w T h p := p.upd fun hi _ => by
  have h1 := h.hand_lt.2.2.1
  exact p _ hi (by omega)
 late N e i w T h hl p := p.left i 10
 put N e i w T h hl h2 p := p.upd fun hi hs => p _ hi hs
 puts N e i w T h hl h2 p := p.upd fun hi hs => p _ hi hs
 asked N e i key T h p := p
 skip N e i j key l T h hs p := p
 note N e i j key l T h hs hb p := p.note _ _
 wrong N e i j key l T h hs hb p := (p.note _ _).left i 13
theorem Whys.goes (p : Whys e) (h : OkT N e []) (hi : i < e.txs.length) (ha : (e.tx i).alive = true) (why : Int) : Whys (e.goes i why) := why_rule.goes h hi ha why (p.left i why)
theorem nowait2 (i : Nat) : Rule fun e _ => (e.tx i).state ≠ 1 where
 hand N e w T h p := by
  unfold Eng.opens; rw [Eng.upd_tx]; split
  ·simp
  ·exact p
 late N e j w T h hl p := by
  rw [left_tx]; split
  ·simp
  ·exact p
 put N e j w T h hl h2 p := by
  rw [wput_tx]; split
  ·exact p
  ·exact p
 puts N e j w T h hl h2 p := by
  rw [wput_tx]; split
  ·exact p
  ·exact p
 asked N e j key T h p := p
 skip N e j k key l T h hs p := p
 note N e j k key l T h hs hb p := by rw [Eng.note_state]; exact p
 wrong N e j k key l T h hs hb p := by
  rw [left_tx]; split
  ·simp
  ·rw [Eng.note_state]; exact p
theorem puts_open (h : OkT N e []) (hi : i < e.txs.length) (hs : (e.tx i).state = 0) {w : Int × Int} (hk : keyOk w.1) (hv : valOk w.2) : ((e.puts i w).tx i).state = 0 ∨ ((e.puts i w).tx i).state = 3 := by
 have p1 := h.to_put hi hs hk hv
 have h1 : ((e.puts i w).tx i).state ≠ 1 := (nowait2 i).putsE p1 (by omega)
 have h2 := (h.puts hi hs hk hv).at (i := i) (by rw [puts_len]; exact hi)
 rcases (same_puts p1).live i (state_alive hs) with ha | ha
 ·rcases h2.alive_cases ha with h3 | h3
  ·exact .inl h3
  ·exact absurd h3 h1
 ·exact .inr ha.1
theorem Whys.puts (p : Whys e) (h : OkT N e []) (hi : i < e.txs.length) (hs : (e.tx i).state = 0) {w : Int × Int} (hk : keyOk w.1) (hv : valOk w.2) : Whys (e.puts i w) := why_rule.putsE (h.to_put hi hs hk hv) p
theorem Whys.begun (p : Whys e) (level : Int) : Whys (e.begin_ level).1 := by
 unfold Eng.begin_
 split
 ·exact p
 split
 ·exact p
 split
 ·exact p
 intro j hj hs
 simp only [List.length_append, List.length_singleton] at hj
 unfold Eng.tx at hs ⊢
 simp only at hs ⊢
 by_cases hlt : j < e.txs.length
 ·rw [List.getElem?_append_left hlt] at hs ⊢
  exact p j hlt hs
 ·obtain rfl : j = e.txs.length := by omega
  simp [Tx.zero]
theorem Whys.red (p : Whys e) (h : OkT N e []) (n key : Int) : Whys (e.read n key).1 := by
 have hc := read_case e n key
 generalize e.read n key = r at *
 cases hc with
 | err => exact p
 | own => exact p
 | plain i hn hi => exact p.upd fun hi hs => p _ hi hs
 | seen i hn hi => exact sees_keep (P := Whys) (fun e a b h => h.note a b) (p.upd fun hi hs => p _ hi hs)
 | gone i hn hi hs hv hk hl hr =>
  have p1 : Whys (e.noted i key) := p.upd fun hi hs => p _ hi hs
  have p2 := sees_keep (P := Whys) (fun e a b h => h.note a b) (i := i) (key := key) p1
  have h1 := h.noted1 hi key
  have hi1 : i < (e.noted i key).txs.length := by unfold Eng.noted; rw [Eng.upd_len]; exact hi
  obtain ⟨g1, g2, g3, _⟩ := sees_ok h1 hi1 key
  have hs1 : ((e.noted i key).tx i).state = 0 := (Eng.upd_keep (·.state) (fun x => { x with reads := x.reads ++ [(key, (mget e.wr (((readV (e.row key) (e.asOf i)).map (·.1)).getD 0)).getD 0)] }) (fun _ => rfl) i).trans hs
  exact p2.goes g1 (by omega) (state_alive (by rw [g3, hs1])) 13
theorem Whys.wrote (p : Whys e) (h : OkT N e []) (n key value : Int) : Whys (e.write n key value).1 := by
 have hc := write_case h n key value
 generalize e.write n key value = r at *
 cases hc with
 | err => exact p
 | cycle i hn hi hs hk hv =>
  have p1 : Whys ((e.wanting i (key, value)).table e.t) := Whys.same (Whys.upd (e := e) (i := i) (f := fun x => { x with want := (key, value) }) p fun hi hs => p _ hi hs) rfl
  have h1 := cycle_ok h hi hk hv
  exact p1.goes h1 (by show i < (e.upd i _).txs.length; rw [Eng.upd_len]; exact hi) (state_alive ((Eng.upd_keep (·.state) (fun x => { x with want := (key, value) }) (fun _ => rfl) i).trans hs)) 11
 | waits i a hn hi hs hk hv hh ha =>
  have p1 : Whys ((e.wanting i (key, value)).table (waitT e.t ((i : Int) + 1) key)) := Whys.same (Whys.upd (e := e) (i := i) (f := fun x => { x with want := (key, value) }) p fun hi hs => p _ hi hs) rfl
  refine p1.upd fun hi1 _ => ?_
  have hs2 : (((e.wanting i (key, value)).table (waitT e.t ((i : Int) + 1) key)).tx i).state = 0 := (Eng.upd_keep (·.state) (fun x => { x with want := (key, value) }) (fun _ => rfl) i).trans hs
  exact p1 i hi1 (by rw [hs2]; decide)
 | puts i t' hn hi hs hk hv ht r hr =>
  have p1 : Whys ((e.wanting i (key, value)).table t') := Whys.same (Whys.upd (e := e) (i := i) (f := fun x => { x with want := (key, value) }) p fun hi hs => p _ hi hs) rfl
  obtain ⟨g1, g2, g3⟩ := put_ok h hi hs hk hv ht
  exact why_rule.putsE g1 p1
theorem Whys.over2 (p : Whys e) (_hi : i < e.txs.length) (hs : (e.tx i).state = 0) : Whys (e.over2 i) := by
 have h1 : Whys (e.upd i fun x => { x with state := 2, ended := e.count + 1 }) := p.upd fun hi _ => p i hi (by rw [hs]; decide)
 refine h1.same ?_
 show ((e.told i).upd i (fun x => { x with state := 2, ended := e.count + 1 })).txs = _
 unfold Eng.upd
 rw [(told_txs e i).1]
theorem Whys.committed (p : Whys e) (h : OkT N e []) (n : Int) : Whys (e.commit n).1 := by
 by_cases h0 : e.ready n = 0
 ·obtain ⟨i, rfl, hi, hs⟩ := ready_at h0
  rw [commit_eq e i h0]
  exact why_rule.frees h hi (state_alive hs) ((p.over2 hi hs).same rfl)
 ·unfold Eng.commit
  rw [if_pos h0]
  simp only
  split
  ·rename_i h13
   obtain ⟨i, rfl, hi, hs⟩ := ready_13 h13
   rw [show ((i : Int) + 1).toNat - 1 = i by omega]
   exact p.goes h hi (state_alive hs) 13
  ·exact p
theorem Whys.aborted (p : Whys e) (h : OkT N e []) (n : Int) : Whys (e.abort n).1 := by
 unfold Eng.abort
 split
 ·exact p
 ·rename_i hx
  obtain ⟨i, rfl, hi, _⟩ := err_num (Decidable.not_not.1 hx)
  rw [show ((i : Int) + 1).toNat - 1 = i by omega]
  split
  ·exact p
  ·rename_i hs
   exact p.goes h hi (by simp only [Tx.alive, decide_eq_true_eq]; omega) 0
theorem Times.same (h : Times e) (ht : e'.txs = e.txs) (hc : e'.count = e.count) : Times e' := by
 have hx : ∀ j, e'.tx j = e.tx j := fun j => by unfold Eng.tx; rw [ht]
 refine ⟨fun j hj => ?_, fun j hj => ?_, fun i j hi hj hs => ?_⟩
 ·rw [hx, hc]; exact h.begun j (by rw [← ht]; exact hj)
 ·rw [hx, hc]; exact h.ended j (by rw [← ht]; exact hj)
 ·rw [hx] at hs ⊢; rw [hx]; exact h.apart i j (by rw [← ht]; exact hi) (by rw [← ht]; exact hj) hs
theorem Times.begin_ (h : Times e) (h0 : 0 ≤ e.count) (level : Int) : Times (e.begin_ level).1 := by
 unfold Eng.begin_
 split
 ·exact h
 split
 ·exact h
 split
 ·exact h
 have hx : ∀ j, j < e.txs.length → ∀ x c, ({ e with count := c, txs := e.txs ++ [x] } : Eng).tx j = e.tx j := fun j hj x c => by
  unfold Eng.tx; simp only; rw [List.getElem?_append_left hj]
 have hn : ∀ x c, ({ e with count := c, txs := e.txs ++ [x] } : Eng).tx e.txs.length = x := fun x c => by unfold Eng.tx; simp
 refine ⟨fun j hj => ?_, fun j hj => ?_, fun i j hi hj hs => ?_⟩
 ·simp only [List.length_append, List.length_singleton] at hj
  by_cases hlt : j < e.txs.length
  ·rw [hx j hlt]; have := h.begun j hlt; show _ ≤ e.count + 1; omega
  ·obtain rfl : j = e.txs.length := by omega
   rw [hn]; exact Int.le_refl _
 ·simp only [List.length_append, List.length_singleton] at hj
  by_cases hlt : j < e.txs.length
  ·rw [hx j hlt]; have := h.ended j hlt; show _ ≤ e.count + 1; omega
  ·obtain rfl : j = e.txs.length := by omega
   rw [hn]
   show (0 : Int) ≤ e.count + 1
   omega
 ·simp only [List.length_append, List.length_singleton] at hi hj
  by_cases hli : i < e.txs.length
  ·rw [hx i hli] at hs ⊢
   by_cases hlt : j < e.txs.length
   ·rw [hx j hlt]; exact h.apart i j hli hlt hs
   ·obtain rfl : j = e.txs.length := by omega
    rw [hn]
    have := h.ended i hli
    show (e.tx i).ended ≠ e.count + 1
    omega
  ·obtain rfl : i = e.txs.length := by omega
   rw [hn] at hs
   exact absurd hs (by simp [Tx.zero])
theorem Times.goes (h : Times e) (i : Nat) (why : Int) : Times (e.goes i why) := Times.goesN _ e i why h
theorem Times.puts (h : Times e) (i : Nat) (w : Int × Int) : Times (e.puts i w) := Times.putsG (fun e i why h => Times.goesN _ e i why h) h i w
theorem Times.red (p : Times e) (n key : Int) : Times (e.read n key).1 := by
 have hc := read_case e n key
 generalize e.read n key = r at *
 cases hc with
 | err => exact p
 | own => exact p
 | plain i hn hi => exact p.upd rfl rfl id
 | seen i hn hi => exact sees_keep (P := Times) (fun e a b h => h.note a b) (p.upd rfl rfl id)
 | gone i hn hi hs hv hk hl hr =>
  exact (sees_keep (P := Times) (fun e a b h => h.note a b) (i := i) (key := key) (e := e.noted i key) (p.upd rfl rfl id)).goes i 13
theorem Times.wrote (p : Times e) (h : OkT N e []) (n key value : Int) : Times (e.write n key value).1 := by
 have hc := write_case h n key value
 have p1 : ∀ (i : Nat) (t' : Tbl), Times ((e.wanting i (key, value)).table t') := fun i t' => Times.same (Times.upd (e := e) (i := i) (f := fun x => { x with want := (key, value) }) p rfl rfl id) rfl rfl
 generalize e.write n key value = r at *
 cases hc with
 | err => exact p
 | cycle i hn hi hs hk hv => exact (p1 i _).goes i 11
 | waits i a hn hi hs hk hv hh ha => exact (p1 i _).upd rfl rfl (by simp)
 | puts i t' hn hi hs hk hv ht r hr => exact (p1 i t').puts i _
theorem Times.over2 (p : Times e) : Times (e.over2 i) := by
 have h1 : Times { e.upd i (fun x => { x with state := 2, ended := e.count + 1 }) with count := e.count + 1 } := p.over rfl rfl
 refine h1.same ?_ rfl
 show ((e.told i).upd i (fun x => { x with state := 2, ended := e.count + 1 })).txs = _
 unfold Eng.upd
 rw [(told_txs e i).1]
theorem Times.committed (p : Times e) (n : Int) : Times (e.commit n).1 := by
 by_cases h0 : e.ready n = 0
 ·obtain ⟨i, rfl, hi, hs⟩ := ready_at h0
  rw [commit_eq e i h0]
  unfold Eng.frees freesG
  exact Times.freesL (fun e i why h => Times.goesN _ e i why h) _ _ (p.over2.lets i)
 ·unfold Eng.commit
  rw [if_pos h0]
  simp only
  split
  ·exact p.goes _ 13
  ·exact p
theorem Times.aborted (p : Times e) (n : Int) : Times (e.abort n).1 := by
 unfold Eng.abort
 split
 ·exact p
 ·split
  ·exact p
  ·exact p.goes _ 0
end
end Go.Proofs.YtmfngjclccehaaaGreatDoor
/- The reference's engine: Write. -/
namespace Go.Proofs.YtmfngjclccehaaaGreatDoor
open Go Go.RowKit Go.Sep
section
variable {w w0 : World} {b : Nat} {bs : List Nat} {e : Eng} {n key value : Int} {L : List HProp} {M N : Nat} {k : RenV} {K : List Kep} {Qs : List (List Int)} {i : Nat} {U : List Task} {T : List Nat}
theorem Room.mono {M' : Nat} (h : Room M T k e) (hM : M ≤ M') : Room M' T k e := fun j hj => Nat.le_trans (h j hj) hM
theorem _root_.Go.Sep.S.ren_mono {M' : Nat} (h : S w0 w (renP M T b bs e :: L)) (hM : M ≤ M') : S w0 w (renP M' T b bs e :: L) := by
 obtain ⟨k, K, Qs, hp, h⟩ := h.ren_open
 exact S.ren_shut ⟨hp.1, hp.2.1, hp.2.2.mono hM⟩ h
theorem rtab_few (hok : OkT N e U) (hST : SameT e.t Qs) : ∀ q ∈ Qs, q.length ≤ 900000 := fun q hq => by
 obtain ⟨Q, hQ⟩ := hok.tab
 have hfew := hok.few
 have hlen : ∀ kk, (lineAt e.t kk).length ≤ 800000 := by
  intro kk
  unfold lineAt
  rw [hQ.tab.line kk]
  have := few (S := (List.range e.txs.length).map fun m : Nat => (m : Int) + 1) (hQ.tab.nod kk) (fun x hx => by
   have := hQ.key kk x hx
   simp only [List.mem_map, List.mem_range]
   exact ⟨(x - 1).toNat, by omega, by omega⟩)
  simp only [List.length_map, List.length_range] at this
  rw [List.length_tail]; omega
 obtain ⟨j, hj⟩ := List.getElem?_of_mem hq
 have h1 : qf Qs (j : Int) = q := by rw [qf_nat, hj]; rfl
 have h2 := hST.line (j : Int)
 have h3 := hlen (j : Int)
 unfold lineAt at h3
 rw [h2, h1, List.length_tail] at h3
 omega
set_option maxRecDepth 40000 in
theorem rwrite_bad (hs : S w0 w (renP M [] b bs e :: L)) {x : Int} (h1 : e.err n true = x) (h0 : x ≠ 0) :
  Calls Tryz.prog 20 #[.pointer (some ⟨b, 0, none⟩), .int .i64 n, .int .i64 key, .int .i64 value] w fun r w' => r = .returned (.tuple #[.bool (e.write n key value).2.1, .int .i64 (e.write n key value).2.2]) ∧ S w0 w' (renP (M + 1) [] b bs (e.write n key value).1 :: L) := by
 have hf : e.write n key value = (e, false, x) := by unfold Eng.write; rw [if_pos (by rw [h1]; exact h0), h1]
 have HS := hid (hs.ren_mono (Nat.le_succ M))
 obtain ⟨k, K, Qs, _, hs⟩ := hs.ren_open
 have HF := hid hf; have HC := hid (rof_bad w0 w b bs k e n true _ hs.ren_o h1 h0)
 have hb : (x != 0) = true := by simpa using h0
 clear hs h1 h0 hf
 go_enter Tryz.func20, Tryz.ntmps20
 go_wp2_with fail
 with_reducible refine HC.out.mono ?_
 rintro r w' ⟨rfl, rfl⟩
 go_wp2_with fail
 go_ret2
 exact ⟨by rw [HF.out]; rfl, by rw [HF.out]; exact HS.out⟩
set_option maxRecDepth 40000 in
theorem rwrite_no (hs : S w0 w (renP M [] b bs e :: L)) (h1 : e.err ((i : Int) + 1) true = 0) (hk : ¬ keyOk key) :
  Calls Tryz.prog 20 #[.pointer (some ⟨b, 0, none⟩), .int .i64 ((i : Int) + 1), .int .i64 key, .int .i64 value] w fun r w' => r = .returned (.tuple #[.bool (e.write ((i : Int) + 1) key value).2.1, .int .i64 (e.write ((i : Int) + 1) key value).2.2]) ∧ S w0 w' (renP (M + 1) [] b bs (e.write ((i : Int) + 1) key value).1 :: L) := by
 have hf : e.write ((i : Int) + 1) key value = (e, false, 2) := by unfold Eng.write; rw [if_neg (by rw [h1]; decide), if_pos hk]
 have HS := hid (hs.ren_mono (Nat.le_succ M))
 obtain ⟨k, K, Qs, _, hs⟩ := hs.ren_open
 have HF := hid hf; have HC := hid (rof_ok w0 w b bs k e i true _ hs.ren_o h1)
 have hb : decide ((0 : Int) ≤ key ∧ key ≤ 9) = false := decide_eq_false (by unfold keyOk at hk; omega)
 have HI := hid (show Calls Tryz.prog 44 #[.int .i64 key, .int .i64 0, .int .i64 9] w fun r w' => r = .returned (.bool false) ∧ w = w' by have := in_any key 0 9 w; rw [hb] at this; exact this)
 clear hs h1 hf hk hb
 go_enter Tryz.func20, Tryz.ntmps20
 go_wp2_with fail
 with_reducible refine HC.out.mono ?_
 rintro r w' ⟨rfl, rfl⟩
 go_wp2_with (go_at_call 44; with_reducible refine HI.out.mono ?_; rintro r w' ⟨rfl, rfl⟩)
 go_ret2
 exact ⟨by rw [HF.out]; rfl, by rw [HF.out]; exact HS.out⟩
set_option maxRecDepth 40000 in
theorem rwrite_val (hs : S w0 w (renP M [] b bs e :: L)) (h1 : e.err ((i : Int) + 1) true = 0) (hk : keyOk key) (hv : ¬ valOk value) :
  Calls Tryz.prog 20 #[.pointer (some ⟨b, 0, none⟩), .int .i64 ((i : Int) + 1), .int .i64 key, .int .i64 value] w fun r w' => r = .returned (.tuple #[.bool (e.write ((i : Int) + 1) key value).2.1, .int .i64 (e.write ((i : Int) + 1) key value).2.2]) ∧ S w0 w' (renP (M + 1) [] b bs (e.write ((i : Int) + 1) key value).1 :: L) := by
 have hf : e.write ((i : Int) + 1) key value = (e, false, 1) := by unfold Eng.write; rw [if_neg (by rw [h1]; decide), if_neg (by simpa using hk), if_pos hv]
 have HS := hid (hs.ren_mono (Nat.le_succ M))
 obtain ⟨k, K, Qs, _, hs⟩ := hs.ren_open
 have HF := hid hf; have HC := hid (rof_ok w0 w b bs k e i true _ hs.ren_o h1)
 have hb : decide ((0 : Int) ≤ key ∧ key ≤ 9) = true := decide_eq_true (by unfold keyOk at hk; omega)
 have HI := hid (show Calls Tryz.prog 44 #[.int .i64 key, .int .i64 0, .int .i64 9] w fun r w' => r = .returned (.bool true) ∧ w = w' by have := in_any key 0 9 w; rw [hb] at this; exact this)
 have hb2 : decide ((-1099511627776 : Int) ≤ value ∧ value ≤ 1099511627776) = false := decide_eq_false (by unfold valOk at hv; omega)
 have HI2 := hid (show Calls Tryz.prog 44 #[.int .i64 value, .int .i64 (-1099511627776), .int .i64 1099511627776] w fun r w' => r = .returned (.bool false) ∧ w = w' by have := in_any value (-1099511627776) 1099511627776 w; rw [hb2] at this; exact this)
 clear hs h1 hf hk hb hb2 hv
 go_enter Tryz.func20, Tryz.ntmps20
 go_wp2_with fail
 with_reducible refine HC.out.mono ?_
 rintro r w' ⟨rfl, rfl⟩
 go_wp2_with (go_at_call 44; first | (with_reducible refine HI.out.mono ?_; rintro r w' ⟨rfl, rfl⟩) | (with_reducible refine HI2.out.mono ?_; rintro r w' ⟨rfl, rfl⟩))
 go_ret2
 exact ⟨by rw [HF.out]; rfl, by rw [HF.out]; exact HS.out⟩
end
set_option linter.unusedSimpArgs false in
set_option maxRecDepth 100000 in
set_option maxHeartbeats 8000000 in
theorem rwriteE_any (w0 w : World) (b : Nat) (bs : List Nat) (e : Eng) (n key value : Int) (L : List HProp) (N M : Nat) (hok : OkT N e []) (hti : Times e) (hwhy : Whys e) (hN : N ≤ 90000000) (hM : M + 1 ≤ 1000000) (hs : S w0 w (renP M [] b bs e :: L)) :
  Calls Tryz.prog 20 #[.pointer (some ⟨b, 0, none⟩), .int .i64 n, .int .i64 key, .int .i64 value] w fun r w' => r = .returned (.tuple #[.bool (e.write n key value).2.1, .int .i64 (e.write n key value).2.2]) ∧ S w0 w' (renP (M + 1) [] b bs (e.write n key value).1 :: L) := by
 rcases e.err_cases n true with ⟨h1, h2⟩ | ⟨i, rfl, hi, ⟨h1, h2, h3⟩ | ⟨h1, h2⟩⟩
 ·exact rwrite_bad hs h1 (by decide)
 ·exact rwrite_bad hs h1 (by decide)
 by_cases hk : keyOk key
 case neg => exact rwrite_no hs h1 hk
 by_cases hv : valOk value
 case neg => exact rwrite_val hs h1 hk hv
 obtain ⟨k, K, Qs, ⟨hS, hST, hRm⟩, hs⟩ := hs.ren_open
 have hO := hs.ren_o
 have hi2 : ((i : Int) + 1).toNat - 1 = i := by omega
 have hc := rof_ok w0 w b bs k e i true _ hO h1
 have hb : decide ((0 : Int) ≤ key ∧ key ≤ 9) = true := decide_eq_true (by unfold keyOk at hk; omega)
 have hI : Calls Tryz.prog 44 #[.int .i64 key, .int .i64 0, .int .i64 9] w fun r w' => r = .returned (.bool true) ∧ w = w' := by have := in_any key 0 9 w; rw [hb] at this; exact this
 have hb2 : decide ((-1099511627776 : Int) ≤ value ∧ value ≤ 1099511627776) = true := decide_eq_true (by unfold valOk at hv; omega)
 have hI2 : Calls Tryz.prog 44 #[.int .i64 value, .int .i64 (-1099511627776), .int .i64 1099511627776] w fun r w' => r = .returned (.bool true) ∧ w = w' := by have := in_any value (-1099511627776) 1099511627776 w; rw [hb2] at this; exact this
 have hx := (hO.ren_txc hi).2
 have c8 := hx.want1
 have c9 := hx.want2
 have f8 := hx.free 8
 have f9 := hx.free 9
 obtain ⟨e1, he1⟩ : ∃ e1, (e.upd i fun x => { x with want := (key, value) }) = e1 := ⟨_, rfl⟩
 have hok1 : OkT N e1 [] := by rw [← he1]; exact hok.wanted hi (w := (key, value)) hk hv
 have hti1 : Times e1 := by rw [← he1]; exact hti.upd rfl rfl id
 have hwy1 : Whys e1 := by rw [← he1]; exact hwhy.upd fun hi hs => hwhy _ hi hs
 have hlen1 : e1.txs.length = e.txs.length := by rw [← he1]; exact Eng.upd_len ..
 have hs1 : (e1.tx i).state = 0 := by rw [← he1]; exact (Eng.upd_keep (·.state) (fun x => { x with want := (key, value) }) (fun _ => rfl) i).trans (h2 rfl)
 have hw1 : (e1.tx i).want = (key, value) := by rw [← he1, Eng.upd_self hi]
 have ht1 : e1.t = e.t := by rw [← he1]; rfl
 have hi1 : i < e1.txs.length := by omega
 have hS1 : Same e1.V e1.last K := by rw [← he1]; exact hS
 have hR1 : Room M [] k e1 := by rw [← he1]; exact Room.upd (f := fun x => { x with want := (key, value) }) hRm id
 have hst : S w0 ((w.setCell ⟨blkOf bs i, 8, none⟩ (.int .i64 key)).setCell ⟨blkOf bs i, 9, none⟩ (.int .i64 value)) (rtabP 3 b 2 Qs :: refP 47 109 b K e1.last :: renO b bs k e1 :: L) := by
  have g1 := hO.ren_set (j := 8) (u := .int .i64 key) hi (fun x => { x with want := (key, x.want.2) }) (by decide) rfl rfl rfl rfl rfl
  have g2 := g1.ren_set (j := 9) (u := .int .i64 value) (by rw [Eng.upd_len]; exact hi) (fun x => { x with want := (x.want.1, value) }) (by decide) rfl rfl rfl rfl rfl
  rw [want_eq, he1] at g2
  have e3 : e1.last = e.last := by rw [← he1]; rfl
  rw [e3]
  exact g2.conv (by simp only [all]; ac_rfl)
 have hch := hok.chased ((i : Int) + 1) key
 have hask := rask_any w0 _ b e.t Qs ((i : Int) + 1) key (comesRound e.t ((i : Int) + 1) key) _ hst hST (rtab_few hok hST) hch
 obtain ⟨hST2, hout⟩ := hST.ask (tx := (i : Int) + 1) (key := key) hch
 rw [← hout] at hask
 have hf : e.write ((i : Int) + 1) key value = (if (tbAsk e.t ((i : Int) + 1) key (comesRound e.t ((i : Int) + 1) key)).2.2 ≠ 0 then (({ e1 with t := (tbAsk e.t ((i : Int) + 1) key (comesRound e.t ((i : Int) + 1) key)).1 } : Eng).goes i 11, false, 11)
   else if (tbAsk e.t ((i : Int) + 1) key (comesRound e.t ((i : Int) + 1) key)).2.1 = false then (({ e1 with t := (tbAsk e.t ((i : Int) + 1) key (comesRound e.t ((i : Int) + 1) key)).1 } : Eng).upd i fun x => { x with state := 1 }, false, 0)
   else if ((({ e1 with t := (tbAsk e.t ((i : Int) + 1) key (comesRound e.t ((i : Int) + 1) key)).1 } : Eng).puts i (key, value)).tx i).state = 3 then (({ e1 with t := (tbAsk e.t ((i : Int) + 1) key (comesRound e.t ((i : Int) + 1) key)).1 } : Eng).puts i (key, value), false, ((({ e1 with t := (tbAsk e.t ((i : Int) + 1) key (comesRound e.t ((i : Int) + 1) key)).1 } : Eng).puts i (key, value)).tx i).why) else (({ e1 with t := (tbAsk e.t ((i : Int) + 1) key (comesRound e.t ((i : Int) + 1) key)).1 } : Eng).puts i (key, value), true, 0)) := by
  unfold Eng.write
  rw [if_neg (by rw [h1]; decide), if_neg (by simpa using hk), if_neg (by simpa using hv)]
  simp only [hi2, he1]
 have hcase := asked_cases hok1 hi1 hs1 hk
 rw [ht1] at hcase
 have HC := hid hc; have HI := hid hI; have HI2 := hid hI2
 generalize raskT Qs ((i : Int) + 1) key (comesRound e.t ((i : Int) + 1) key) = rk at hask hST2 hout
 generalize tbAsk e.t ((i : Int) + 1) key (comesRound e.t ((i : Int) + 1) key) = tk at hask hST2 hout hf hcase
 rcases hcase with rfl | ⟨t', rfl, hok2⟩ | ⟨t', rfl, hok2⟩
 ·simp only at hask hf hST2
  rw [if_pos (by decide)] at hf
  have hok3 : OkT N ({ e1 with t := e.t } : Eng) [] := by rw [← ht1]; exact hok1
  have hti3 : Times ({ e1 with t := e.t } : Eng) := hti1.same rfl rfl
  have hgo := fun W h => rgoes_any ({ e1 with t := e.t } : Eng).open_ w0 W b bs _ i 11 L N [] M hok3 hti3 hi1 (by simp only [Tx.alive, decide_eq_true_eq]; show (e1.tx i).state ≤ 1; omega) (by simp) (Nat.le_refl _) (by omega) (by omega) h
  have hsm3 : Same ({ e1 with t := e.t } : Eng).V ({ e1 with t := e.t } : Eng).last K ∧ SameT ({ e1 with t := e.t } : Eng).t rk.1 ∧ Room M [] k ({ e1 with t := e.t } : Eng) := ⟨hS1, hST2, hR1⟩
  have HF := hid hf; have HA := hid hask; have HG := hid hgo; have HSM := hid hsm3
  clear hs hO h1 h2 hc hI hI2 hok hi2 hx hk hv he1 hok1 hlen1 hs1 hw1 ht1 hi1 hst hask hf hok3 hgo hti hti1 hti3 hwhy hwy1 hS hST hRm hS1 hR1 hch hST2 hout hsm3 hb hb2
  go_enter Tryz.func20, Tryz.ntmps20
  go_wp2_with fail
  with_reducible refine HC.out.mono ?_
  rintro r w' ⟨rfl, rfl⟩
  go_wp2_with (go_at_call 44; first | (with_reducible refine HI.out.mono ?_; rintro r w' ⟨rfl, rfl⟩) | (with_reducible refine HI2.out.mono ?_; rintro r w' ⟨rfl, rfl⟩))
  with_reducible refine HA.out.mono ?_
  rintro r w3 ⟨rfl, hs3⟩
  have H3 := hid (S.ren_shut (e := ({ e1 with t := e.t } : Eng)) HSM.out (hs3.conv (M := refP 47 109 b K e1.last :: rtabP 3 b 2 rk.1 :: renO b bs k e1 :: L) (by simp only [all]; ac_rfl)))
  clear hs3 HA HC
  go_wp2_with fail
  with_reducible refine (HG.out _ H3.out).mono ?_
  rintro r w4 ⟨rfl, hs4⟩
  have H4 := hid hs4
  clear hs4 H3 HG
  go_wp2_with fail
  go_ret2
  exact ⟨by rw [HF.out]; rfl, by rw [HF.out]; exact H4.out.ren_mono (Nat.le_succ M)⟩
 ·simp only at hask hf hST2
  rw [if_neg (by decide), if_neg (by decide)] at hf
  obtain ⟨e2, he2⟩ : ∃ e2 : Eng, ({ e1 with t := t' } : Eng) = e2 := ⟨_, rfl⟩
  rw [he2] at hf hok2
  have hti2 : Times e2 := by rw [← he2]; exact hti1.same rfl rfl
  have hwy2 : Whys e2 := by rw [← he2]; exact hwy1.same rfl
  have hi3 : i < e2.txs.length := by rw [← he2]; exact hi1
  have hs2 : (e2.tx i).state = 0 := by rw [← he2]; exact hs1
  have hw2 : (e2.tx i).want = (key, value) := by rw [← he2]; exact hw1
  have hput := hok2.to_put hi3 hs2 (w := (key, value)) hk hv
  have hwr := fun W h => rputs_any e2.open_ (rgoes_any e2.open_) w0 W b bs e2 i key value L (N + 200) [] (M + 1) hput hti2 (Nat.le_refl _) (by omega) hM h
  rw [show putsG (goesN e2.open_) e2 i (key, value) = e2.puts i (key, value) from rfl] at hwr
  have hlen3 := puts_len e2 i (key, value)
  have hop := puts_open hok2 hi3 hs2 (w := (key, value)) hk hv
  have hwy3 := hwy2.puts hok2 hi3 hs2 (w := (key, value)) hk hv
  have hR2 : Room (M + 1) [i] k e2 := by
   intro j hj
   have h := hR1 j (by rw [← he2] at hj; exact hj)
   have e4 : (e2.tx j).state = (e1.tx j).state := by rw [← he2]; rfl
   rw [e4]
   by_cases hx : (e1.tx j).state = 1
   ·rw [if_pos (.inl hx)] at h ⊢; omega
   ·rw [if_neg (by simp [hx])] at h
    split <;> omega
  have hst2 : ∀ W, S w0 W (rtabP 3 b 2 rk.1 :: refP 47 109 b K e1.last :: renO b bs k e1 :: L) → S w0 W (renP (M + 1) [i] b bs e2 :: L) := fun W h => by
   refine S.ren_shut (k := k) (K := K) (Qs := rk.1) ⟨by rw [← he2]; exact hS1, by rw [← he2]; exact hST2, hR2⟩ ?_
   rw [← he2]
   exact h.conv (M := refP 47 109 b K e1.last :: rtabP 3 b 2 rk.1 :: renO b bs k e1 :: L) (by simp only [all]; ac_rfl)
  have hcl : ∀ W (e : Eng) (T : List Nat) (M0 : Nat), i < e.txs.length → S w0 W (renP M0 T b bs e :: L) → W.cell? ⟨blkOf bs i, 8, none⟩ = some (.int .i64 (e.tx i).want.1) ∧ W.cell? ⟨blkOf bs i, 9, none⟩ = some (.int .i64 (e.tx i).want.2) ∧ W.cell? ⟨blkOf bs i, 1, none⟩ = some (.int .i64 (e.tx i).state) ∧ W.cell? ⟨blkOf bs i, 2, none⟩ = some (.int .i64 (e.tx i).why) := fun W e T M0 hi h => by
   obtain ⟨k', K', Qs', _, g⟩ := h.ren_open
   have g3 := (g.ren_o.ren_txc hi).2
   exact ⟨g3.want1, g3.want2, g3.state, g3.why⟩
  obtain ⟨e3, he3⟩ : ∃ e3, e2.puts i (key, value) = e3 := ⟨_, rfl⟩
  rw [he3] at hf hwr hlen3 hop hwy3
  have hi4 : i < e3.txs.length := by omega
  have hcl2 := fun W h => hcl W e2 [i] (M + 1) hi3 h
  rw [hw2] at hcl2
  have hcl3 := fun W h => hcl W e3 [] (M + 1) hi4 h
  have hwy4 := hwy3 i hi4
  have HF := hid hf; have HA := hid hask; have HW := hid hwr; have HST := hid hst2; have HCL2 := hid hcl2; have HCL3 := hid hcl3; have HWHY := hid hwy4; have HOP := hid hop
  clear hs hO h1 h2 hc hI hI2 hok hi2 hx hk hv he1 hok1 hlen1 hs1 hw1 ht1 hi1 hst hask hf hok2 he2 hi3 hs2 hw2 hput hwr hlen3 hop hwy3 hwy4 hst2 hcl he3 hi4 hcl2 hcl3 hti hti1 hti2 hwhy hwy1 hwy2 hS hST hRm hS1 hR1 hR2 hch hST2 hout hb hb2
  go_enter Tryz.func20, Tryz.ntmps20
  go_wp2_with fail
  with_reducible refine HC.out.mono ?_
  rintro r w' ⟨rfl, rfl⟩
  go_wp2_with (go_at_call 44; first | (with_reducible refine HI.out.mono ?_; rintro r w' ⟨rfl, rfl⟩) | (with_reducible refine HI2.out.mono ?_; rintro r w' ⟨rfl, rfl⟩))
  with_reducible refine HA.out.mono ?_
  rintro r w3 ⟨rfl, hs3⟩
  have hs3 := HST.out _ hs3
  obtain ⟨d8, d9, _, _⟩ := HCL2.out _ hs3
  have H3 := hid hs3
  clear hs3 HA HC HST HCL2 c8 c9 f8 f9
  go_wp2_with fail
  with_reducible refine (HW.out _ H3.out).mono ?_
  rintro r w4 ⟨rfl, hs4⟩
  obtain ⟨_, _, d1, d2⟩ := HCL3.out _ hs4
  have H4 := hid hs4
  clear hs4 H3 HW HCL3
  rcases HOP.out with hst3 | hst3
  ·have hff : e.write ((i : Int) + 1) key value = (e3, true, 0) := by rw [HF.out, if_neg (by rw [hst3]; decide)]
   have hy := HWHY.out (by rw [hst3]; decide)
   have HFF := hid hff
   rw [hst3] at d1
   rw [hy] at d2
   clear hst3 hff hy HF
   go_wp2_with fail
   go_quiet (fail)
   go_wp2_with fail
   go_ret2
   exact ⟨by rw [HFF.out]; rfl, by rw [HFF.out]; exact H4.out.drewN nq⟩
  ·have hff : e.write ((i : Int) + 1) key value = (e3, false, (e3.tx i).why) := by rw [HF.out, if_pos hst3]
   have HFF := hid hff
   rw [hst3] at d1
   clear hst3 hff HF
   go_wp2_with fail
   go_quiet (fail)
   go_wp2_with fail
   go_ret2
   exact ⟨by rw [HFF.out]; rfl, by rw [HFF.out]; exact H4.out.drewN nq⟩
 ·simp only at hask hf hST2
  rw [if_neg (by decide), if_pos trivial] at hf
  have hi3 : i < ({ e1 with t := t' } : Eng).txs.length := hi1
  have hR3 : Room (M + 1) [] k (({ e1 with t := t' } : Eng).upd i fun x => { x with state := 1 }) := by
   intro j hj
   have h := hR1 j (by rw [Eng.upd_len] at hj; exact hj)
   have : (if (e1.tx j).state = 1 ∨ j ∈ ([] : List Nat) then 1 else 0) ≥ 0 := Nat.zero_le _
   split <;> omega
  have hst2 : ∀ W, S w0 W (rtabP 3 b 2 rk.1 :: refP 47 109 b K e1.last :: renO b bs k e1 :: L) → W.cell? ⟨blkOf bs i, 1, none⟩ = some (.int .i64 (e1.tx i).state) ∧ W.frozen? ⟨blkOf bs i, 1, none⟩ = false ∧ S w0 (W.setCell ⟨blkOf bs i, 1, none⟩ (.int .i64 1)) (renP (M + 1) [] b bs (({ e1 with t := t' } : Eng).upd i fun x => { x with state := 1 }) :: L) := fun W h => by
   have g : S w0 W (renO b bs k ({ e1 with t := t' } : Eng) :: refP 47 109 b K e1.last :: rtabP 3 b 2 rk.1 :: L) := S.conv h (by
    show all (rtabP 3 b 2 rk.1 :: refP 47 109 b K e1.last :: renO b bs k e1 :: L) = all (renO b bs k e1 :: refP 47 109 b K e1.last :: rtabP 3 b 2 rk.1 :: L)
    simp only [all]; ac_rfl)
   have g0 := (g.ren_txc hi3).2
   have g1 := g.ren_set (j := 1) (u := .int .i64 1) hi3 (fun x => { x with state := 1 }) (by decide) rfl rfl rfl rfl rfl
   refine ⟨g0.state, g0.free 1, S.ren_shut (k := k) (K := K) (Qs := rk.1) (e := ({ e1 with t := t' } : Eng).upd i fun x => { x with state := 1 }) ⟨hS1, hST2, hR3⟩ (S.conv g1 ?_)⟩
   show all (renO b bs k (({ e1 with t := t' } : Eng).upd i fun x => { x with state := 1 }) :: refP 47 109 b K e1.last :: rtabP 3 b 2 rk.1 :: L) = all (refP 47 109 b K e1.last :: rtabP 3 b 2 rk.1 :: renO b bs k (({ e1 with t := t' } : Eng).upd i fun x => { x with state := 1 }) :: L)
   simp only [all]; ac_rfl
  have HF := hid hf; have HA := hid hask; have HST := hid hst2
  clear hs hO h1 h2 hc hI hI2 hok hi2 hx hk hv he1 hok1 hlen1 hs1 hw1 ht1 hi1 hst hask hf hok2 hi3 hst2 hti hti1 hwhy hwy1 hS hST hRm hS1 hR1 hch hST2 hout hR3 hb hb2
  go_enter Tryz.func20, Tryz.ntmps20
  go_wp2_with fail
  with_reducible refine HC.out.mono ?_
  rintro r w' ⟨rfl, rfl⟩
  go_wp2_with (go_at_call 44; first | (with_reducible refine HI.out.mono ?_; rintro r w' ⟨rfl, rfl⟩) | (with_reducible refine HI2.out.mono ?_; rintro r w' ⟨rfl, rfl⟩))
  with_reducible refine HA.out.mono ?_
  rintro r w3 ⟨rfl, hs3⟩
  obtain ⟨d1, f1, hs4⟩ := HST.out _ hs3
  have H3 := hid hs4
  clear hs3 hs4 HA HC HST c8 c9 f8 f9
  go_wp2_with fail
  go_ret2
  exact ⟨by rw [HF.out]; rfl, by rw [HF.out]; exact H3.out⟩
end Go.Proofs.YtmfngjclccehaaaGreatDoor
namespace Go.Proofs.YtmfngjclccehaaaGreatDoor
open Go Go.RowKit Go.Sep
section
variable {w w0 : World} {L : List HProp} {b : Nat} {bs : List Nat} {k : EngV} {e : Eng} {i : Nat}
def bgX (b : Nat) (bs : List Nat) (k : EngV) (e : Eng) : HProp :=
 sep (pur (k.tv.length = e.txs.length ∧ bs.length = e.txs.length ∧ bs.Nodup)) (sep (shp b 67 18) (sep (cells b 14 [k.txv, .int .i64 e.count, .map (some k.wb), k.hv]) (sep (mp encI (fun _ => True) k.wb (ienc e.wr)) (sep (sl 129 4 k.hv e.hist.length (fcells opc e.hist)) (all (txPs bs k.tv e.txs))))))
theorem _root_.Go.Sep.S.bg_open (h : S w0 w (engO b bs k e :: L)) : S w0 w (sl 120 1 k.txv e.txs.length (ptrs bs (List.range e.txs.length)) :: bgX b bs k e :: L) := by
 obtain ⟨h0, h⟩ := h.sep_elim.pur_elim
 obtain ⟨⟨h1, _, h3⟩, h⟩ := h.engG_parts
 refine S.swap (.sep_intro (.pur_intro ⟨h0, h1, h3⟩ (h.conv ?_)))
 simp only [all]; ac_rfl
theorem _root_.Go.Sep.S.bg_see (h : S w0 w (bgX b bs k e :: L)) : w.cell? ⟨b, 14, none⟩ = some k.txv ∧ w.frozen? ⟨b, 14, none⟩ = false ∧ w.cell? ⟨b, 15, none⟩ = some (.int .i64 e.count) ∧ ∀ i, i < e.txs.length → blkOf bs i < w.heap.size := by
 obtain ⟨⟨h0, h1, h3⟩, h⟩ := h.sep_elim.pur_elim
 have h4 : S w0 w (cells b 14 [k.txv, .int .i64 e.count, .map (some k.wb), k.hv] :: all (txPs bs k.tv e.txs) :: shp b 67 18 :: mp encI (fun _ => True) k.wb (ienc e.wr) :: sl 129 4 k.hv e.hist.length (fcells opc e.hist) :: L) := h.conv (by simp only [all]; ac_rfl)
 refine ⟨h4.cells_cell 0 rfl, h4.cells_free 0 (show _ = some k.txv from rfl), h4.cells_cell 1 rfl, fun i hi => ?_⟩
 have hl : i < (txPs bs k.tv e.txs).length := by rw [txPs_length]; exact hi
 have h5 : S w0 w ((txPs bs k.tv e.txs)[i] :: all ((txPs bs k.tv e.txs).set i emp) :: cells b 14 [k.txv, .int .i64 e.count, .map (some k.wb), k.hv] :: shp b 67 18 :: mp encI (fun _ => True) k.wb (ienc e.wr) :: sl 129 4 k.hv e.hist.length (fcells opc e.hist) :: L) := by
  refine h4.conv ?_
  simp only [all]
  rw [all_set _ i hl emp, emp_sep, all_pick _ i hl]
  ac_rfl
 rw [txPs_get hl] at h5
 exact h5.tx_see.2.1
def newTx (level start begun : Int) : Tx := { Tx.zero with level := level, start := start, begun := begun }
def newCells (level start begun : Int) (m : Nat) : List Value := [.int .i64 level, .int .i64 0, .int .i64 start, .int .i64 begun, .int .i64 0, .slice none 0 0, .map (some m), .int .i64 0, .int .i64 0, .slice none 0 0, .slice none 0 0, .int .i64 0]
theorem blkOf_old {bs : List Nat} {x j : Nat} (h : j < bs.length) : blkOf (bs ++ [x]) j = blkOf bs j := by unfold blkOf; rw [List.getElem?_append_left h]
theorem blkOf_new (bs : List Nat) (x : Nat) : blkOf (bs ++ [x]) bs.length = x := by unfold blkOf; simp
theorem ptrs_old {bs : List Nat} {x : Nat} {l : List Nat} (h : ∀ j ∈ l, j < bs.length) : ptrs (bs ++ [x]) l = ptrs bs l := by
 unfold ptrs
 apply List.map_congr_left
 intro j hj
 unfold ptr
 rw [blkOf_old (h j hj)]
theorem txPs_snoc {bs : List Nat} {bx : Nat} {tv : List TxV} {txs : List Tx} {x : Tx} {v : TxV} (hb : bs.length = txs.length) (ht : tv.length = txs.length) (hr : ∀ y ∈ txs, ∀ j ∈ y.fore ++ y.aft, j < txs.length) :
  txPs (bs ++ [bx]) (tv ++ [v]) (txs ++ [x]) = txPs bs tv txs ++ [txK (bs ++ [bx]) bx v x] := by
 apply List.ext_getElem (by simp [txPs])
 intro j h1 h2
 rw [txPs_length, List.length_append, List.length_singleton] at h1
 simp only [txPs, List.getElem_map, List.getElem_range, List.getElem_append, List.length_map, List.length_range]
 by_cases hj : j < txs.length
 ·rw [dif_pos hj, List.getElem?_append_left (by omega), List.getElem?_append_left hj, blkOf_old (by omega)]
  have hx : (txs[j]?).getD .zero ∈ txs := by simp [hj]
  generalize (txs[j]?).getD .zero = y at hx
  have h3 := hr y hx
  unfold txK txR
  rw [ptrs_old (fun m hm => by have := h3 m (by simp [hm]); omega), ptrs_old (fun m hm => by have := h3 m (by simp [hm]); omega)]
 ·obtain rfl : j = txs.length := by omega
  rw [dif_neg hj]
  simp only [List.getElem?_append_right (Nat.le_refl _), Nat.sub_self, List.getElem?_cons_zero, Option.getD_some, List.getElem_singleton]
  rw [show txs.length = bs.length by omega, blkOf_new, List.getElem?_append_right (by omega), hb, ht, Nat.sub_self]
  rfl
theorem _root_.Go.Sep.S.bg_close {bx m : Nat} {v' : Value} {level start begun : Int} (hr : ∀ y ∈ e.txs, ∀ j ∈ y.fore ++ y.aft, j < e.txs.length) (hne : ∀ i, i < e.txs.length → blkOf bs i ≠ bx)
  (h : S w0 w (sl 120 1 v' (e.txs.length + 1) (ptrs bs (List.range e.txs.length) ++ [.pointer (some ⟨bx, 0, none⟩)]) :: bgX b bs k e :: blk bx 123 (newCells level start begun m) :: mp encI (fun _ => True) m [] :: L)) :
  ∃ k', S w0 (w.setCell ⟨b, 14, none⟩ v') (engO b (bs ++ [bx]) k' { e with txs := e.txs ++ [newTx level start begun] } :: L) := by
 have h0 : S w0 w (bgX b bs k e :: sl 120 1 v' (e.txs.length + 1) (ptrs bs (List.range e.txs.length) ++ [.pointer (some ⟨bx, 0, none⟩)]) :: blk bx 123 (newCells level start begun m) :: mp encI (fun _ => True) m [] :: L) := h.swap
 obtain ⟨⟨h1, h2, h3⟩, h4⟩ := h0.sep_elim.pur_elim
 have h5 : S w0 w (cells b 14 [k.txv, .int .i64 e.count, .map (some k.wb), k.hv] :: shp b 67 18 :: mp encI (fun _ => True) k.wb (ienc e.wr) :: sl 129 4 k.hv e.hist.length (fcells opc e.hist) :: all (txPs bs k.tv e.txs) :: sl 120 1 v' (e.txs.length + 1) (ptrs bs (List.range e.txs.length) ++ [.pointer (some ⟨bx, 0, none⟩)]) :: blk bx 123 (newCells level start begun m) :: mp encI (fun _ => True) m [] :: L) := h4.conv (by simp only [all]; ac_rfl)
 have h6 := h5.set 0 (by simp) v'
 have h7 := S.sl_nil (e := 139) (size := 2) (S.sl_nil (e := 120) (size := 1) (S.sl_nil (e := 120) (size := 1) h6))
 let v : TxV := ⟨.slice none 0 0, .slice none 0 0, .slice none 0 0, m⟩
 have hps : txPs (bs ++ [bx]) (k.tv ++ [v]) (e.txs ++ [newTx level start begun]) = txPs bs k.tv e.txs ++ [txK (bs ++ [bx]) bx v (newTx level start begun)] := txPs_snoc h2 h1 hr
 have hpt : ptrs (bs ++ [bx]) (List.range (e.txs.length + 1)) = ptrs bs (List.range e.txs.length) ++ [.pointer (some ⟨bx, 0, none⟩)] := by
  rw [List.range_succ]
  unfold ptrs
  rw [List.map_append, List.map_cons, List.map_nil]
  have e1 : ptr (bs ++ [bx]) e.txs.length = .pointer (some ⟨bx, 0, none⟩) := by unfold ptr; rw [← h2, blkOf_new]
  rw [e1]
  congr 1
  apply List.map_congr_left
  intro j hj
  rw [List.mem_range] at hj
  unfold ptr
  rw [blkOf_old (by omega)]
 have hnb : (bs ++ [bx]).Nodup := by
  rw [List.nodup_append]
  refine ⟨h3, by simp, fun a ha c hc => ?_⟩
  rw [List.mem_singleton] at hc
  subst hc
  obtain ⟨j, hj⟩ := List.getElem?_of_mem ha
  have hjl := (List.getElem?_eq_some_iff.1 hj).1
  intro e1
  have := hne j (by omega)
  unfold blkOf at this
  rw [hj] at this
  exact this e1
 refine ⟨⟨k.tv ++ [v], v', k.hv, k.wb⟩, .sep_intro (.pur_intro (by simp [h1]) ?_)⟩
 refine S.engG_join ⟨by simp [h2], by rw [txPs_length], hnb⟩ ?_
 simp only [List.length_append, List.length_singleton]
 rw [hps, hpt, all_append]
 refine h7.conv ?_
 simp only [all, sep_emp]
 show _ = sep _ (sep _ (sep _ (sep _ (sep (sep (all (txPs bs k.tv e.txs)) (sep (blk bx 123 (newCells level start begun m)) (sep (sl 139 2 (.slice none 0 0) 0 []) (sep (mp encI (fun _ => True) m []) (sep (sl 120 1 (.slice none 0 0) 0 []) (sl 120 1 (.slice none 0 0) 0 [])))))) _))))
 ac_rfl
end
theorem one_pt (x : Nat) : ∀ u ∈ [Value.pointer (some ⟨x, 0, none⟩)], u.oneCell' = true := by
 intro u hu; simp only [List.mem_singleton] at hu; subst hu; rfl
theorem open_take {e : Eng} {m : Nat} (h : m < e.txs.length) : (e.txs.take (m + 1)).countP Tx.alive = (e.txs.take m).countP Tx.alive + if (e.tx m).alive = true then 1 else 0 := by
 rw [take_succ_get (Eng.tx_some h), List.countP_append, List.countP_cons, List.countP_nil]; simp
set_option linter.unusedSimpArgs false in
set_option maxRecDepth 100000 in
set_option maxHeartbeats 8000000 in
theorem ebegin_any (w0 w : World) (b : Nat) (bs : List Nat) (e : Eng) (level : Int) (L : List HProp) (N : Nat) (hok : OkT N e []) (hs : S w0 w (engP b bs e :: L)) :
  Calls Tryz.prog 16 #[.pointer (some ⟨b, 0, none⟩), .int .i64 level] w fun r w' => r = .returned (.tuple #[.int .i64 (e.begin_ level).2.1, errV (e.begin_ level).2.2]) ∧ ∃ bs', S w0 w' (engP b bs' (e.begin_ level).1 :: L) := by
 have HS := hid hs
 obtain ⟨k, hs⟩ := hs.eng_open
 have hO : S w0 w (engO b bs k e :: storeP 107 b 0 e.V e.last :: tabP 3 b 11 e.t :: L) := hs.conv (by simp only [all]; ac_rfl)
 have hc := hO.eng_c.2
 have c14 := hc.txs
 have c15 := hc.count
 have f15 := hc.free 15 (by omega) (by omega)
 obtain ⟨a, cap, hv, hle, hcap, hrow⟩ := hc.row
 rw [hv] at c14
 unfold maxLen at hcap
 have htx : ∀ j, j < e.txs.length → TxC w bs (blkOf bs j) (k.v j) (e.tx j) := fun j hj => (hO.eng_txc hj).2
 have hN200 := hok.few
 have hcnt := hok.cnt
 have hopn : ∀ m, (e.txs.take m).countP Tx.alive ≤ e.txs.length := fun m => Nat.le_trans List.countP_le_length (by rw [List.length_take]; omega)
 have hrefs : ∀ y ∈ e.txs, ∀ j ∈ y.fore ++ y.aft, j < e.txs.length := fun y hy => (hok.txs y hy).refs
 have hset := (hO.eng_count (e.count + 1))
 have hset2 : S w0 (w.setCell ⟨b, 15, none⟩ (.int .i64 (e.count + 1))) (sl 120 1 (.slice a e.txs.length cap) e.txs.length (ptrs bs (List.range e.txs.length)) :: bgX b bs k { e with count := e.count + 1 } :: storeP 107 b 0 e.V e.last :: tabP 3 b 11 e.t :: L) := by
  rw [← hv]; exact hset.bg_open
 have hq : ∀ W {M M' : List HProp}, S w0 W (bgX b bs k { e with count := e.count + 1 } :: M) → S w0 W (storeP 107 b 0 e.V e.last :: M') → W.cell? ⟨b, 14, none⟩ = some (.slice a e.txs.length cap) ∧ W.cell? ⟨b, 15, none⟩ = some (.int .i64 (e.count + 1)) ∧ W.cell? ⟨b, 10, none⟩ = some (.int .i64 e.last) := fun W M M' h h2 => by
  obtain ⟨g1, _, g3, _⟩ := h.bg_see
  exact ⟨by rw [g1, hv], g3, h2.store_last.1⟩
 have hf14 : ∀ W {M : List HProp}, S w0 W (bgX b bs k { e with count := e.count + 1 } :: M) → W.frozen? ⟨b, 14, none⟩ = false := fun W M h => h.bg_see.2.1
 have hne : ∀ W {M : List HProp}, S w0 W (bgX b bs k { e with count := e.count + 1 } :: M) → ∀ i, i < e.txs.length → blkOf bs i ≠ W.heap.size := fun W M h i hi => by
  have := h.bg_see.2.2.2 i hi; omega
 have hla : ∀ W {M : List HProp}, S w0 W (storeP 107 b 0 e.V e.last :: M) → Calls Tryz.prog 48 #[.pointer (some ⟨b, 0, none⟩)] W fun r w' => r = .returned (.int .i64 e.last) ∧ W = w' := fun W M h => last_any b 0 e.last W h.store_last.1
 have hcl : ∀ W (v' : Value) (b16 m14 : Nat) (Y : HProp), (∀ i, i < e.txs.length → blkOf bs i ≠ b16) → S w0 W (sl 120 1 v' (e.txs.length + 1) (ptrs bs (List.range e.txs.length) ++ [.pointer (some ⟨b16, 0, none⟩)]) :: bgX b bs k { e with count := e.count + 1 } :: blk b16 123 (newCells level e.last (e.count + 1) m14) :: mp encI (fun _ => True) m14 [] :: storeP 107 b 0 e.V e.last :: tabP 3 b 11 e.t :: Y :: L) →
   ∃ bs', S w0 (W.setCell ⟨b, 14, none⟩ v') (engP b bs' { e with count := e.count + 1, txs := e.txs ++ [{ Tx.zero with level := level, start := e.last, begun := e.count + 1 }] } :: L) := fun W v' b16 m14 Y hn h => by
  obtain ⟨k', g⟩ := S.bg_close (e := { e with count := e.count + 1 }) hrefs hn h
  refine ⟨bs ++ [b16], ?_⟩
  have g2 := g.conv (M := Y :: storeP 107 b 0 e.V e.last :: tabP 3 b 11 e.t :: engO b (bs ++ [b16]) k' { e with count := e.count + 1, txs := e.txs ++ [newTx level e.last (e.count + 1)] } :: L) (by simp only [all]; ac_rfl)
  exact S.eng_shut (k := k') (e := { e with count := e.count + 1, txs := e.txs ++ [newTx level e.last (e.count + 1)] }) g2.tail
 have hlen : ∀ W bs' e2, S w0 W (engP b bs' e2 :: L) → ∃ a2 cap2, W.cell? ⟨b, 14, none⟩ = some (.slice a2 e2.txs.length cap2) := fun W bs' e2 h => by
  obtain ⟨k2, h2⟩ := h.eng_open
  have g : S w0 W (engO b bs' k2 e2 :: storeP 107 b 0 e2.V e2.last :: tabP 3 b 11 e2.t :: L) := h2.conv (by simp only [all]; ac_rfl)
  obtain ⟨a2, cap2, hv2, _⟩ := g.eng_c.2.row
  have := g.eng_c.2.txs
  rw [hv2] at this
  exact ⟨a2, cap2, this⟩
 have hrowl : e.txs.length + 1 ≤ 1000000000000 := by omega
 have HROW := hid hrow; have HTX := hid htx; have HOP := hid hopn; have HSET := hid hset2; have HQ := hid hq; have HF := hid hf14; have HNE := hid hne; have HLA := hid hla; have HCL := hid hcl; have HA := hid hrowl; have HLEN := hid hlen; have HCNT := hid hcnt; have HFEW := hid hN200
 clear hs hO hc hv hrow htx hopn hset hset2 hq hf14 hne hla hcl hrowl hok hrefs hlen hcnt hN200
 go_enter Tryz.func16, Tryz.ntmps16
 go_wp2_with fail
 go_loopw [6, 14] (fun f c wr => ∃ m : Nat, m ≤ e.txs.length ∧ c = .int .i64 m ∧ f = .int .i64 ((e.txs.take m).countP Tx.alive : Nat) ∧ wr = w) (fun _ c _ => e.txs.length - (intOf c).toNat)
 case atStart => exact ⟨0, Nat.zero_le _, rfl, by simp, rfl⟩
 case round =>
  obtain ⟨m, hm, rfl, rfl, rfl⟩ := hrel
  have hol := HOP.out m
  have h200 := HFEW.out
  by_cases hlt : m < e.txs.length
  ·obtain ⟨g, o, rfl, ci⟩ := HROW.out m hlt
   unfold ptr at ci
   have x1 := (HTX.out m hlt).state
   have hst := open_take hlt
   generalize hf : (e.txs.take m).countP Tx.alive = f at *
   have HST := hid hst
   clear hst hf
   by_cases h1 : (e.tx m).state ≤ 1
   ·have hb1 : decide ((e.tx m).state ≤ 1) = true := decide_eq_true h1
    have hf2 : (e.txs.take (m + 1)).countP Tx.alive = f + 1 := by rw [HST.out, if_pos (by simpa [Tx.alive] using h1)]
    have HF2 := hid hf2
    clear hf2 HST h1
    go_wp2_with fail
    go_roundw
    case rel => exact ⟨m + 1, by omega, by go_num, by rw [HF2.out]; go_num, by first | rfl | trivial⟩
    case measure => simp [intOf]; omega
   ·have hb1 : decide ((e.tx m).state ≤ 1) = false := decide_eq_false h1
    have hf2 : (e.txs.take (m + 1)).countP Tx.alive = f := by rw [HST.out, if_neg (by simpa [Tx.alive] using h1)]; rfl
    have HF2 := hid hf2
    clear hf2 HST h1
    go_wp2_with fail
    go_roundw
    case rel => exact ⟨m + 1, by omega, by go_num, by rw [HF2.out], by first | rfl | trivial⟩
    case measure => simp [intOf]; omega
  ·obtain rfl : m = e.txs.length := by omega
   have hop : (e.txs.take e.txs.length).countP Tx.alive = e.open_ := by rw [List.take_length]; rfl
   rw [hop] at hol ⊢
   have hlo : ∀ X : Eng × Int × Int, (level < 0 ∨ 2 < level) → e.begin_ level = (e, 0, 1) := fun _ h => by unfold Eng.begin_; rw [if_pos h]
   by_cases hl0 : level < 0
   ·have hf : e.begin_ level = (e, 0, 1) := hlo (e, 0, 0) (.inl hl0)
    have HF2 := hid hf
    clear hf hlo hop
    go_wp2_with fail
    go_ret2
    exact ⟨by rw [HF2.out]; rfl, bs, by rw [HF2.out]; exact HS.out⟩
   by_cases hl2 : 2 < level
   ·have hf : e.begin_ level = (e, 0, 1) := hlo (e, 0, 0) (.inr hl2)
    have HF2 := hid hf
    clear hf hlo hop
    go_wp2_with fail
    go_ret2
    exact ⟨by rw [HF2.out]; rfl, bs, by rw [HF2.out]; exact HS.out⟩
   clear hlo
   have hng : ¬ (level < 0 ∨ 2 < level) := by omega
   by_cases hfull : 200 ≤ e.txs.length
   ·have hf : e.begin_ level = (e, 0, 12) := by unfold Eng.begin_; rw [if_neg hng, if_pos hfull]
    have HF2 := hid hf
    have hfi : (200 : Int) ≤ (e.txs.length : Int) := by omega
    clear hf hop hng
    go_wp2_with fail
    go_ret2
    exact ⟨by rw [HF2.out]; rfl, bs, by rw [HF2.out]; exact HS.out⟩
   have hfi : ¬ (200 : Int) ≤ (e.txs.length : Int) := by omega
   by_cases hsix : 6 ≤ e.open_
   ·have hf : e.begin_ level = (e, 0, 4) := by unfold Eng.begin_; rw [if_neg hng, if_neg hfull, if_pos hsix]
    have HF2 := hid hf
    have hsi : (6 : Int) ≤ (e.open_ : Int) := by omega
    clear hf hop hng
    go_wp2_with fail
    go_ret2
    exact ⟨by rw [HF2.out]; rfl, bs, by rw [HF2.out]; exact HS.out⟩
   have hsi : ¬ (6 : Int) ≤ (e.open_ : Int) := by omega
   have hf : e.begin_ level = ({ e with count := e.count + 1, txs := e.txs ++ [{ Tx.zero with level := level, start := e.last, begun := e.count + 1 }] }, (e.txs.length : Int) + 1, 0) := by unfold Eng.begin_; rw [if_neg hng, if_neg hfull, if_neg hsix]
   have HF2 := hid hf
   have hc1 := HCNT.out.1
   have hc2 := HCNT.out.2
   clear hf hop hng HTX HROW HOP
   obtain ⟨i0, hi0, hz0, hz1, hz2⟩ := info_parts Tryz.info120
   go_upto_region 15 with fail
   have HS0 := HSET
   clear HSET
   obtain ⟨ar, har⟩ : ∃ x, x = a := ⟨_, rfl⟩
   obtain ⟨cr, hcr⟩ : ∃ x, x = cap := ⟨_, rfl⟩
   rw [← har, ← hcr] at HS0 HQ
   clear har hcr
   go_cut [] (fun wx => ∃ bs', S w0 wx (engP b bs' { e with count := e.count + 1, txs := e.txs ++ [{ Tx.zero with level := level, start := e.last, begun := e.count + 1 }] } :: L))
   case first =>
    refine region_U (S := fun w' => w'.cell? ⟨b, 14, none⟩ = some (.slice ar e.txs.length cr) ∧ w'.cell? ⟨b, 15, none⟩ = some (.int .i64 (e.count + 1)) ∧ w'.cell? ⟨b, 10, none⟩ = some (.int .i64 e.last)) (u := 21) (by kernel_rfl) (HQ.out _ (HS0.out.drew.nth 1 rfl) (HS0.out.drew.nth 2 rfl)) (fun hHeld => ?_)
    refine anyU_take (i := 0) (v := ?_) rfl (by kernel_rfl) (fun _ _ _ h => h) (Or.inl ⟨by rfl, ?_⟩) hHeld ?_
    rotate_left
    ·(intro w hSw; (try dsimp only at hSw); go_simp) <;> with_reducible rfl
    try simp only [putU]
    refine anyU_take (i := 1) (v := ?_) rfl (by kernel_rfl) (fun _ _ _ h => h) (Or.inl ⟨by rfl, ?_⟩) hHeld ?_
    rotate_left
    ·(intro w hSw; (try dsimp only at hSw); go_simp) <;> with_reducible rfl
    try simp only [putU]
    refine anyU_take (i := 2) (v := ?_) rfl (by kernel_rfl) (fun _ _ _ h => h) (Or.inl ⟨by rfl, ?_⟩) hHeld ?_
    rotate_left
    ·(intro w hSw; (try dsimp only at hSw); go_simp) <;> with_reducible rfl
    try simp only [putU]
    refine anyU_take (i := 3) (v := ?_) rfl (by kernel_rfl) (fun _ _ _ h => h) (Or.inl ⟨by rfl, ?_⟩) hHeld ?_
    rotate_left
    ·(intro w hSw; (try dsimp only at hSw); go_simp) <;> with_reducible rfl
    try simp only [putU]
    refine anyU_take (i := 4) (v := ?_) rfl (by kernel_rfl) (fun _ _ _ h => h) (Or.inl ⟨by rfl, ?_⟩) hHeld ?_
    rotate_left
    ·(intro w hSw; (try dsimp only at hSw); go_simp) <;> with_reducible rfl
    try simp only [putU]
    refine anyU_take (i := 5) (v := ?_) rfl (by kernel_rfl) (fun _ _ _ h => h) (Or.inl ⟨by rfl, ?_⟩) hHeld ?_
    rotate_left
    ·(intro w hSw; (try dsimp only at hSw); go_simp) <;> with_reducible rfl
    try simp only [putU]
    refine anyU_take (i := 6) (v := ?_) rfl (by kernel_rfl) (fun _ _ _ h => h) (Or.inl ⟨by rfl, ?_⟩) hHeld ?_
    rotate_left
    ·(intro w hSw; (try dsimp only at hSw); go_simp) <;> with_reducible rfl
    try simp only [putU]
    refine anyU_take (i := 7) (v := ?_) rfl (by kernel_rfl) (fun _ _ _ h => h) (Or.inl ⟨by rfl, ?_⟩) hHeld ?_
    rotate_left
    ·(intro w hSw; (try dsimp only at hSw); go_simp) <;> with_reducible rfl
    try simp only [putU]
    refine anyU_take (i := 8) (v := ?_) rfl (by kernel_rfl) (fun _ _ _ h => h) (Or.inl ⟨by rfl, ?_⟩) hHeld ?_
    rotate_left
    ·(intro w hSw; (try dsimp only at hSw); go_simp) <;> with_reducible rfl
    try simp only [putU]
    refine anyU_take (i := 10) (v := ?_) rfl (by kernel_rfl) (fun _ _ _ h => h) (Or.inl ⟨by rfl, ?_⟩) hHeld ?_
    rotate_left
    ·(intro w hSw; (try dsimp only at hSw); go_simp) <;> with_reducible rfl
    try simp only [putU]
    refine anyU_take (i := 11) (v := ?_) rfl (by kernel_rfl) (fun _ _ _ h => h) (Or.inl ⟨by rfl, ?_⟩) hHeld ?_
    rotate_left
    ·(intro w hSw; (try dsimp only at hSw); go_simp) <;> with_reducible rfl
    try simp only [putU]
    refine anyU_take (i := 12) (v := ?_) rfl (by kernel_rfl) (fun _ _ _ h => h) (Or.inl ⟨by rfl, ?_⟩) hHeld ?_
    rotate_left
    ·(intro w hSw; (try dsimp only at hSw); go_simp) <;> with_reducible rfl
    try simp only [putU]
    refine anyU_take (i := 13) (v := ?_) rfl (by kernel_rfl) (fun _ _ _ h => h) (Or.inl ⟨by rfl, ?_⟩) hHeld ?_
    rotate_left
    ·(intro w hSw; (try dsimp only at hSw); go_simp) <;> with_reducible rfl
    try simp only [putU]
    have HS := hid HS0.out.drew
    clear hHeld
    refine anyU_world (fun w => Hid (S w0 w _)) HS (fun w1 HS => ?_)
    clear HS0
    refine anyU_next (rs := [9, 14]) (by kernel_rfl) (by simp) ?_
    refine NextU.cons rfl (fun K hK => ?_) ?_
    ·go_simp
     go_wp2_with (go_at_call 48; with_reducible refine (HLA.out _ (HS.out.nth 2 rfl)).mono ?_; rintro r w9 ⟨rfl, rfl⟩)
     refine hK.out _ _ (fun _ => (HQ.out _ (HS.out.nth 1 rfl) (HS.out.nth 2 rfl))) ?_
     clear hK K
     refine anyU_next (rs := [14]) (by kernel_rfl) (by simp) ?_
     refine NextU.cons rfl (fun K hK => ?_) ?_
     ·have hmm := @run_makeMap Tryz.prog
      go_simp
      clear hmm
      replace HS := hid (HS.out.made (enc := Sep.encI) (ok := fun _ => True))
      generalize w1.heap.size = m14 at HS ⊢
      refine act_any (fun w => Hid (S w0 w _)) HS (fun w2 HS => ?_)
      refine hK.out _ _ (fun _ => (HQ.out _ (HS.out.nth 2 rfl) (HS.out.nth 3 rfl))) ?_
      clear hK K
      refine anyU_take (i := 15) (v := ?_) rfl (by kernel_rfl) (fun _ _ _ h => h) (Or.inl ⟨by rfl, ?_⟩) (HQ.out _ (HS.out.nth 2 rfl) (HS.out.nth 3 rfl)) ?_
      rotate_left
      ·(intro w hSw; (try dsimp only at hSw); go_simp) <;> with_reducible rfl
      try simp only [putU]
      refine anyU_next (rs := [16]) (by kernel_rfl) (by simp) ?_
      refine NextU.cons rfl (fun K hK => ?_) ?_
      ·go_simp
       have hne := HNE.out _ (HS.out.nth 2 rfl)
       have HNX := hid hne
       clear hne
       replace HS := hid (HS.out.alloc (newCells level e.last (e.count + 1) m14).toArray 123)
       generalize w2.heap.size = b16 at HS HNX ⊢
       refine act_any (fun w => Hid (S w0 w _)) HS (fun w3 HS => ?_)
       refine hK.out _ _ (fun _ => (HQ.out _ (HS.out.nth 3 rfl) (HS.out.nth 4 rfl))) ?_
       clear hK K
       refine anyU_next (rs := [17]) (by kernel_rfl) (by simp) ?_
       refine NextU.cons rfl (fun K hK => ?_) ?_
       ·go_simp
        replace HS := hid (HS.out.alloc_slU (e := 120) (size := 1) [.pointer (some ⟨b16, 0, none⟩)] 1 rfl (by unfold maxLen; omega))
        generalize w3.heap.size = b17 at HS ⊢
        refine act_any (fun w => Hid (S w0 w _)) HS (fun w4 HS => ?_)
        refine hK.out _ _ (fun _ => (HQ.out _ (HS.out.nth 4 rfl) (HS.out.nth 5 rfl))) ?_
        clear hK K
        refine anyU_next (rs := [18]) (by kernel_rfl) (by simp) ?_
        refine NextU.cons rfl (fun K hK => ?_) ?_
        ·refine step_appU rfl (.tmp 57) (.tmp 70) 65 rfl 120 i0 _ 1 8 Tryz.underlying65 hi0 hz0 hz1 hz2 rfl (by decide) HS.out 3 (by rfl) (by rfl) _ 1 1 [.pointer (some ⟨b16, 0, none⟩)] (by rfl) rfl (HS.out.news_slK 0 (by rfl)) (one_pt _) HA.out (by decide) ?_
         intro v18 w5 hs
         replace HS := hid hs
         clear hs
         obtain ⟨p18, c18, rfl, _, _, _⟩ := HS.out.sl_val
         refine hK.out _ _ (fun _ => (HQ.out _ (HS.out.nth 4 rfl) (HS.out.nth 5 rfl))) ?_
         clear hK K
         try simp only [putU]
         refine anyU_pure (i := 19) (v := ?_) rfl (by kernel_rfl) (fun _ _ _ h => h) (Or.inl ⟨by rfl, ?_⟩) (fun _ => (HQ.out _ (HS.out.nth 4 rfl) (HS.out.nth 5 rfl))) ?_
         rotate_left
         ·(intro w _; go_simp) <;> with_reducible rfl
         try simp only [putU]
         refine anyU_take (i := 20) (v := ?_) rfl (by kernel_rfl) (fun _ _ _ h => h) (Or.inl ⟨by rfl, ?_⟩) (HQ.out _ (HS.out.nth 4 rfl) (HS.out.nth 5 rfl)) ?_
         rotate_left
         ·(intro w hSw; (try dsimp only at hSw); go_simp) <;> with_reducible rfl
         try simp only [putU]
         refine anyU_next (rs := [21]) (by kernel_rfl) (by simp) ?_
         refine NextU.cons rfl (fun K hK => ?_) ?_
         ·have q1 := HF.out _ (HS.out.nth 4 rfl)
          have q0 := (HQ.out _ (HS.out.nth 4 rfl) (HS.out.nth 5 rfl)).1
          go_simp
          refine hK.out _ _ (fun h => Bool.noConfusion (show true = false from h)) ?_
          clear hK K q0 q1
          refine anyU_done (by kernel_rfl) ?_ _
          go_wp2_with fail
          go_meet
          have HZ := HS.out
          simp only [List.eraseIdx_cons_succ, List.eraseIdx_cons_zero] at HZ
          exact HCL.out _ _ _ _ _ HNX.out (HZ.conv (M := sl 120 1 (.slice p18 (e.txs.length + 1) c18) (e.txs.length + 1) (ptrs bs (List.range e.txs.length) ++ [.pointer (some ⟨b16, 0, none⟩)]) :: bgX b bs k { e with count := e.count + 1 } :: blk b16 123 (newCells level e.last (e.count + 1) m14) :: mp encI (fun _ => True) m14 [] :: storeP 107 b 0 e.V e.last :: tabP 3 b 11 e.t :: sl 120 1 (.slice (some ⟨b17, 0, none⟩) 1 1) 1 [.pointer (some ⟨b16, 0, none⟩)] :: L) (by simp only [all, newCells]; ac_rfl))
         exact NextU.nil
        exact NextU.nil
       exact NextU.nil
      exact NextU.nil
     exact NextU.nil
    refine NextU.cons rfl (fun K hK => ?_) ?_
    ·have hmm := @run_makeMap Tryz.prog
     go_simp
     clear hmm
     replace HS := hid (HS.out.made (enc := Sep.encI) (ok := fun _ => True))
     generalize w1.heap.size = m14 at HS ⊢
     refine act_any (fun w => Hid (S w0 w _)) HS (fun w2 HS => ?_)
     refine hK.out _ _ (fun _ => (HQ.out _ (HS.out.nth 2 rfl) (HS.out.nth 3 rfl))) ?_
     clear hK K
     refine anyU_next (rs := [9]) (by kernel_rfl) (by simp) ?_
     refine NextU.cons rfl (fun K hK => ?_) ?_
     ·go_simp
      go_wp2_with (go_at_call 48; with_reducible refine (HLA.out _ (HS.out.nth 3 rfl)).mono ?_; rintro r w9 ⟨rfl, rfl⟩)
      refine hK.out _ _ (fun _ => (HQ.out _ (HS.out.nth 2 rfl) (HS.out.nth 3 rfl))) ?_
      clear hK K
      refine anyU_take (i := 15) (v := ?_) rfl (by kernel_rfl) (fun _ _ _ h => h) (Or.inl ⟨by rfl, ?_⟩) (HQ.out _ (HS.out.nth 2 rfl) (HS.out.nth 3 rfl)) ?_
      rotate_left
      ·(intro w hSw; (try dsimp only at hSw); go_simp) <;> with_reducible rfl
      try simp only [putU]
      refine anyU_next (rs := [16]) (by kernel_rfl) (by simp) ?_
      refine NextU.cons rfl (fun K hK => ?_) ?_
      ·go_simp
       have hne := HNE.out _ (HS.out.nth 2 rfl)
       have HNX := hid hne
       clear hne
       replace HS := hid (HS.out.alloc (newCells level e.last (e.count + 1) m14).toArray 123)
       generalize w2.heap.size = b16 at HS HNX ⊢
       refine act_any (fun w => Hid (S w0 w _)) HS (fun w3 HS => ?_)
       refine hK.out _ _ (fun _ => (HQ.out _ (HS.out.nth 3 rfl) (HS.out.nth 4 rfl))) ?_
       clear hK K
       refine anyU_next (rs := [17]) (by kernel_rfl) (by simp) ?_
       refine NextU.cons rfl (fun K hK => ?_) ?_
       ·go_simp
        replace HS := hid (HS.out.alloc_slU (e := 120) (size := 1) [.pointer (some ⟨b16, 0, none⟩)] 1 rfl (by unfold maxLen; omega))
        generalize w3.heap.size = b17 at HS ⊢
        refine act_any (fun w => Hid (S w0 w _)) HS (fun w4 HS => ?_)
        refine hK.out _ _ (fun _ => (HQ.out _ (HS.out.nth 4 rfl) (HS.out.nth 5 rfl))) ?_
        clear hK K
        refine anyU_next (rs := [18]) (by kernel_rfl) (by simp) ?_
        refine NextU.cons rfl (fun K hK => ?_) ?_
        ·refine step_appU rfl (.tmp 57) (.tmp 70) 65 rfl 120 i0 _ 1 8 Tryz.underlying65 hi0 hz0 hz1 hz2 rfl (by decide) HS.out 3 (by rfl) (by rfl) _ 1 1 [.pointer (some ⟨b16, 0, none⟩)] (by rfl) rfl (HS.out.news_slK 0 (by rfl)) (one_pt _) HA.out (by decide) ?_
         intro v18 w5 hs
         replace HS := hid hs
         clear hs
         obtain ⟨p18, c18, rfl, _, _, _⟩ := HS.out.sl_val
         refine hK.out _ _ (fun _ => (HQ.out _ (HS.out.nth 4 rfl) (HS.out.nth 5 rfl))) ?_
         clear hK K
         try simp only [putU]
         refine anyU_pure (i := 19) (v := ?_) rfl (by kernel_rfl) (fun _ _ _ h => h) (Or.inl ⟨by rfl, ?_⟩) (fun _ => (HQ.out _ (HS.out.nth 4 rfl) (HS.out.nth 5 rfl))) ?_
         rotate_left
         ·(intro w _; go_simp) <;> with_reducible rfl
         try simp only [putU]
         refine anyU_take (i := 20) (v := ?_) rfl (by kernel_rfl) (fun _ _ _ h => h) (Or.inl ⟨by rfl, ?_⟩) (HQ.out _ (HS.out.nth 4 rfl) (HS.out.nth 5 rfl)) ?_
         rotate_left
         ·(intro w hSw; (try dsimp only at hSw); go_simp) <;> with_reducible rfl
         try simp only [putU]
         refine anyU_next (rs := [21]) (by kernel_rfl) (by simp) ?_
         refine NextU.cons rfl (fun K hK => ?_) ?_
         ·have q1 := HF.out _ (HS.out.nth 4 rfl)
          have q0 := (HQ.out _ (HS.out.nth 4 rfl) (HS.out.nth 5 rfl)).1
          go_simp
          refine hK.out _ _ (fun h => Bool.noConfusion (show true = false from h)) ?_
          clear hK K q0 q1
          refine anyU_done (by kernel_rfl) ?_ _
          go_wp2_with fail
          go_meet
          have HZ := HS.out
          simp only [List.eraseIdx_cons_succ, List.eraseIdx_cons_zero] at HZ
          exact HCL.out _ _ _ _ _ HNX.out (HZ.conv (M := sl 120 1 (.slice p18 (e.txs.length + 1) c18) (e.txs.length + 1) (ptrs bs (List.range e.txs.length) ++ [.pointer (some ⟨b16, 0, none⟩)]) :: bgX b bs k { e with count := e.count + 1 } :: blk b16 123 (newCells level e.last (e.count + 1) m14) :: mp encI (fun _ => True) m14 [] :: storeP 107 b 0 e.V e.last :: tabP 3 b 11 e.t :: sl 120 1 (.slice (some ⟨b17, 0, none⟩) 1 1) 1 [.pointer (some ⟨b16, 0, none⟩)] :: L) (by simp only [all, newCells]; ac_rfl))
         exact NextU.nil
        exact NextU.nil
       exact NextU.nil
      exact NextU.nil
     exact NextU.nil
    exact NextU.nil
   ·rename World => wX
    obtain ⟨bs', hs9⟩ := hcut
    obtain ⟨a2, cap2, c14b⟩ := HLEN.out _ _ _ hs9
    simp only [List.length_append, List.length_singleton] at c14b
    have H9 := hid hs9
    clear hs9
    go_wp2_with fail
    go_ret2
    exact ⟨by rw [HF2.out]; rfl, bs', by rw [HF2.out]; exact H9.out⟩
end Go.Proofs.YtmfngjclccehaaaGreatDoor
