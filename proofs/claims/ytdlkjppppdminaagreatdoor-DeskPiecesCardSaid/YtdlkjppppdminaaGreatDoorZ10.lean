/- The program's engine: Read. -/
import Derived.Test.YtdlkjppppdminaaGreatDoorZ0
import Derived.Test.YtdlkjppppdminaaGreatDoorZ9
import Derived.Test.YtdlkjppppdminaaGreatDoorZ4
import Derived.Test.YtdlkjppppdminaaGreatDoorZ8
import Derived.Test.YtdlkjppppdminaaGreatDoorZ2
import Derived.Deep.DeepCutAuto
import Derived.Deep.CutBlock
/- Transactions at the same time: who holds what it wrote; of two that overlap, and are not loose, no two wrote the same key. No walk in sight. -/
namespace Go.Proofs.YtdlkjppppdminaaGreatDoor
open Go Go.RowKit Go.Sep
section
variable {e e' e0 : Eng} {i j : Nat} {N : Nat} {T U : List Task}
structure Sure (e : Eng) (T : List Task) : Prop where
 cnt : ∀ i, i < e.txs.length → (e.tx i).begun ≤ e.count ∧ (e.tx i).ended ≤ e.count ∧ (e.tx i).start ≤ e.last
 rows : RowsOk e
 lastc : e.last ≤ e.count
 held : ∀ i K, (e.tx i).alive = true → (e.tx i).wrote K = true → mget e.t.hold K = some ((i : Int) + 1)
 newer : ∀ i k K, i < e.txs.length → (e.tx i).alive = true → (e.tx i).level ≠ 0 → (e.tx k).state = 2 → (e.tx i).begun < (e.tx k).ended → (e.tx k).wrote K = true → newerL (e.row K) (e.tx i).start ≠ []
 apart : ∀ i k K, i < e.txs.length → i ≠ k → (e.tx i).level ≠ 0 → ((e.tx i).alive = true ∨ ((e.tx i).state = 2 ∧ (e.tx k).level ≠ 0 ∧ (e.tx k).begun < (e.tx i).ended)) → (e.tx k).state = 2 → (e.tx i).begun < (e.tx k).ended → (e.tx k).wrote K = true → (e.tx i).wrote K = false
 wantk : ∀ (j : Nat) k, mget e.t.wait ((j : Int) + 1) = some k → (e.tx j).want.1 = k
 handk : ∀ w, Task.hand w ∈ T → (e.tx (w.2.toNat - 1)).want.1 = w.1 ∧ mget e.t.hold w.1 = some w.2
 putk : ∀ i w, Task.put i w ∈ T → mget e.t.hold w.1 = some ((i : Int) + 1) ∧ w = (e.tx i).want
theorem wrote_lt {K : Int} (h : (e.tx i).wrote K = true) : i < e.txs.length := by
 refine Classical.byContradiction fun hn => ?_
 rw [Eng.tx_far hn] at h
 cases h
theorem OkT.wrote_ok (h : OkT N e U) {K : Int} (hw : (e.tx i).wrote K = true) : keyOk K := by
 have hx := h.at (wrote_lt hw)
 unfold Tx.wrote at hw
 obtain ⟨v, hv⟩ := Option.isSome_iff_exists.1 hw
 exact (hx.own _ (mget_some hv)).1
theorem Sure.start : Sure Eng.zero [] where
 cnt i hi := by simp [Eng.zero] at hi
 rows vs hv := by
  simp only [Eng.zero, List.mem_replicate] at hv
  rw [hv.2]; simp
 lastc := by decide
 held i K _ hw := by have := wrote_lt hw; simp [Eng.zero] at this
 newer i k K hi := by simp [Eng.zero] at hi
 apart i k K hi := by simp [Eng.zero] at hi
 wantk j k h := by simp [Eng.zero, mget_nil] at h
 handk w h := by simp at h
 putk i w h := by simp at h
theorem Sure.congr (h : Sure e T) (hV : e'.V = e.V) (hl : e'.last = e.last) (hc : e'.count = e.count) (ht : e'.t = e.t) (hlen : e'.txs.length = e.txs.length)
  (hx : ∀ j, (e'.tx j).level = (e.tx j).level ∧ (e'.tx j).state = (e.tx j).state ∧ (e'.tx j).start = (e.tx j).start ∧ (e'.tx j).begun = (e.tx j).begun ∧ (e'.tx j).ended = (e.tx j).ended ∧ (e'.tx j).writes = (e.tx j).writes ∧ (e'.tx j).want = (e.tx j).want) : Sure e' T := by
 have x1 := fun j => (hx j).1
 have x2 := fun j => (hx j).2.1
 have x3 := fun j => (hx j).2.2.1
 have x4 := fun j => (hx j).2.2.2.1
 have x5 := fun j => (hx j).2.2.2.2.1
 have x6 := fun j K => show (e'.tx j).wrote K = (e.tx j).wrote K by unfold Tx.wrote; rw [(hx j).2.2.2.2.2.1]
 have x7 := fun j => (hx j).2.2.2.2.2.2
 have x8 := fun j => alive_of_state (x2 j)
 have x9 := fun K => show e'.row K = e.row K by unfold Eng.row; rw [hV]
 refine ⟨fun i hi => ?_, by unfold RowsOk; rw [hV, hl]; exact h.rows, by rw [hl, hc]; exact h.lastc, fun i K => ?_, fun i k K => ?_, fun i k K => ?_, fun j k => ?_, fun w => ?_, fun i w => ?_⟩
 ·rw [x3, x4, x5, hl, hc]; exact h.cnt i (by rw [← hlen]; exact hi)
 ·rw [x8, x6, ht]; exact h.held i K
 ·rw [hlen, x8, x1, x2, x3, x4, x5, x6, x9]; exact h.newer i k K
 ·rw [hlen, x8, x1, x1, x2, x2, x4, x4, x5, x5, x6, x6]; exact h.apart i k K
 ·rw [ht, x7]; exact h.wantk j k
 ·rw [ht, x7]; exact h.handk w
 ·rw [ht, x7]; exact h.putk i w
theorem Sure.sub {T' : List Task} (h : Sure e T) (ht : ∀ t ∈ T', t ∈ T ∨ ∃ i k l, t = .ask i k l) : Sure e T' :=
 ⟨h.cnt, h.rows, h.lastc, h.held, h.newer, h.apart, h.wantk, fun w hw => (ht _ hw).elim (h.handk w) (fun ⟨_, _, _, h1⟩ => by cases h1), fun i w hw => (ht _ hw).elim (h.putk i w) (fun ⟨_, _, _, h1⟩ => by cases h1)⟩
theorem note_all (e : Eng) (a b j : Nat) : ((e.note a b).tx j).level = (e.tx j).level ∧ ((e.note a b).tx j).state = (e.tx j).state ∧ ((e.note a b).tx j).start = (e.tx j).start ∧ ((e.note a b).tx j).begun = (e.tx j).begun ∧ ((e.note a b).tx j).ended = (e.tx j).ended ∧ ((e.note a b).tx j).writes = (e.tx j).writes ∧ ((e.note a b).tx j).want = (e.tx j).want :=
 ⟨Eng.note_keep (·.level) (fun _ _ => rfl) (fun _ _ => rfl) a b j, Eng.note_keep (·.state) (fun _ _ => rfl) (fun _ _ => rfl) a b j, Eng.note_keep (·.start) (fun _ _ => rfl) (fun _ _ => rfl) a b j, Eng.note_keep (·.begun) (fun _ _ => rfl) (fun _ _ => rfl) a b j,
  Eng.note_keep (·.ended) (fun _ _ => rfl) (fun _ _ => rfl) a b j, Eng.note_keep (·.writes) (fun _ _ => rfl) (fun _ _ => rfl) a b j, Eng.note_keep (·.want) (fun _ _ => rfl) (fun _ _ => rfl) a b j⟩
theorem Sure.note (h : Sure e T) (a b : Nat) : Sure (e.note a b) T := h.congr rfl rfl rfl rfl (Eng.note_len ..) (note_all e a b)
theorem Sure.restate (h : Sure e T) (hs : (e.tx i).alive = true) (s : Int) (h1 : s ≤ 1) : Sure (e.upd i fun x => { x with state := s }) T := by
 have hx : ∀ {β : Type} (g : Tx → β) (_ : ∀ x s, g { x with state := s } = g x) (j : Nat), g ((e.upd i fun x => { x with state := s }).tx j) = g (e.tx j) := fun g hg j => Eng.upd_keep g _ (fun x => hg x _) j
 have x1 := hx (·.level) (fun _ _ => rfl)
 have x3 := hx (·.start) (fun _ _ => rfl)
 have x4 := hx (·.begun) (fun _ _ => rfl)
 have x5 := hx (·.ended) (fun _ _ => rfl)
 have x6 := fun K => hx (·.wrote K) (fun _ _ => rfl)
 have x7 := hx (·.want) (fun _ _ => rfl)
 have hcase : ∀ j, ((e.upd i fun x => { x with state := s }).tx j).alive = (e.tx j).alive ∧ (((e.upd i fun x => { x with state := s }).tx j).state = 2 ↔ (e.tx j).state = 2) := fun j => by
  rw [Eng.upd_tx]
  split
  ·rename_i hc
   obtain ⟨rfl, _⟩ := hc
   refine ⟨by rw [hs]; simp [Tx.alive, h1], ?_⟩
   simp only [Tx.alive, decide_eq_true_eq] at hs
   constructor
   ·intro h
    have h : s = 2 := h
    omega
   ·intro h; omega
  ·exact ⟨rfl, Iff.rfl⟩
 have x8 := fun j => (hcase j).1
 have x2 := fun j => (hcase j).2
 refine ⟨fun i' hi => ?_, h.rows, h.lastc, fun i' K => ?_, fun i' k K => ?_, fun i' k K => ?_, fun j k => ?_, fun w => ?_, fun i' w => ?_⟩
 ·rw [x3, x4, x5]; exact h.cnt i' (by rw [Eng.upd_len] at hi; exact hi)
 ·rw [x8, x6]; exact h.held i' K
 ·rw [Eng.upd_len, x8, x1, x2, x3, x4, x5, x6]; exact h.newer i' k K
 ·rw [Eng.upd_len, x8, x1, x1, x2, x2, x4, x4, x5, x5, x6, x6]; exact h.apart i' k K
 ·rw [x7]; exact h.wantk j k
 ·rw [x7]; exact h.handk w
 ·rw [x7]; exact h.putk i' w
theorem strike_head {l : List Int} {tx x : Int} (h : l.head? = some x) (hx : x ≠ tx) : (strike l tx).head? = some x := by
 cases l with
 | nil => cases h
 | cons a l =>
  simp only [List.head?_cons, Option.some.injEq] at h
  subst h
  rw [strike_cons, if_neg hx]; rfl
theorem lets_hold (h : OkT N e U) {K : Int} (hj : mget e.t.hold K = some ((j : Int) + 1)) (hji : j ≠ i) : mget (e.lets i).t.hold K = some ((j : Int) + 1) := by
 obtain ⟨Q, hQ⟩ := h.tab
 have hd := (hQ.tab.dropped hQ.hold ((i : Int) + 1)).1
 show mget (tbDrop e.t ((i : Int) + 1)).1.hold K = _
 rw [hd.hold]
 refine strike_head ?_ (by omega)
 rw [← hQ.tab.hold]; exact hj
theorem lets_wait (h : OkT N e U) {x K : Int} (hx : mget (e.lets i).t.wait x = some K) : mget e.t.wait x = some K := by
 obtain ⟨Q, hQ⟩ := h.tab
 have hd := (hQ.tab.dropped hQ.hold ((i : Int) + 1)).1
 have h1 := (hd.wait x K).1 hx
 exact (hQ.tab.wait x K).2 (strike_tail_sub h1)
theorem lets_heir (h : OkT N e U) {w : Int × Int} (hw : w ∈ e.heirs i) : mget e.t.wait w.2 = some w.1 ∧ mget (e.lets i).t.hold w.1 = some w.2 ∧ 1 ≤ w.2 ∧ w.2 ≠ (i : Int) + 1 := by
 obtain ⟨Q, hQ⟩ := h.tab
 have hd := (hQ.tab.dropped hQ.hold ((i : Int) + 1)).1
 have hp := (heir_iff hQ.tab hQ.hold ((i : Int) + 1) w).1 hw
 obtain ⟨a1, a2⟩ := hp.waits
 refine ⟨(hQ.tab.wait _ _).2 a1, ?_, (hQ.key _ _ (List.mem_of_mem_tail a1)).2.1, a2⟩
 show mget (tbDrop e.t ((i : Int) + 1)).1.hold w.1 = _
 rw [hd.hold]
 obtain ⟨m, hm⟩ := hp.next
 rw [hm]; rfl
theorem left_tx (e : Eng) (i : Nat) (why : Int) (j : Nat) : (e.left i why).tx j = if i = j ∧ j < e.txs.length then { e.tx j with state := 3, why := why, ended := e.count + 1 } else e.tx j := Eng.mark_tx e i why j
theorem left_len (e : Eng) (i : Nat) (why : Int) : (e.left i why).txs.length = e.txs.length := Eng.mark_len e i why
theorem Sure.left (h : Sure e T) (hok : OkT N e T) (hi : i < e.txs.length) (ha : (e.tx i).alive = true) (hne : ∀ u ∈ T, u.who ≠ i) (why : Int) : Sure (e.left i why) ((e.heirs i).map .hand ++ T) := by
 have hx : ∀ {β : Type} (g : Tx → β) (_ : ∀ x s y c, g { x with state := s, why := y, ended := c } = g x) (j : Nat), g ((e.left i why).tx j) = g (e.tx j) := fun g hg j => by
  rw [left_tx]; split
  ·exact hg _ _ _ _
  ·rfl
 have x1 := hx (·.level) (fun _ _ _ _ => rfl)
 have x3 := hx (·.start) (fun _ _ _ _ => rfl)
 have x4 := hx (·.begun) (fun _ _ _ _ => rfl)
 have x6 := fun K => hx (·.wrote K) (fun _ _ _ _ => rfl)
 have x7 := hx (·.want) (fun _ _ _ _ => rfl)
 have hself : ((e.left i why).tx i).state = 3 := by rw [left_tx, if_pos ⟨rfl, hi⟩]
 have hother : ∀ j, j ≠ i → (e.left i why).tx j = e.tx j := fun j hj => by rw [left_tx, if_neg (fun x => hj x.1.symm)]
 have x8 : ∀ j, ((e.left i why).tx j).alive = true → j ≠ i ∧ (e.tx j).alive = true := fun j hj => by
  by_cases hji : j = i
  ·subst hji; simp [Tx.alive, hself] at hj
  ·rw [hother j hji] at hj; exact ⟨hji, hj⟩
 have x2 : ∀ j, ((e.left i why).tx j).state = 2 → j ≠ i ∧ (e.tx j).state = 2 ∧ ((e.left i why).tx j).ended = (e.tx j).ended := fun j hj => by
  by_cases hji : j = i
  ·subst hji; omega
  ·rw [hother j hji] at hj ⊢; exact ⟨hji, hj, rfl⟩
 refine ⟨fun j hj => ?_, h.rows, by have := h.lastc; show e.last ≤ e.count + 1; omega, fun j K hj hw => ?_, fun j k K hj hal hlv hk hlt hw => ?_, fun j k K hj hjk hlv hor hk hlt hw => ?_, fun j k hw => ?_, fun w hw => ?_, fun j w hw => ?_⟩
 ·rw [left_len] at hj
  obtain ⟨a1, a2, a3⟩ := h.cnt j hj
  rw [x4, x3]
  refine ⟨by show _ ≤ e.count + 1; omega, ?_, a3⟩
  rw [left_tx]; split
  ·exact Int.le_refl _
  ·show _ ≤ e.count + 1; omega
 ·obtain ⟨b1, b2⟩ := x8 j hj
  rw [x6] at hw
  exact lets_hold hok (h.held j K b2 hw) b1
 ·obtain ⟨b1, b2⟩ := x8 j hal
  obtain ⟨c1, c2, c3⟩ := x2 k hk
  rw [x1] at hlv
  rw [x4, c3] at hlt
  rw [x6] at hw
  rw [x3]
  exact h.newer j k K (by rw [← left_len e i why]; exact hj) b2 hlv c2 hlt hw
 ·obtain ⟨c1, c2, c3⟩ := x2 k hk
  rw [x1] at hlv
  rw [x4, c3] at hlt
  rw [x6] at hw ⊢
  refine h.apart j k K (by rw [← left_len e i why]; exact hj) hjk hlv ?_ c2 hlt hw
  rcases hor with ho | ⟨o1, o2, o3⟩
  ·exact .inl (x8 j ho).2
  ·obtain ⟨d1, d2, d3⟩ := x2 j o1
   rw [x1] at o2
   rw [x4, d3] at o3
   exact .inr ⟨d2, o2, o3⟩
 ·rw [x7]; exact h.wantk j k (lets_wait hok hw)
 ·rw [x7]
  rcases List.mem_append.1 hw with hw | hw
  ·obtain ⟨w', hw', e1⟩ := List.mem_map.1 hw
   cases e1
   obtain ⟨a1, a2, a3, a4⟩ := lets_heir hok hw'
   refine ⟨?_, a2⟩
   refine h.wantk (w.2.toNat - 1) w.1 ?_
   rw [show ((w.2.toNat - 1 : Nat) : Int) + 1 = w.2 by omega]; exact a1
  ·obtain ⟨b1, b2⟩ := h.handk w hw
   have hwho := hne _ hw
   have hpos := ((hok.ok _ hw).hand w rfl).1
   simp only [Task.who] at hwho
   refine ⟨b1, ?_⟩
   have e1 : w.2 = ((w.2.toNat - 1 : Nat) : Int) + 1 := by omega
   rw [e1] at b2 ⊢
   exact lets_hold hok b2 hwho
 ·rcases List.mem_append.1 hw with hw | hw
  ·obtain ⟨w', _, e1⟩ := List.mem_map.1 hw
   cases e1
  ·obtain ⟨b1, b2⟩ := h.putk j w hw
   have hwho := hne _ hw
   simp only [Task.who] at hwho
   rw [x7]
   exact ⟨lets_hold hok b1 hwho, b2⟩
theorem wput_tx (e : Eng) (i : Nat) (w : Int × Int) (j : Nat) : (e.wput i w).tx j = if i = j ∧ j < e.txs.length then { e.tx j with writes := mput (e.tx j).writes w.1 w.2 } else e.tx j := Eng.upd_tx e i _ j
theorem wrote_put (x : Tx) (w : Int × Int) (K : Int) : ({ x with writes := mput x.writes w.1 w.2 } : Tx).wrote K = (decide (K = w.1) || x.wrote K) := by
 unfold Tx.wrote
 simp only [mget_put]
 by_cases h : K = w.1 <;> simp [h]
theorem Sure.wput {w : Int × Int} (h : Sure e (.put i w :: T)) (hok : OkT N e (.put i w :: T)) (hl : ¬ e.late i w.1) : Sure (e.wput i w) T := by
 obtain ⟨hi, ha⟩ := hok.put_lt
 obtain ⟨hp, _⟩ := h.putk i w (List.mem_cons_self ..)
 have hx : ∀ {β : Type} (g : Tx → β) (_ : ∀ x s, g { x with writes := s } = g x) (j : Nat), g ((e.wput i w).tx j) = g (e.tx j) := fun g hg j => Eng.upd_keep g _ (fun x => hg x _) j
 have x1 := hx (·.level) (fun _ _ => rfl)
 have x2 := hx (·.state) (fun _ _ => rfl)
 have x3 := hx (·.start) (fun _ _ => rfl)
 have x4 := hx (·.begun) (fun _ _ => rfl)
 have x5 := hx (·.ended) (fun _ _ => rfl)
 have x7 := hx (·.want) (fun _ _ => rfl)
 have x8 := hx (·.alive) (fun _ _ => rfl)
 have xo : ∀ j, (e.tx j).alive = false → ∀ K, ((e.wput i w).tx j).wrote K = (e.tx j).wrote K := fun j hj K => by
  rw [wput_tx, if_neg]
  rintro ⟨rfl, _⟩; rw [ha] at hj; cases hj
 have x6 : ∀ j K, ((e.wput i w).tx j).wrote K = true → (e.tx j).wrote K = true ∨ (j = i ∧ K = w.1) := fun j K hw => by
  rw [wput_tx] at hw
  split at hw
  ·rename_i hc
   rw [wrote_put] at hw
   rcases Bool.or_eq_true _ _ ▸ hw with h1 | h1
   ·exact .inr ⟨hc.1.symm, by simpa using h1⟩
   ·exact .inl h1
  ·exact .inl hw
 have hno2 : ∀ k, (e.tx k).state = 2 → (e.tx k).alive = false := fun k hk => by simp [Tx.alive, hk]
 have hlen : (e.wput i w).txs.length = e.txs.length := Eng.upd_len ..
 refine ⟨fun j hj => ?_, h.rows, h.lastc, fun j K hj hw => ?_, fun j k K => ?_, fun j k K hj hjk hlv hor hk hlt hw => ?_, fun j k => ?_, fun w' hw' => ?_, fun j w' hw' => ?_⟩
 ·rw [x3, x4, x5]; exact h.cnt j (by rw [← hlen]; exact hj)
 ·rw [x8] at hj
  rcases x6 j K hw with h1 | ⟨rfl, rfl⟩
  ·exact h.held j K hj h1
  ·exact hp
 ·rw [hlen, x8, x1, x2, x3, x4, x5]
  intro a1 a2 a3 a4 a5 a6
  rw [xo k (hno2 k a4)] at a6
  exact h.newer j k K a1 a2 a3 a4 a5 a6
 ·rw [hlen] at hj
  rw [x1] at hlv
  rw [x8, x2, x1, x4, x5] at hor
  rw [x2] at hk
  rw [x4, x5] at hlt
  rw [xo k (hno2 k hk)] at hw
  cases hq : ((e.wput i w).tx j).wrote K with
  | false => rfl
  | true =>
   rcases x6 j K hq with h1 | ⟨rfl, rfl⟩
   ·rw [h.apart j k K hj hjk hlv hor hk hlt hw] at h1; cases h1
   ·exact absurd ⟨hlv, h.newer j k _ hj ha hlv hk hlt hw⟩ hl
 ·rw [x7]; exact h.wantk j k
 ·rw [x7]; exact h.handk w' (List.mem_cons_of_mem _ hw')
 ·rw [x7]; exact h.putk j w' (List.mem_cons_of_mem _ hw')
theorem sure_rule : Rule Sure where
 hand N e w T h p := by
  have hl := h.hand_lt
  have h1 := p.restate (i := w.2.toNat - 1) hl.2.1 0 (by decide)
  obtain ⟨b1, b2⟩ := p.handk w (List.mem_cons_self ..)
  have hwant : ((e.opens (w.2.toNat - 1)).tx (w.2.toNat - 1)).want = (e.tx (w.2.toNat - 1)).want := Eng.upd_keep (·.want) (fun x => { x with state := 0 }) (fun _ => rfl) _
  refine ⟨h1.cnt, h1.rows, h1.lastc, h1.held, h1.newer, h1.apart, h1.wantk, fun w' hw' => ?_, fun i' w' hw' => ?_⟩
  ·rcases List.mem_cons.1 hw' with hw' | hw'
   ·cases hw'
   ·exact h1.handk w' (List.mem_cons_of_mem _ hw')
  ·rcases List.mem_cons.1 hw' with hw' | hw'
   ·cases hw'
    refine ⟨?_, hwant.symm⟩
    show mget e.t.hold _ = _
    rw [b1, b2, hl.2.2.2]
   ·exact h1.putk i' w' (List.mem_cons_of_mem _ hw')
 late N e i w T h hl p := (p.sub fun t ht => .inl (List.mem_cons_of_mem _ ht)).left (h.tail (by simp)) h.put_lt.1 h.put_lt.2 h.who_ne 10
 put N e i w T h hl _ p := p.wput h hl
 puts N e i w T h hl _ p := (p.wput h hl).sub fun t ht => by
  rcases List.mem_cons.1 ht with rfl | ht
  ·exact .inr ⟨_, _, _, rfl⟩
  ·exact .inl ht
 asked N e i key T h p := p.sub fun t ht => .inl (List.mem_cons_of_mem _ ht)
 skip N e i j key l T h _ p := p.sub fun t ht => by
  rcases List.mem_cons.1 ht with rfl | ht
  ·exact .inr ⟨_, _, _, rfl⟩
  ·exact .inl (List.mem_cons_of_mem _ ht)
 note N e i j key l T h _ _ p := (p.note j i).sub fun t ht => by
  rcases List.mem_cons.1 ht with rfl | ht
  ·exact .inr ⟨_, _, _, rfl⟩
  ·exact .inl (List.mem_cons_of_mem _ ht)
 wrong N e i j key l T h _ _ p := ((p.note j i).sub fun t ht => .inl (List.mem_cons_of_mem _ ht)).left (h.noted.tail (by simp)) h.noted.ask_lt.1 h.noted.ask_lt.2 h.noted.who_ne 13
theorem Sure.goes (h : Sure e []) (hok : OkT N e []) (hi : i < e.txs.length) (ha : (e.tx i).alive = true) (why : Int) : Sure (e.goes i why) [] := by
 have h1 := h.left hok hi ha (by simp) why
 rw [List.append_nil] at h1
 exact sure_rule.goes hok hi ha why h1
theorem Sure.begun (h : Sure e []) (hok : OkT N e []) (level : Int) : Sure (e.begin_ level).1 [] := by
 rcases begin_out e level with ⟨_, _, b3⟩ | ⟨_, b2⟩
 ·rw [b3]
  ·skip
   ·skip
    have hg : ∀ j, j < e.txs.length → (e.grown (e.fresh level)).tx j = e.tx j := fun j hj => Eng.grown_tx hj
    have hlen := Eng.grown_len (e := e) (e.fresh level)
    have hnew := Eng.grown_last (e := e) (e.fresh level)
    have hcase : ∀ j, j < e.txs.length + 1 → j < e.txs.length ∨ j = e.txs.length := fun j hj => by omega
    have hs2 : ∀ k, ((e.grown (e.fresh level)).tx k).state = 2 → k < e.txs.length := fun k hk => by
     by_cases h1 : k < e.txs.length
     ·exact h1
     ·by_cases h2 : k = e.txs.length
      ·subst h2; rw [hnew] at hk; exact absurd (show (0 : Int) = 2 from hk) (by decide)
      ·rw [Eng.tx_far (by rw [hlen]; omega)] at hk; exact absurd (show (0 : Int) = 2 from hk) (by decide)
    refine ⟨fun j hj => ?_, h.rows, by have := h.lastc; show e.last ≤ e.count + 1; omega, fun j K hj hw => ?_, fun j k K hj hal hlv hk hlt hw => ?_, fun j k K hj hjk hlv hor hk hlt hw => ?_, fun j k hw => ?_, by simp, by simp⟩
    ·rw [hlen] at hj
     rcases hcase j hj with h1 | rfl
     ·rw [hg j h1]
      obtain ⟨a1, a2, a3⟩ := h.cnt j h1
      exact ⟨by show _ ≤ e.count + 1; omega, by show _ ≤ e.count + 1; omega, a3⟩
     ·rw [hnew]
      have := hok.cnt
      exact ⟨by show e.count + 1 ≤ e.count + 1; omega, by show (0 : Int) ≤ e.count + 1; omega, Int.le_refl _⟩
    ·have h1 := wrote_lt hw
     rw [hlen] at h1
     rcases hcase j h1 with h2 | rfl
     ·rw [hg j h2] at hj hw; exact h.held j K hj hw
     ·rw [hnew] at hw; cases hw
    ·have hk2 := hs2 k hk
     rw [hg k hk2] at hk hlt hw
     rw [hlen] at hj
     rcases hcase j hj with h1 | rfl
     ·rw [hg j h1] at hal hlv hlt ⊢
      exact h.newer j k K h1 hal hlv hk hlt hw
     ·rw [hnew] at hlt
      have := (h.cnt k hk2).2.1
      have hlt' : e.count + 1 < (e.tx k).ended := hlt
      omega
    ·have hk2 := hs2 k hk
     rw [hg k hk2] at hk hlt hw hor
     rw [hlen] at hj
     rcases hcase j hj with h1 | rfl
     ·rw [hg j h1] at hlv hlt hor ⊢
      exact h.apart j k K h1 hjk hlv hor hk hlt hw
     ·rw [hnew]; rfl
    ·have hj : j < e.txs.length := by
      obtain ⟨Q, hQ⟩ := hok.tab
      have := hQ.key k _ (List.mem_of_mem_tail ((hQ.tab.wait _ _).1 hw))
      omega
     rw [hg j hj]; exact h.wantk j k hw
 ·rw [b2]; exact h
theorem Sure.noted (h : Sure e []) (key : Int) : Sure (e.noted i key) [] :=
 h.congr rfl rfl rfl rfl (noted_len ..) fun j => ⟨noted_tx e i key (·.level) (fun _ _ => rfl) j, noted_tx e i key (·.state) (fun _ _ => rfl) j, noted_tx e i key (·.start) (fun _ _ => rfl) j, noted_tx e i key (·.begun) (fun _ _ => rfl) j, noted_tx e i key (·.ended) (fun _ _ => rfl) j, noted_tx e i key (·.writes) (fun _ _ => rfl) j, noted_tx e i key (·.want) (fun _ _ => rfl) j⟩
theorem Sure.red (h : Sure e []) (hok : OkT N e []) (n key : Int) : Sure (e.read n key).1 [] := by
 have hc := read_case e n key
 generalize e.read n key = r at hc
 cases hc with
 | err x h0 h8 => exact h
 | own i v hn hi hs hv => exact h
 | plain i hn hi hs hv hk hl => exact h.noted key
 | seen i hn hi hs hv hk hl hr => exact sees_keep (P := fun f => Sure f []) (fun f a b hf => hf.note a b) (h.noted key)
 | gone i hn hi hs hv hk hl hr =>
  have h1 := hok.noted1 hi key
  have hi1 : i < (e.noted i key).txs.length := by rw [noted_len]; exact hi
  obtain ⟨g1, g2, g3, _⟩ := sees_ok h1 hi1 key
  have hal : (((e.noted i key).sees i key).1.tx i).alive = true := by
   rw [alive_of_state (g3 i)]
   rw [noted_tx e i key (·.alive) (fun _ _ => rfl)]; exact state_alive hs
  exact (sees_keep (P := fun f => Sure f []) (fun f a b hf => hf.note a b) (h.noted key)).goes g1 (by rw [g2]; exact hi1) hal 13
theorem Sure.wanting (h : Sure e []) (hok : OkT N e []) (hs : (e.tx i).state = 0) (w : Int × Int) : Sure (e.wanting i w) [] := by
 have x := fun {β : Type} (g : Tx → β) (hg : ∀ x u, g { x with want := u } = g x) (j : Nat) => wanting_tx e i w g hg j
 have hlen : (e.wanting i w).txs.length = e.txs.length := Eng.upd_len ..
 refine ⟨fun j hj => ?_, h.rows, h.lastc, fun j K => ?_, fun j k K => ?_, fun j k K => ?_, fun j k hw => ?_, by simp, by simp⟩
 ·rw [x (·.begun) (fun _ _ => rfl), x (·.ended) (fun _ _ => rfl), x (·.start) (fun _ _ => rfl)]; exact h.cnt j (by rw [← hlen]; exact hj)
 ·rw [x (·.alive) (fun _ _ => rfl), x (·.wrote K) (fun _ _ => rfl)]; exact h.held j K
 ·rw [hlen, x (·.alive) (fun _ _ => rfl), x (·.level) (fun _ _ => rfl), x (·.state) (fun _ _ => rfl), x (·.begun) (fun _ _ => rfl), x (·.ended) (fun _ _ => rfl), x (·.start) (fun _ _ => rfl), x (·.wrote K) (fun _ _ => rfl)]; exact h.newer j k K
 ·rw [hlen, x (·.alive) (fun _ _ => rfl), x (·.level) (fun _ _ => rfl), x (·.level) (fun _ _ => rfl), x (·.state) (fun _ _ => rfl), x (·.state) (fun _ _ => rfl), x (·.begun) (fun _ _ => rfl), x (·.begun) (fun _ _ => rfl), x (·.ended) (fun _ _ => rfl), x (·.ended) (fun _ _ => rfl), x (·.wrote K) (fun _ _ => rfl), x (·.wrote K) (fun _ _ => rfl)]; exact h.apart j k K
 ·have hji : i ≠ j := by
   rintro rfl
   have hw' : mget e.t.wait ((i : Int) + 1) = some k := hw
   rw [hok.wait_none (i := i) (by omega)] at hw'; cases hw'
  unfold Eng.wanting
  rw [Eng.upd_ne hji]; exact h.wantk j k hw
theorem Sure.table (h : Sure e []) {t' : Tbl} (h1 : ∀ K x, mget e.t.hold K = some x → mget t'.hold K = some x) (h2 : ∀ (j : Nat) k, mget t'.wait ((j : Int) + 1) = some k → (e.tx j).want.1 = k) : Sure (e.table t') [] :=
 ⟨h.cnt, h.rows, h.lastc, fun j K a b => h1 K _ (h.held j K a b), h.newer, h.apart, h2, by simp, by simp⟩
theorem Sure.wrote (h : Sure e []) (hok : OkT N e []) (n key value : Int) : Sure (e.write n key value).1 [] := by
 have hc := write_case hok n key value
 generalize e.write n key value = r at hc
 cases hc with
 | err x h0 => exact h
 | cycle i hn hi hs hk hv =>
  have ha : (((e.wanting i (key, value)).table e.t).tx i).alive = true := (wanting_tx e i _ (·.alive) (fun _ _ => rfl) i).trans (state_alive hs)
  have h1 := h.wanting hok hs (key, value)
  have h2 : Sure ((e.wanting i (key, value)).table e.t) [] := h1.table (fun _ _ h => h) h1.wantk
  exact h2.goes (cycle_ok hok hi hk hv) (by show i < (e.wanting i (key, value)).txs.length; rw [show (e.wanting i (key, value)).txs.length = e.txs.length from Eng.upd_len ..]; exact hi) ha 11
 | waits i a hn hi hs hk hv hh ha =>
  have h1 := h.wanting hok hs (key, value)
  refine Sure.restate (h1.table (t' := waitT e.t ((i : Int) + 1) key) (fun _ _ h => h) fun j k hw => ?_) ?_ 1 (by decide)
  ·have hw' : mget (mput e.t.wait ((i : Int) + 1) key) ((j : Int) + 1) = some k := hw
   rw [mget_put] at hw'
   split at hw'
   ·rename_i hji
    obtain rfl : j = i := by omega
    cases hw'
    unfold Eng.wanting
    rw [Eng.upd_self hi]
   ·exact h1.wantk j k hw'
  ·exact (wanting_tx e i _ (·.alive) (fun _ _ => rfl) i).trans (state_alive hs)
 | puts i t' hn hi hs hk hv ht r hr =>
  have h1 := h.wanting hok hs (key, value)
  have h2 : Sure ((e.wanting i (key, value)).table t') [] := by
   rcases ht with ⟨rfl, hh⟩ | ⟨rfl, hh⟩
   ·refine h1.table (fun K x hx => ?_) h1.wantk
    show mget (mput e.t.hold key ((i : Int) + 1)) K = _
    rw [mget_put]
    split
    ·rename_i hK; subst hK
     have hx' : mget e.t.hold K = some x := hx
     rw [hh] at hx'; cases hx'
    ·exact hx
   ·exact h1.table (fun _ _ h => h) h1.wantk
  obtain ⟨p1, p2, p3⟩ := put_ok hok hi hs hk hv ht
  refine sure_rule.putsE p1 ⟨h2.cnt, h2.rows, h2.lastc, h2.held, h2.newer, h2.apart, h2.wantk, by simp, fun i' w' hw' => ?_⟩
  simp only [List.mem_singleton] at hw'
  cases hw'
  refine ⟨?_, ?_⟩
  ·show mget t'.hold key = _
   rcases ht with ⟨rfl, hh⟩ | ⟨rfl, hh⟩
   ·show mget (mput e.t.hold key ((i : Int) + 1)) key = _
    rw [mget_put, if_pos rfl]
   ·exact hh
  ·show _ = ((e.wanting i (key, value)).tx i).want
   unfold Eng.wanting
   rw [Eng.upd_self hi]
theorem over2_tx (e : Eng) (i j : Nat) : ((e.over2 i).lets i).tx j = if i = j ∧ j < e.txs.length then { e.tx j with state := 2, ended := e.count + 1 } else e.tx j := by
 have := Eng.upd_tx (e.told i) i (fun x => { x with state := 2, ended := e.count + 1 }) j
 have e1 : (e.told i).tx j = e.tx j := by unfold Eng.tx; rw [(told_txs e i).1]
 rw [(told_txs e i).1, e1] at this
 exact this
theorem over2_len (e : Eng) (i : Nat) : ((e.over2 i).lets i).txs.length = e.txs.length := by
 have := Eng.upd_len (e.told i) i (fun x => { x with state := 2, ended := e.count + 1 })
 rw [(told_txs e i).1] at this
 exact this
theorem Sure.over2 (h : Sure e []) (hok : OkT N e []) (hi : i < e.txs.length) (ha : (e.tx i).alive = true) : Sure ((e.over2 i).lets i) (((e.over2 i).heirs i).map .hand) := by
 have hx : ∀ {β : Type} (g : Tx → β) (_ : ∀ x s c, g { x with state := s, ended := c } = g x) (j : Nat), g (((e.over2 i).lets i).tx j) = g (e.tx j) := fun g hg j => by
  rw [over2_tx]; split
  ·exact hg _ _ _
  ·rfl
 have x1 := hx (·.level) (fun _ _ _ => rfl)
 have x3 := hx (·.start) (fun _ _ _ => rfl)
 have x4 := hx (·.begun) (fun _ _ _ => rfl)
 have x6 := fun K => hx (·.wrote K) (fun _ _ _ => rfl)
 have x7 := hx (·.want) (fun _ _ _ => rfl)
 have hself : (((e.over2 i).lets i).tx i).state = 2 ∧ (((e.over2 i).lets i).tx i).ended = e.count + 1 := by rw [over2_tx, if_pos ⟨rfl, hi⟩]; exact ⟨rfl, rfl⟩
 have hother : ∀ j, j ≠ i → ((e.over2 i).lets i).tx j = e.tx j := fun j hj => by rw [over2_tx, if_neg (fun x => hj x.1.symm)]
 have x8 : ∀ j, (((e.over2 i).lets i).tx j).alive = true → j ≠ i ∧ (e.tx j).alive = true := fun j hj => by
  by_cases hji : j = i
  ·subst hji; simp [Tx.alive, hself.1] at hj
  ·rw [hother j hji] at hj; exact ⟨hji, hj⟩
 have x2 : ∀ j, (((e.over2 i).lets i).tx j).state = 2 → j = i ∨ (j ≠ i ∧ (e.tx j).state = 2 ∧ (((e.over2 i).lets i).tx j).ended = (e.tx j).ended) := fun j hj => by
  by_cases hji : j = i
  ·exact .inl hji
  ·rw [hother j hji] at hj ⊢; exact .inr ⟨hji, hj, rfl⟩
 have htab : ((e.over2 i).lets i).t = (e.lets i).t := by show (tbDrop (e.told i).t _).1 = (tbDrop e.t _).1; rw [(told_txs e i).2.1]
 have hheir : (e.over2 i).heirs i = e.heirs i := over2_heirs e i
 have hcount : ((e.over2 i).lets i).count = e.count + 1 := rfl
 have hlast : ((e.over2 i).lets i).last = (e.told i).last := rfl
 have hrow : ∀ K, ((e.over2 i).lets i).row K = rowOf (e.told i).V K := fun K => rfl
 have hlc := h.lastc
 obtain ⟨l1, l2, l3⟩ := told_last hok hi hlc
 have hboth : ∀ j K, j ≠ i → (e.tx j).alive = true → (e.tx j).wrote K = true → (e.tx i).wrote K = true → False := fun j K hji hj hw1 hw2 => by
  have h1 := h.held j K hj hw1
  rw [h.held i K ha hw2] at h1
  have := Option.some.inj h1
  omega
 refine ⟨fun j hj => ?_, ?_, by rw [hcount, hlast]; omega, fun j K hj hw => ?_, fun j k K hj hal hlv hk hlt hw => ?_, fun j k K hj hjk hlv hor hk hlt hw => ?_, fun j k hw => ?_, fun w hw => ?_, fun j w hw => ?_⟩
 ·rw [over2_len] at hj
  obtain ⟨a1, a2, a3⟩ := h.cnt j hj
  rw [x4, x3, hcount, hlast]
  refine ⟨by omega, ?_, by omega⟩
  rw [over2_tx]; split
  ·exact Int.le_refl _
  ·omega
 ·exact told_rows hok hi hlc h.rows
 ·obtain ⟨b1, b2⟩ := x8 j hj
  rw [x6] at hw
  rw [htab]
  exact lets_hold hok (h.held j K b2 hw) b1
 ·rw [over2_len] at hj
  obtain ⟨b1, b2⟩ := x8 j hal
  rw [x1] at hlv
  rw [x6] at hw
  rw [x3, hrow, told_row hok hi hlc h.rows (hok.wrote_ok hw), newerL_append]
  rcases x2 k hk with rfl | ⟨c1, c2, c3⟩
  ·unfold Tx.wrote at hw
   obtain ⟨v, hv⟩ := Option.isSome_iff_exists.1 hw
   rw [hv]
   have := (h.cnt j hj).2.2
   simp [newerL]
   intro _
   omega
  ·rw [x4, c3] at hlt
   have := h.newer j k K hj b2 hlv c2 hlt hw
   intro e1
   exact this (List.append_eq_nil_iff.1 e1).1
 ·rw [over2_len] at hj
  rw [x1] at hlv
  rw [x6] at hw ⊢
  cases hq : (e.tx j).wrote K with
  | false => rfl
  | true =>
   exfalso
   by_cases hji : j = i
   ·subst hji
    rcases x2 k hk with rfl | ⟨c1, c2, c3⟩
    ·exact hjk rfl
    ·rw [x4, c3] at hlt
     rw [h.apart j k K hj hjk hlv (.inl ha) c2 hlt hw] at hq; cases hq
   ·rw [hother j hji, x1, x4] at hor
    rcases x2 k hk with rfl | ⟨c1, c2, c3⟩
    ·rcases hor with ho | ⟨o1, o2, o3⟩
     ·exact hboth j K hji ho hq hw
     ·rw [h.apart k j K hi (fun x => hjk x.symm) o2 (.inl ha) o1 o3 hq] at hw; cases hw
    ·rw [x4, c3] at hlt
     rw [h.apart j k K hj hjk hlv hor c2 hlt hw] at hq; cases hq
 ·rw [htab] at hw
  rw [x7]; exact h.wantk j k (lets_wait hok hw)
 ·rw [hheir] at hw
  obtain ⟨w', hw', e1⟩ := List.mem_map.1 hw
  cases e1
  obtain ⟨a1, a2, a3, a4⟩ := lets_heir hok hw'
  rw [x7, htab]
  refine ⟨h.wantk (w.2.toNat - 1) w.1 ?_, a2⟩
  rw [show ((w.2.toNat - 1 : Nat) : Int) + 1 = w.2 by omega]; exact a1
 ·obtain ⟨w', _, e1⟩ := List.mem_map.1 hw
  cases e1
theorem Sure.committed (h : Sure e []) (hok : OkT N e []) (n : Int) : Sure (e.commit n).1 [] := by
 by_cases h0 : e.ready n = 0
 ·obtain ⟨i, rfl, hi, hs⟩ := ready_at h0
  rw [commit_eq e i h0]
  exact sure_rule.frees hok hi (state_alive hs) (h.over2 hok hi (state_alive hs))
 ·unfold Eng.commit
  rw [if_pos h0]
  simp only
  split
  ·rename_i h13
   obtain ⟨i, rfl, hi, hs⟩ := ready_13 h13
   have hi2 : ((i : Int) + 1).toNat - 1 = i := by omega
   rw [hi2]
   exact h.goes hok hi (state_alive hs) 13
  ·exact h
theorem Sure.aborted (h : Sure e []) (hok : OkT N e []) (n : Int) : Sure (e.abort n).1 [] := by
 rcases abort_case e n with ⟨x, _, hx⟩ | ⟨i, rfl, hi, hs, hx⟩
 ·rw [hx]; exact h
 ·rw [hx]; exact h.goes hok hi (by simp [Tx.alive]; omega) 0
theorem Sure.swept (h : Sure e []) : Sure e.sweep.1 [] := by
 refine ⟨h.cnt, fun vs hvs => ?_, h.lastc, h.held, fun i k K hi ha hlv hk hlt hw => ?_, h.apart, h.wantk, by simp, by simp⟩
 ·obtain ⟨a, ha, rfl⟩ := List.mem_map.1 (show vs ∈ e.V.map (Proofs.YtdlkjppppdminaaGreatDoor.swept e.floor) from hvs)
  obtain ⟨h1, h2⟩ := h.rows a ha
  obtain ⟨_, _, _, h4⟩ := sweptN_spec e.floor a
  rw [h4]
  exact ⟨h1.sublist (List.drop_sublist _ _), fun p hp => h2 p (List.mem_of_mem_drop hp)⟩
 ·have := (sweep_rel h.rows (floor_le hi ha hlv) K).newer (Int.le_refl _)
  rw [show ((e.sweep.1).tx i).start = (e.tx i).start from rfl, ← this]
  exact h.newer i k K hi ha hlv hk hlt hw
end
end Go.Proofs.YtdlkjppppdminaaGreatDoor
/- Transactions at the same time: what one wrote, or waits to write, through all that is asked of an engine; how old each one is. No walk in sight. -/
namespace Go.Proofs.YtdlkjppppdminaaGreatDoor
open Go Go.RowKit Go.Sep
section
variable {e e' e0 : Eng} {i j : Nat} {N : Nat} {T U : List Task}
def Tx.owns (x : Tx) (w : Bool) (K : Int) : Option Int := if w = true ∧ K = x.want.1 then some x.want.2 else mget x.writes K
structure Eff (g : Nat → Int → Option Int) (e : Eng) (T : List Task) : Prop where
 wait : ∀ j K, (e.tx j).state = 1 → g j K = (e.tx j).owns true K
 put : ∀ j K w, Task.put j w ∈ T → g j K = (e.tx j).owns true K
 open_ : ∀ j K, (e.tx j).state = 0 → (∀ w, Task.put j w ∉ T) → g j K = mget (e.tx j).writes K
variable {g : Nat → Int → Option Int}
theorem Eff.congr (h : Eff g e T) (hs : ∀ j, (e'.tx j).state = (e.tx j).state) (hw : ∀ j, (e'.tx j).writes = (e.tx j).writes) (hk : ∀ j, (e'.tx j).want = (e.tx j).want) {T' : List Task} (ht : ∀ j w, Task.put j w ∈ T' ↔ Task.put j w ∈ T) : Eff g e' T' := by
 refine ⟨fun j K h1 => ?_, fun j K w h1 => ?_, fun j K h1 h2 => ?_⟩
 ·unfold Tx.owns; rw [hw, hk]; exact h.wait j K (by rw [← hs]; exact h1)
 ·unfold Tx.owns; rw [hw, hk]; exact h.put j K w ((ht j w).1 h1)
 ·rw [hw]; exact h.open_ j K (by rw [← hs]; exact h1) fun w hw' => h2 w ((ht j w).2 hw')
theorem Eff.note (h : Eff g e T) (a b : Nat) {T' : List Task} (ht : ∀ j w, Task.put j w ∈ T' ↔ Task.put j w ∈ T) : Eff g (e.note a b) T' :=
 h.congr (fun j => (note_all e a b j).2.1) (fun j => (note_all e a b j).2.2.2.2.2.1) (fun j => (note_all e a b j).2.2.2.2.2.2) ht
theorem Eff.left (h : Eff g e T) (hi : i < e.txs.length) (hne : ∀ u ∈ T, u.who ≠ i) (why : Int) : Eff g (e.left i why) ((e.heirs i).map .hand ++ T) := by
 have hself : ((e.left i why).tx i).state = 3 := by rw [left_tx, if_pos ⟨rfl, hi⟩]
 have hother : ∀ j, j ≠ i → (e.left i why).tx j = e.tx j := fun j hj => by rw [left_tx, if_neg (fun x => hj x.1.symm)]
 have ht : ∀ j w, Task.put j w ∈ (e.heirs i).map .hand ++ T ↔ Task.put j w ∈ T := fun j w => by
  rw [List.mem_append]
  constructor
  ·rintro (h1 | h1)
   ·obtain ⟨_, _, h2⟩ := List.mem_map.1 h1; cases h2
   ·exact h1
  ·exact .inr
 refine ⟨fun j K h1 => ?_, fun j K w h1 => ?_, fun j K h1 h2 => ?_⟩
 ·by_cases hji : j = i
  ·subst hji; omega
  ·rw [hother j hji] at h1 ⊢; exact h.wait j K h1
 ·have h2 := (ht j w).1 h1
  have hji : j ≠ i := hne _ h2
  rw [hother j hji]; exact h.put j K w h2
 ·by_cases hji : j = i
  ·subst hji; omega
  ·rw [hother j hji] at h1 ⊢
   exact h.open_ j K h1 fun w hw => h2 w ((ht j w).2 hw)
theorem Eff.wput {w : Int × Int} (h : Eff g e (.put i w :: T)) (hS : Sure e (.put i w :: T)) (hok : OkT N e (.put i w :: T)) {T' : List Task} (ht : ∀ j w, Task.put j w ∈ T' ↔ Task.put j w ∈ T) : Eff g (e.wput i w) T' := by
 obtain ⟨hi, ha⟩ := hok.put_lt
 have hst := (hok.ok _ (List.mem_cons_self ..)).put _ _ rfl |>.1
 obtain ⟨_, hw⟩ := hS.putk i w (List.mem_cons_self ..)
 have hno : ∀ w', Task.put i w' ∉ T := fun w' h1 => hok.who_ne _ h1 rfl
 have hother : ∀ j, j ≠ i → (e.wput i w).tx j = e.tx j := fun j hj => by rw [wput_tx, if_neg (fun x => hj x.1.symm)]
 have hself : (e.wput i w).tx i = { e.tx i with writes := mput (e.tx i).writes w.1 w.2 } := by rw [wput_tx, if_pos ⟨rfl, hi⟩]
 refine ⟨fun j K h1 => ?_, fun j K w' h1 => ?_, fun j K h1 h2 => ?_⟩
 ·by_cases hji : j = i
  ·subst hji; rw [hself] at h1; simp only at h1; omega
  ·rw [hother j hji] at h1 ⊢; exact h.wait j K h1
 ·have h2 := (ht j w').1 h1
  have hji : j ≠ i := by rintro rfl; exact hno _ h2
  rw [hother j hji]; exact h.put j K w' (List.mem_cons_of_mem _ h2)
 ·by_cases hji : j = i
  ·subst hji
   rw [h.put j K w (List.mem_cons_self ..), hself]
   simp only [Tx.owns, mget_put]
   rw [← hw]
   simp only [true_and]
  ·rw [hother j hji] at h1 ⊢
   refine h.open_ j K h1 fun w' hw' => ?_
   rcases List.mem_cons.1 hw' with e1 | e1
   ·cases e1; exact hji rfl
   ·exact h2 w' ((ht j w').2 e1)
def Eng.owns (e : Eng) (j : Nat) (K : Int) : Option Int := (e.tx j).owns (decide ((e.tx j).state = 1)) K
theorem Eff.of (e : Eng) : Eff e.owns e [] :=
 ⟨fun j K h => by unfold Eng.owns; simp [h], by simp, fun j K h _ => by unfold Eng.owns Tx.owns; simp [h]⟩
theorem TxOk.alive_cases {n : Nat} {x : Tx} (h : TxOk n x) (ha : x.alive = true) : x.state = 0 ∨ x.state = 1 := by
 have := h.state
 simp only [Tx.alive, decide_eq_true_eq] at ha
 omega
theorem Eff.owns (h : Eff g e []) (hok : OkT N e U) (hj : j < e.txs.length) (ha : (e.tx j).alive = true) (K : Int) : e.owns j K = g j K := by
 rcases (hok.at hj).alive_cases ha with h0 | h1
 ·rw [h.open_ j K h0 (by simp)]
  unfold Eng.owns Tx.owns; simp [h0]
 ·rw [h.wait j K h1]
  unfold Eng.owns; simp [h1]
def Owns (e e' : Eng) : Prop := ∀ j, j < e.txs.length → (e'.tx j).alive = true → ∀ K, e'.owns j K = e.owns j K
theorem Owns.trans {a b c : Eng} (h : Owns a b) (g : Owns b c) (hl : Later b c) (hlen : a.txs.length ≤ b.txs.length) : Owns a c := fun j hj ha K => (g j (by omega) ha K).trans (h j hj (hl.live j (by omega) ha) K)
end
end Go.Proofs.YtdlkjppppdminaaGreatDoor
/- Transactions at the same time: who is not gone has no reason to be, and no two things happen at one step, whatever is asked. No walk in sight. -/
namespace Go.Proofs.YtdlkjppppdminaaGreatDoor
open Go Go.RowKit Go.Sep
section
variable {e e' : Eng} {i j : Nat} {N : Nat} {T U : List Task}
def Whys (e : Eng) : Prop := ∀ j, j < e.txs.length → (e.tx j).state ≠ 3 → (e.tx j).why = 0
theorem Whys.start : Whys Eng.zero := fun j h => by simp [Eng.zero] at h
theorem Whys.same (h : Whys e) (ht : e'.txs = e.txs) : Whys e' := by
 intro j hj hs
 unfold Eng.tx at hs ⊢
 rw [ht] at hj hs ⊢
 exact h j hj hs
theorem Whys.upd {f : Tx → Tx} (h : Whys e) (hf : i < e.txs.length → (f (e.tx i)).state ≠ 3 → (f (e.tx i)).why = 0) : Whys (e.upd i f) := by
 intro j hj hs
 rw [Eng.upd_len] at hj
 rw [Eng.upd_tx] at hs ⊢
 split at hs
 ·rename_i hc
  obtain ⟨rfl, h2⟩ := hc
  rw [if_pos ⟨rfl, h2⟩]
  exact hf h2 hs
 ·rename_i hc
  rw [if_neg hc]
  exact h j hj hs
theorem Whys.note (h : Whys e) (a b : Nat) : Whys (e.note a b) := by
 intro j hj hs
 rw [Eng.note_len] at hj
 rw [Eng.note_state] at hs
 rw [Eng.note_keep (·.why) (fun _ _ => rfl) (fun _ _ => rfl)]
 exact h j hj hs
theorem Whys.left (h : Whys e) (i : Nat) (why : Int) : Whys (e.left i why) := by
 intro j hj hs
 rw [left_tx] at hs ⊢
 have hj2 : j < e.txs.length := by rw [← Eng.mark_len e i why]; exact hj
 split at hs
 ·exact absurd rfl hs
 ·rename_i hc; rw [if_neg hc]; exact h j hj2 hs
theorem why_rule : Rule fun e _ => Whys e where
 hand N e w T h p := p.upd fun hi _ => by
  have h1 := h.hand_lt.2.2.1
  exact p _ hi (by omega)
 late N e i w T h hl p := p.left i 10
 put N e i w T h hl h2 p := p.upd fun hi hs => p _ hi hs
 puts N e i w T h hl h2 p := p.upd fun hi hs => p _ hi hs
 asked N e i key T h p := p
 skip N e i j key l T h hs p := p
 note N e i j key l T h hs hb p := p.note _ _
 wrong N e i j key l T h hs hb p := (p.note _ _).left i 13
theorem Whys.goes (p : Whys e) (h : OkT N e []) (hi : i < e.txs.length) (ha : (e.tx i).alive = true) (why : Int) : Whys (e.goes i why) := why_rule.goes h hi ha why (p.left i why)
theorem Whys.puts (p : Whys e) (h : OkT N e []) (hi : i < e.txs.length) (hs : (e.tx i).state = 0) {w : Int × Int} (hk : keyOk w.1) (hv : valOk w.2) : Whys (e.puts i w) := why_rule.putsE (h.to_put hi hs hk hv) p
theorem Whys.begun (p : Whys e) (level : Int) : Whys (e.begin_ level).1 := by
 unfold Eng.begin_
 split
 ·exact p
 split
 ·exact p
 split
 ·exact p
 intro j hj hs
 simp only [List.length_append, List.length_singleton] at hj
 unfold Eng.tx at hs ⊢
 simp only at hs ⊢
 by_cases hlt : j < e.txs.length
 ·rw [List.getElem?_append_left hlt] at hs ⊢
  exact p j hlt hs
 ·obtain rfl : j = e.txs.length := by omega
  simp [Tx.zero]
theorem Whys.red (p : Whys e) (h : OkT N e []) (n key : Int) : Whys (e.read n key).1 := by
 have hc := read_case e n key
 generalize e.read n key = r at *
 cases hc with
 | err => exact p
 | own => exact p
 | plain i hn hi => exact p.upd fun hi hs => p _ hi hs
 | seen i hn hi => exact sees_keep (P := Whys) (fun e a b h => h.note a b) (p.upd fun hi hs => p _ hi hs)
 | gone i hn hi hs hv hk hl hr =>
  have p1 : Whys (e.noted i key) := p.upd fun hi hs => p _ hi hs
  have p2 := sees_keep (P := Whys) (fun e a b h => h.note a b) (i := i) (key := key) p1
  have h1 := h.noted1 hi key
  have hi1 : i < (e.noted i key).txs.length := by unfold Eng.noted; rw [Eng.upd_len]; exact hi
  obtain ⟨g1, g2, g3, _⟩ := sees_ok h1 hi1 key
  have hs1 : ((e.noted i key).tx i).state = 0 := (Eng.upd_keep (·.state) (fun x => { x with reads := x.reads ++ [(key, (mget e.wr (((readV (e.row key) (e.asOf i)).map (·.1)).getD 0)).getD 0)] }) (fun _ => rfl) i).trans hs
  exact p2.goes g1 (by omega) (state_alive (by rw [g3, hs1])) 13
theorem Whys.wrote (p : Whys e) (h : OkT N e []) (n key value : Int) : Whys (e.write n key value).1 := by
 have hc := write_case h n key value
 generalize e.write n key value = r at *
 cases hc with
 | err => exact p
 | cycle i hn hi hs hk hv =>
  have p1 : Whys ((e.wanting i (key, value)).table e.t) := Whys.same (Whys.upd (e := e) (i := i) (f := fun x => { x with want := (key, value) }) p fun hi hs => p _ hi hs) rfl
  have h1 := cycle_ok h hi hk hv
  exact p1.goes h1 (by show i < (e.upd i _).txs.length; rw [Eng.upd_len]; exact hi) (state_alive ((Eng.upd_keep (·.state) (fun x => { x with want := (key, value) }) (fun _ => rfl) i).trans hs)) 11
 | waits i a hn hi hs hk hv hh ha =>
  have p1 : Whys ((e.wanting i (key, value)).table (waitT e.t ((i : Int) + 1) key)) := Whys.same (Whys.upd (e := e) (i := i) (f := fun x => { x with want := (key, value) }) p fun hi hs => p _ hi hs) rfl
  refine p1.upd fun hi1 _ => ?_
  have hs2 : (((e.wanting i (key, value)).table (waitT e.t ((i : Int) + 1) key)).tx i).state = 0 := (Eng.upd_keep (·.state) (fun x => { x with want := (key, value) }) (fun _ => rfl) i).trans hs
  exact p1 i hi1 (by rw [hs2]; decide)
 | puts i t' hn hi hs hk hv ht r hr =>
  have p1 : Whys ((e.wanting i (key, value)).table t') := Whys.same (Whys.upd (e := e) (i := i) (f := fun x => { x with want := (key, value) }) p fun hi hs => p _ hi hs) rfl
  obtain ⟨g1, g2, g3⟩ := put_ok h hi hs hk hv ht
  exact why_rule.putsE g1 p1
theorem Whys.over2 (p : Whys e) (_hi : i < e.txs.length) (hs : (e.tx i).state = 0) : Whys (e.over2 i) := by
 have h1 : Whys (e.upd i fun x => { x with state := 2, ended := e.count + 1 }) := p.upd fun hi _ => p i hi (by rw [hs]; decide)
 refine h1.same ?_
 show ((e.told i).upd i (fun x => { x with state := 2, ended := e.count + 1 })).txs = _
 unfold Eng.upd
 rw [(told_txs e i).1]
theorem Whys.committed (p : Whys e) (h : OkT N e []) (n : Int) : Whys (e.commit n).1 := by
 by_cases h0 : e.ready n = 0
 ·obtain ⟨i, rfl, hi, hs⟩ := ready_at h0
  rw [commit_eq e i h0]
  exact why_rule.frees h hi (state_alive hs) ((p.over2 hi hs).same rfl)
 ·unfold Eng.commit
  rw [if_pos h0]
  simp only
  split
  ·rename_i h13
   obtain ⟨i, rfl, hi, hs⟩ := ready_13 h13
   rw [show ((i : Int) + 1).toNat - 1 = i by omega]
   exact p.goes h hi (state_alive hs) 13
  ·exact p
theorem Whys.aborted (p : Whys e) (h : OkT N e []) (n : Int) : Whys (e.abort n).1 := by
 unfold Eng.abort
 split
 ·exact p
 ·rename_i hx
  obtain ⟨i, rfl, hi, _⟩ := err_num (Decidable.not_not.1 hx)
  rw [show ((i : Int) + 1).toNat - 1 = i by omega]
  split
  ·exact p
  ·rename_i hs
   exact p.goes h hi (by simp only [Tx.alive, decide_eq_true_eq]; omega) 0
theorem Times.same (h : Times e) (ht : e'.txs = e.txs) (hc : e'.count = e.count) : Times e' := by
 have hx : ∀ j, e'.tx j = e.tx j := fun j => by unfold Eng.tx; rw [ht]
 refine ⟨fun j hj => ?_, fun j hj => ?_, fun i j hi hj hs => ?_⟩
 ·rw [hx, hc]; exact h.begun j (by rw [← ht]; exact hj)
 ·rw [hx, hc]; exact h.ended j (by rw [← ht]; exact hj)
 ·rw [hx] at hs ⊢; rw [hx]; exact h.apart i j (by rw [← ht]; exact hi) (by rw [← ht]; exact hj) hs
theorem Times.begin_ (h : Times e) (h0 : 0 ≤ e.count) (level : Int) : Times (e.begin_ level).1 := by
 unfold Eng.begin_
 split
 ·exact h
 split
 ·exact h
 split
 ·exact h
 have hx : ∀ j, j < e.txs.length → ∀ x c, ({ e with count := c, txs := e.txs ++ [x] } : Eng).tx j = e.tx j := fun j hj x c => by
  unfold Eng.tx; simp only; rw [List.getElem?_append_left hj]
 have hn : ∀ x c, ({ e with count := c, txs := e.txs ++ [x] } : Eng).tx e.txs.length = x := fun x c => by unfold Eng.tx; simp
 refine ⟨fun j hj => ?_, fun j hj => ?_, fun i j hi hj hs => ?_⟩
 ·simp only [List.length_append, List.length_singleton] at hj
  by_cases hlt : j < e.txs.length
  ·rw [hx j hlt]; have := h.begun j hlt; show _ ≤ e.count + 1; omega
  ·obtain rfl : j = e.txs.length := by omega
   rw [hn]; exact Int.le_refl _
 ·simp only [List.length_append, List.length_singleton] at hj
  by_cases hlt : j < e.txs.length
  ·rw [hx j hlt]; have := h.ended j hlt; show _ ≤ e.count + 1; omega
  ·obtain rfl : j = e.txs.length := by omega
   rw [hn]
   show (0 : Int) ≤ e.count + 1
   omega
 ·simp only [List.length_append, List.length_singleton] at hi hj
  by_cases hli : i < e.txs.length
  ·rw [hx i hli] at hs ⊢
   by_cases hlt : j < e.txs.length
   ·rw [hx j hlt]; exact h.apart i j hli hlt hs
   ·obtain rfl : j = e.txs.length := by omega
    rw [hn]
    have := h.ended i hli
    show (e.tx i).ended ≠ e.count + 1
    omega
  ·obtain rfl : i = e.txs.length := by omega
   rw [hn] at hs
   exact absurd hs (by simp [Tx.zero])
theorem Times.goes (h : Times e) (i : Nat) (why : Int) : Times (e.goes i why) := Times.goesN _ e i why h
theorem Times.puts (h : Times e) (i : Nat) (w : Int × Int) : Times (e.puts i w) := Times.putsG (fun e i why h => Times.goesN _ e i why h) h i w
theorem Times.red (p : Times e) (n key : Int) : Times (e.read n key).1 := by
 have hc := read_case e n key
 generalize e.read n key = r at *
 cases hc with
 | err => exact p
 | own => exact p
 | plain i hn hi => exact p.upd rfl rfl id
 | seen i hn hi => exact sees_keep (P := Times) (fun e a b h => h.note a b) (p.upd rfl rfl id)
 | gone i hn hi hs hv hk hl hr =>
  exact (sees_keep (P := Times) (fun e a b h => h.note a b) (i := i) (key := key) (e := e.noted i key) (p.upd rfl rfl id)).goes i 13
theorem Times.wrote (p : Times e) (h : OkT N e []) (n key value : Int) : Times (e.write n key value).1 := by
 have hc := write_case h n key value
 have p1 : ∀ (i : Nat) (t' : Tbl), Times ((e.wanting i (key, value)).table t') := fun i t' => Times.same (Times.upd (e := e) (i := i) (f := fun x => { x with want := (key, value) }) p rfl rfl id) rfl rfl
 generalize e.write n key value = r at *
 cases hc with
 | err => exact p
 | cycle i hn hi hs hk hv => exact (p1 i _).goes i 11
 | waits i a hn hi hs hk hv hh ha => exact (p1 i _).upd rfl rfl (by simp)
 | puts i t' hn hi hs hk hv ht r hr => exact (p1 i t').puts i _
theorem Times.over2 (p : Times e) : Times (e.over2 i) := by
 have h1 : Times { e.upd i (fun x => { x with state := 2, ended := e.count + 1 }) with count := e.count + 1 } := p.over rfl rfl
 refine h1.same ?_ rfl
 show ((e.told i).upd i (fun x => { x with state := 2, ended := e.count + 1 })).txs = _
 unfold Eng.upd
 rw [(told_txs e i).1]
theorem Times.committed (p : Times e) (n : Int) : Times (e.commit n).1 := by
 by_cases h0 : e.ready n = 0
 ·obtain ⟨i, rfl, hi, hs⟩ := ready_at h0
  rw [commit_eq e i h0]
  unfold Eng.frees freesG
  exact Times.freesL (fun e i why h => Times.goesN _ e i why h) _ _ (p.over2.lets i)
 ·unfold Eng.commit
  rw [if_pos h0]
  simp only
  split
  ·exact p.goes _ 13
  ·exact p
theorem Times.aborted (p : Times e) (n : Int) : Times (e.abort n).1 := by
 unfold Eng.abort
 split
 ·exact p
 ·split
  ·exact p
  ·exact p.goes _ 0
end
end Go.Proofs.YtdlkjppppdminaaGreatDoor
/- The plain engine over values that there are. No walk in sight. -/
namespace Go.Proofs.YtdlkjppppdminaaGreatDoor
open Go Go.RowKit Go.Sep
def Eng.over (at_ : Int) (l : Vers) : Eng := if instOk 0 at_ l then { Eng.zero with V := putAll at_ (List.replicate 10 []) l, last := at_ } else Eng.zero
theorem instOk_at {at_ : Int} {l : Vers} (h : instOk 0 at_ l = true) : 0 < at_ ∧ at_ ≤ 1099511627776 := by
 unfold instOk at h
 rw [Bool.and_eq_true, decide_eq_true_eq] at h
 exact h.1
theorem instOk_nil : instOk 0 0 [] = false := by decide
theorem OkT.over (at_ : Int) (l : Vers) : OkT 10 (Eng.over at_ l) [] := by
 unfold Eng.over
 by_cases h : instOk 0 at_ l = true
 ·rw [if_pos h]
  have h0 := OkT.start
  have h1 := instOk_at h
  refine ⟨h0.few, by show (putAll at_ (List.replicate 10 []) l).length = 10; rw [putAll_length]; rfl, h0.txs, h0.wr, h0.tab.imp fun Q hQ => ⟨hQ.tab, hQ.rk, hQ.hold, hQ.key, hQ.alive, hQ.waits⟩, h0.all, h0.six, h0.cnt, fun vs hv => ?_, h0.wrs, ⟨by show 0 ≤ at_; omega, h1.2⟩, h0.hist, h0.reads, h0.fits, by simp, by simp⟩
  have h2 := putAll_row (n := 0) (at_ := at_) l (V := List.replicate 10 []) (fun vs hv => .inl (by rw [(List.mem_replicate.1 hv).2]; exact Nat.le_refl _)) vs hv
  show (vs.length : Int) ≤ 0 + 1
  rcases h2 with h2 | h2
  ·omega
  ·omega
 ·rw [if_neg h]; exact OkT.start
theorem instErr_nil {at_ : Int} {l : Vers} (h : instOk 0 at_ l = true) : instErr 0 at_ l = .nil := by
 unfold instOk at h
 rw [Bool.and_eq_true, decide_eq_true_eq, Option.isNone_iff_eq_none] at h
 unfold instErr
 rw [if_pos h.1, h.2]
end Go.Proofs.YtdlkjppppdminaaGreatDoor
/- The program's engine over values that there are: Over. -/
namespace Go.Proofs.YtdlkjppppdminaaGreatDoor
open Go Go.RowKit Go.Sep
section
variable {w w0 : World} {L : List HProp} {b : Nat} {k : EngV}
theorem eng_over (at_ : Int) (l : Vers) (h : S w0 w (storeP 99 b 0 (if instOk 0 at_ l then putAll at_ (List.replicate 10 []) l else List.replicate 10 []) (if instOk 0 at_ l then at_ else 0) :: tabP 3 b 11 Eng.zero.t :: engO b [] k Eng.zero :: L)) : S w0 w (engP b [] (Eng.over at_ l) :: L) := by
 have e0 : (Eng.over at_ l).V = if instOk 0 at_ l then putAll at_ (List.replicate 10 []) l else List.replicate 10 [] := by unfold Eng.over; split <;> rfl
 have e1 : (Eng.over at_ l).last = if instOk 0 at_ l then at_ else 0 := by unfold Eng.over; split <;> rfl
 have e2 : (Eng.over at_ l).t = Eng.zero.t := by unfold Eng.over; split <;> rfl
 have e4 : engO b [] k (Eng.over at_ l) = engO b [] k Eng.zero := by unfold Eng.over; split <;> rfl
 refine S.eng_shut (k := k) ?_
 rw [e0, e1, e2, e4]
 exact h
end
set_option maxRecDepth 40000 in
theorem eover_zero (w0 w : World) (a : Option Addr) (c : Nat) (L : List HProp) (hs : S w0 w L) :
  Calls Tryz.prog 26 #[.int .i64 0, .slice a 0 c] w fun r w' => ∃ b, r = .returned (.tuple #[.pointer (some ⟨b, 0, none⟩), .nilIface]) ∧ S w0 w' (engP b [] (Eng.over 0 []) :: L) := by
 have HS := hid hs
 have he : Eng.over 0 [] = Eng.zero := by unfold Eng.over; rw [instOk_nil]; rfl
 rw [he]
 clear hs he
 go_enter Tryz.func26, Tryz.ntmps26
 go_wp2_with fail
 with_reducible refine (new_any w0 w L HS.out).mono ?_
 rintro r w1 ⟨rfl, hs1⟩
 have H1 := hid hs1
 clear hs1 HS
 go_wp2_with fail
 go_ret2
 exact ⟨_, rfl, H1.out⟩
end Go.Proofs.YtdlkjppppdminaaGreatDoor
namespace Go.Proofs.YtdlkjppppdminaaGreatDoor
open Go Go.RowKit Go.Sep
section
variable {w w0 : World} {L : List HProp} {b : Nat} {bs : List Nat} {k : EngV} {e : Eng} {i : Nat}
def rdX (b : Nat) (bs : List Nat) (k : EngV) (e : Eng) (i : Nat) : HProp :=
 sep (blk (blkOf bs i) 172 (txF (k.v i) (e.tx i))) (sep (mp encI (fun _ => True) (k.v i).mb (ienc (e.tx i).writes)) (sep (sl 167 1 (k.v i).fv (e.tx i).fore.length (ptrs bs (e.tx i).fore)) (sep (sl 167 1 (k.v i).av (e.tx i).aft.length (ptrs bs (e.tx i).aft)) (engX b bs k e i))))
theorem _root_.Go.Sep.S.rd_open (h : S w0 w (engO b bs k e :: L)) (hi : i < e.txs.length) : S w0 w (sl 181 2 (k.v i).rv (e.tx i).reads.length (pcells (e.tx i).reads) :: rdX b bs k e i :: L) := by
 refine (h.eng_tx hi).conv ?_
 simp only [all, rdX]
 rw [txK_parts]
 ac_rfl
theorem _root_.Go.Sep.S.rd_see (h : S w0 w (rdX b bs k e i :: L)) : w.cell? ⟨blkOf bs i, 5, none⟩ = some (k.v i).rv ∧ w.frozen? ⟨blkOf bs i, 5, none⟩ = false ∧ w.cell? ⟨b, 16, none⟩ = some (.map (some k.wb)) ∧ Go.Sep.MapAt encI (fun _ => True) w k.wb (ienc e.wr) := by
 have h1 : S w0 w (blk (blkOf bs i) 172 (txF (k.v i) (e.tx i)) :: engX b bs k e i :: mp encI (fun _ => True) (k.v i).mb (ienc (e.tx i).writes) :: sl 167 1 (k.v i).fv (e.tx i).fore.length (ptrs bs (e.tx i).fore) :: sl 167 1 (k.v i).av (e.tx i).aft.length (ptrs bs (e.tx i).aft) :: L) :=
  h.conv (by simp only [all, rdX]; ac_rfl)
 obtain ⟨_, h2⟩ := h1.swap.sep_elim.pur_elim
 obtain ⟨_, h3, _, h5, _⟩ := h2.engG_see
 exact ⟨h1.blk_cell 5 rfl, h1.blk_free 5, (h3 2 _ rfl).1, h5⟩
theorem _root_.Go.Sep.S.rd_close {v' : Value} {r : Int × Int} (hi : i < e.txs.length) (h : S w0 w (sl 181 2 v' ((e.tx i).reads.length + 1) (pcells (e.tx i).reads ++ pcells [r]) :: rdX b bs k e i :: L)) :
  ∃ k', k'.txv = k.txv ∧ S w0 (w.setCell ⟨blkOf bs i, 5, none⟩ v') (engO b bs k' (e.upd i fun x => { x with reads := x.reads ++ [r] }) :: L) := by
 let x : Tx := { e.tx i with reads := (e.tx i).reads ++ [r] }
 let v : TxV := { k.v i with rv := v' }
 have h1 : S w0 w (blk (blkOf bs i) 172 (txF (k.v i) (e.tx i)) :: sl 181 2 v' ((e.tx i).reads.length + 1) (pcells (e.tx i).reads ++ pcells [r]) :: mp encI (fun _ => True) (k.v i).mb (ienc (e.tx i).writes) :: sl 167 1 (k.v i).fv (e.tx i).fore.length (ptrs bs (e.tx i).fore) :: sl 167 1 (k.v i).av (e.tx i).aft.length (ptrs bs (e.tx i).aft) :: engX b bs k e i :: L) :=
  h.conv (by simp only [all, rdX]; ac_rfl)
 have h2 := h1.blk_set 5 (by simp [txF]) v'
 have h3 : S w0 (w.setCell ⟨blkOf bs i, 5, none⟩ v') (txK bs (blkOf bs i) v x :: engX b bs k e i :: L) := by
  refine h2.conv ?_
  rw [txK_parts]
  have e1 : (txF (k.v i) (e.tx i)).set 5 v' = txF v x := rfl
  have e2 : pcells (e.tx i).reads ++ pcells [r] = pcells x.reads := by simp [x, pcells]
  have e3 : (e.tx i).reads.length + 1 = x.reads.length := by simp [x]
  rw [e1, e2, e3]
  simp only [all]
  show _ = sep (sep _ (sep (sl _ 2 v' _ _) (sep (mp encI (fun _ => True) (k.v i).mb (ienc (e.tx i).writes)) (sep (sl _ 1 (k.v i).fv (e.tx i).fore.length (ptrs bs (e.tx i).fore)) (sl _ 1 (k.v i).av (e.tx i).aft.length (ptrs bs (e.tx i).aft)))))) _
  ac_rfl
 have h4 := h3.eng_back hi
 refine ⟨k.set i v, rfl, ?_⟩
 have e4 : (e.upd i fun x => { x with reads := x.reads ++ [r] }) = { e with txs := e.txs.set i x } := by
  have := Eng.upd_set hi fun x => { x with reads := x.reads ++ [r] }
  show ({ e with txs := _ } : Eng) = _
  rw [show e.txs.modify i (fun x => { x with reads := x.reads ++ [r] }) = e.txs.set i x from this]
 rw [e4]
 exact h4
def rdV (b : Nat) (bs : List Nat) (k : EngV) (e : Eng) (i vb : Nat) (a v : Int) : HProp := sep (rdX b bs k e i) (blk vb 99 [.int .i64 a, .int .i64 v])
end
theorem Tryz.info181 : (Tryz.prog.info? 181).map (fun i => (i.zero, i.size, i.bytes)) = some (some (.agg #[.int .i64 0, .int .i64 0]), 2, 16) := by kernel_rfl
theorem one_pair (p : Int × Int) : ∀ u ∈ pcells [p], u.oneCell' = true := by
 intro u hu
 simp [pcells] at hu
 rcases hu with rfl | rfl <;> rfl
def ranErr (r : Option (Int × Int)) : Int := if r.isSome then 0 else 8
theorem readAns_eq (r : Option (Int × Int)) : readAns r = .tuple #[.agg #[.int .i64 ((r.map (·.1)).getD 0), .int .i64 ((r.map (·.2)).getD 0)], errV (ranErr r)] := by
 cases r with
 | none => rfl
 | some p => rfl
theorem tell_errV (x : Int) (w0 w : World) (L : List HProp) (hE : ErrT w0) (hs : S w0 w L) : Calls Tryz.prog 28 #[errV x] w fun ev w' => ev = .returned (.int .i64 x) ∧ S w0 w' L := by
 by_cases h : x = 0
 ·subst h
  rw [errV_0]
  exact (tell_nil w).mono fun ev w' ⟨h1, h2⟩ => ⟨h1, h2 ▸ hs⟩
 ·rw [errV_ne h]
  exact tell_no x w0 w L hE hs
set_option linter.unusedSimpArgs false in
set_option maxRecDepth 100000 in
set_option maxHeartbeats 8000000 in
theorem eread_any (w0 w : World) (b : Nat) (bs : List Nat) (e : Eng) (n key : Int) (L : List HProp) (N : Nat) (hE : ErrT w0) (hok : OkT N e []) (hN : N ≤ 90000000) (hs : S w0 w (engP b bs e :: L)) :
  Calls Tryz.prog 76 #[.pointer (some ⟨b, 0, none⟩), .int .i64 n, .int .i64 key] w fun r w' => r = .returned (.tuple #[.int .i64 (e.read n key).2.1, errV (e.read n key).2.2]) ∧ S w0 w' (engP b bs (e.read n key).1 :: L) := by
 have HS := hid hs
 obtain ⟨k, hs⟩ := hs.eng_open
 have hO : S w0 w (engO b bs k e :: storeP 99 b 0 e.V e.last :: tabP 3 b 11 e.t :: L) := hs.conv (by simp only [all]; ac_rfl)
 rcases e.err_cases n true with ⟨h1, h2⟩ | ⟨i, rfl, hi, ⟨h1, h2, h3⟩ | ⟨h1, h2⟩⟩
 ·have hf : e.read n key = (e, 0, 7) := by unfold Eng.read; rw [if_pos (by rw [h1]; decide), h1]
  have HF := hid hf; have HC := hid (of_miss w0 w b bs k e n true _ hO h2)
  clear hs hO h1 h2 hf hok
  go_enter Tryz.func76, Tryz.ntmps76
  go_wp2_with fail
  with_reducible refine HC.out.mono ?_
  rintro r w' ⟨rfl, rfl⟩
  go_wp2_with fail
  go_ret2
  exact ⟨by rw [HF.out]; rfl, by rw [HF.out]; exact HS.out⟩
 ·have hf : e.read ((i : Int) + 1) key = (e, 0, 6) := by unfold Eng.read; rw [if_pos (by rw [h1]; decide), h1]
  have HF := hid hf; have HC := hid (of_shut w0 w b bs k e i _ hO hi h3)
  clear hs hO h1 h2 h3 hf hok
  go_enter Tryz.func76, Tryz.ntmps76
  go_wp2_with fail
  with_reducible refine HC.out.mono ?_
  rintro r w' ⟨rfl, rfl⟩
  go_wp2_with fail
  go_ret2
  exact ⟨by rw [HF.out]; rfl, by rw [HF.out]; exact HS.out⟩
 ·have hi2 : ((i : Int) + 1).toNat - 1 = i := by omega
  have hc := of_ok w0 w b bs k e i true _ hO hi h2
  unfold ptr at hc
  have hx := (hO.eng_txc hi).2
  have c0 := hx.level
  have c2 := hx.start
  have c6 := hx.writes
  have l6 := Tryz.look2 hx.map key
  have HC := hid hc
  cases hw : mget (e.tx i).writes key with
  | some v =>
   have hf : e.read ((i : Int) + 1) key = (e, v, 0) := by unfold Eng.read; rw [if_neg (by rw [h1]; decide)]; simp only [hi2, hw]
   have HF := hid hf
   rw [hw] at l6
   simp only [Option.getD_some, Option.isSome_some] at l6
   clear hs hO h1 h2 hf hc hok hi2 hx hw
   go_enter Tryz.func76, Tryz.ntmps76
   go_wp2_with fail
   with_reducible refine HC.out.mono ?_
   rintro r w' ⟨rfl, rfl⟩
   go_wp2_with fail
   go_ret2
   exact ⟨by rw [HF.out]; rfl, by rw [HF.out]; exact HS.out⟩
  | none =>
   rw [hw] at l6
   simp only [Option.getD_none, Option.isSome_none] at l6
   have hl := last_any b 0 e.last w hs.store_last.1
   have HL := hid hl
   by_cases hk : keyOk key
   ·obtain ⟨kn, rfl⟩ : ∃ kn : Nat, key = kn := ⟨key.toNat, by have := hk.1; omega⟩
    have hkn : kn < 10 := by have := hk.2; omega
    obtain ⟨vs, hvs⟩ : ∃ vs, e.V[kn]? = some vs := ⟨e.V[kn]'(by rw [hok.v10]; exact hkn), by simp⟩
    have hvl := hok.row_le vs (List.mem_of_getElem? hvs)
    have hrow : e.row (kn : Int) = vs := by unfold Eng.row; simp [hvs]
    have hcall := fun at_ => read_any b 0 e.V e.last at_ kn vs w0 w _ hkn hs hvs (by omega)
    obtain ⟨r, hr⟩ : ∃ r, readV vs (e.asOf i) = r := ⟨_, rfl⟩
    obtain ⟨va, hva⟩ : ∃ va, (r.map (·.1)).getD 0 = va := ⟨_, rfl⟩
    obtain ⟨vv, hvv⟩ : ∃ vv, (r.map (·.2)).getD 0 = vv := ⟨_, rfl⟩
    obtain ⟨E, hEE⟩ : ∃ E, ranErr r = E := ⟨_, rfl⟩
    obtain ⟨fr, hfr⟩ : ∃ fr, (mget e.wr va).getD 0 = fr := ⟨_, rfl⟩
    have hE2 : (E == 2) = false := by rw [← hEE]; unfold ranErr; split <;> rfl
    obtain ⟨e1, he1⟩ : ∃ e1, (e.upd i fun x => { x with reads := x.reads ++ [((kn : Int), fr)] }) = e1 := ⟨_, rfl⟩
    have hf : e.read ((i : Int) + 1) (kn : Int) = if (e.tx i).level = 2 then (if (e1.sees i (kn : Int)).2 = true then ((e1.sees i (kn : Int)).1, vv, E) else ((e1.sees i (kn : Int)).1.goes i 13, 0, 13)) else (e1, vv, E) := by
     unfold Eng.read
     rw [if_neg (by rw [h1]; decide)]
     simp only [hi2, hw, hrow, hr, hva, hvv, hfr, he1]
     rw [if_neg (by simpa using hk)]
     rw [← hEE]; rfl
    have hok1 : OkT (N + 1) e1 [] := by rw [← he1]; exact hok.reads_in hi _
    have hlen1 : e1.txs.length = e.txs.length := by rw [← he1]; exact Eng.upd_len ..
    have hst1 : (e1.tx i).state = 0 := by rw [← he1]; exact (Eng.upd_keep (·.state) (fun x => { x with reads := x.reads ++ [((kn : Int), fr)] }) (fun _ => rfl) i).trans (h2 rfl)
    have hlv1 : (e1.tx i).level = (e.tx i).level := by rw [← he1]; exact Eng.upd_keep (·.level) (fun x => { x with reads := x.reads ++ [((kn : Int), fr)] }) (fun _ => rfl) i
    have hi1 : i < e1.txs.length := by omega
    obtain ⟨hok2, hlen2, hst2, _⟩ := sees_ok hok1 hi1 (kn : Int)
    have hrn : (e.tx i).reads.length + 1 ≤ 1000000000000 := by have := hok.reads _ (Eng.tx_mem hi); omega
    have hal1 : (e1.tx i).alive = true := by simp [Tx.alive, hst1]
    have hi3 : i < (e1.sees i (kn : Int)).1.txs.length := by omega
    have hal3 : ((e1.sees i (kn : Int)).1.tx i).alive = true := by unfold Tx.alive; rw [hst2, hst1]; rfl
    have hrdo : ∀ W M, S w0 W (storeP 99 b 0 e.V e.last :: tabP 3 b 11 e.t :: engO b bs k e :: M) → S w0 W (sl 181 2 (k.v i).rv (e.tx i).reads.length (pcells (e.tx i).reads) :: rdX b bs k e i :: storeP 99 b 0 e.V e.last :: tabP 3 b 11 e.t :: M) := fun W M h =>
     S.rd_open (h.conv (M := engO b bs k e :: storeP 99 b 0 e.V e.last :: tabP 3 b 11 e.t :: M) (by simp only [all]; ac_rfl)) hi
    obtain ⟨ar, cr, hvr, hcr, hcr2, _⟩ := (hrdo _ _ hs).sl_val
    rw [hvr] at hrdo
    have hq0 : ∀ (vb : Nat) W M, S w0 W (rdV b bs k e i vb va vv :: M) → W.cell? ⟨blkOf bs i, 5, none⟩ = some (.slice ar (e.tx i).reads.length cr) ∧ W.cell? ⟨b, 16, none⟩ = some (.map (some k.wb)) ∧ (Instr.lookup 101 (.map (some k.wb)) (.int .i64 va) false).run Tryz.prog W = .ok (.int .i64 fr) W ∧ W.cell? ⟨vb, 0, none⟩ = some (.int .i64 va) := fun vb W M h => by
     obtain ⟨g1, g2, g3, g4⟩ := h.sep_elim.rd_see
     have g5 := Tryz.look1 g4 va
     rw [hfr] at g5
     exact ⟨by rw [g1, hvr], g3, g5, h.sep_elim.swap.blk_cell 0 rfl⟩
    have hf0 : ∀ (vb : Nat) W M, S w0 W (rdV b bs k e i vb va vv :: M) → W.frozen? ⟨blkOf bs i, 5, none⟩ = false := fun vb W M h => h.sep_elim.rd_see.2.1
    have hcl : ∀ (vb : Nat) W v' M, S w0 W (sl 181 2 v' ((e.tx i).reads.length + 1) (pcells (e.tx i).reads ++ pcells [((kn : Int), fr)]) :: rdV b bs k e i vb va vv :: storeP 99 b 0 e.V e.last :: tabP 3 b 11 e.t :: M :: L) →
      S w0 (W.setCell ⟨blkOf bs i, 5, none⟩ v') (engP b bs e1 :: blk vb 99 [.int .i64 va, .int .i64 vv] :: L) := fun vb W v' M h => by
     have g1 : S w0 W (sl 181 2 v' ((e.tx i).reads.length + 1) (pcells (e.tx i).reads ++ pcells [((kn : Int), fr)]) :: rdX b bs k e i :: blk vb 99 [.int .i64 va, .int .i64 vv] :: storeP 99 b 0 e.V e.last :: tabP 3 b 11 e.t :: M :: L) := h.conv (by simp only [all, rdV]; ac_rfl)
     obtain ⟨k', _, g2⟩ := S.rd_close hi g1
     rw [he1] at g2
     have g3 : S w0 (W.setCell ⟨blkOf bs i, 5, none⟩ v') (storeP 99 b 0 e1.V e1.last :: tabP 3 b 11 e1.t :: engO b bs k' e1 :: blk vb 99 [.int .i64 va, .int .i64 vv] :: M :: L) := by
      rw [show e1.V = e.V by rw [← he1]; rfl, show e1.last = e.last by rw [← he1]; rfl, show e1.t = e.t by rw [← he1]; rfl]
      exact g2.conv (by simp only [all]; ac_rfl)
     exact (g3.eng_shut).conv (M := M :: engP b bs e1 :: blk vb 99 [.int .i64 va, .int .i64 vv] :: L) (by simp only [all]; ac_rfl) |>.tail
    have hlv : ∀ W M, S w0 W (engP b bs e1 :: M) → W.cell? ⟨blkOf bs i, 0, none⟩ = some (.int .i64 (e.tx i).level) := fun W M h => by
     obtain ⟨k', g⟩ := h.eng_open
     have g2 : S w0 W (engO b bs k' e1 :: storeP 99 b 0 e1.V e1.last :: tabP 3 b 11 e1.t :: M) := g.conv (by simp only [all]; ac_rfl)
     rw [← hlv1]; exact (g2.eng_txc hi1).2.level
    have HRD := hid hrdo; have HQ0 := hid hq0; have HF0 := hid hf0; have HCL0 := hid hcl; have HLV := hid hlv; have HA := hid hrn
    have HOK1 := hid hok1; have HOK2 := hid hok2; have HI1 := hid hi1; have HAL1 := hid hal1; have HI2 := hid hi3; have HAL2 := hid hal3; have HKEY := hid hk
    obtain ⟨i0, hi0, hz0, hz1, hz2⟩ := info_parts Tryz.info181
    by_cases hl0 : (e.tx i).level = 0
    ·
     have hat : e.asOf i = e.last := by unfold Eng.asOf; rw [if_pos hl0]
     have hcl2 := hcall e.last
     rw [← hat, hr, readAns_eq, hva, hvv, hEE, hat] at hcl2
     have hff : e.read ((i : Int) + 1) (kn : Int) = (e1, vv, E) := by rw [hf, if_neg (by omega)]
     have HRC := hid hcl2; have HFF := hid hff
     rw [hl0] at c0 HLV
     clear hs hO h1 h2 hc hok hi2 hx hw hl hk hkn hvs hvl hrow hcall hr hva hvv hEE hfr he1 hf hok1 hlen1 hst1 hlv1 hok2 hlen2 hst2 hrn hi1 hal1 hi3 hal3 hrdo hvr hcr hcr2 hq0 hf0 hcl hlv hl0 hat hcl2 hff HOK1 HOK2 HI1 HAL1 HI2 HAL2 HKEY
     go_enter Tryz.func76, Tryz.ntmps76
     go_wp2_with fail
     with_reducible refine HC.out.mono ?_
     rintro r1 w1 ⟨rfl, rfl⟩
     go_wp2_with (go_at_call 104; with_reducible refine HL.out.mono ?_; rintro r1 w1 ⟨rfl, rfl⟩)
     with_reducible refine HRC.out.mono ?_
     rintro r1 wv ⟨rfl, hs2⟩
     have hs3 := HRD.out _ _ ((hs2.alloc #[.int .i64 va, .int .i64 vv] 99).conv (M := storeP 99 b 0 e.V e.last :: tabP 3 b 11 e.t :: engO b bs k e :: blk wv.heap.size 99 [.int .i64 va, .int .i64 vv] :: L) (by simp only [all]; ac_rfl))
     have hs3 : S w0 _ (sl 181 2 (.slice ar (e.tx i).reads.length cr) (e.tx i).reads.length (pcells (e.tx i).reads) :: rdV b bs k e i wv.heap.size va vv :: storeP 99 b 0 e.V e.last :: tabP 3 b 11 e.t :: L) := hs3.conv (by simp only [all, rdV]; ac_rfl)
     have H3 := hid hs3
     clear hs2 hs3 HC HL HRC
     go_wp2_with fail
     with_reducible refine (tell_errV E w0 _ _ hE H3.out).mono ?_
     rintro r1 w3 ⟨rfl, hs4⟩
     have H4 := hid hs4
     clear hs4 H3
     go_wp2_with fail
     have HS0 := H4
     have HQ := hid (HQ0.out wv.heap.size); have HF := hid (HF0.out wv.heap.size); have HCL := hid (HCL0.out wv.heap.size)
     clear HQ0 HF0 HCL0 H4 HRD
     refine region_U (S := fun w' => w'.cell? ⟨blkOf bs i, 5, none⟩ = some (.slice ar (e.tx i).reads.length cr) ∧ w'.cell? ⟨b, 16, none⟩ = some (.map (some k.wb)) ∧ (Instr.lookup 101 (.map (some k.wb)) (.int .i64 va) false).run Tryz.prog w' = .ok (.int .i64 fr) w' ∧ w'.cell? ⟨wv.heap.size, 0, none⟩ = some (.int .i64 va)) (u := 18) (by kernel_rfl) (HQ.out _ _ (HS0.out.drew.nth 1 rfl)) (fun hHeld => ?_)
     refine anyU_take (i := 0) (v := ?_) rfl (by kernel_rfl) (fun _ _ _ h => h) (Or.inl ⟨by rfl, ?_⟩) hHeld ?_
     rotate_left
     ·(intro w hSw; (try dsimp only at hSw); go_simp) <;> with_reducible rfl
     try simp only [putU]
     refine anyU_take (i := 1) (v := ?_) rfl (by kernel_rfl) (fun _ _ _ h => h) (Or.inl ⟨by rfl, ?_⟩) hHeld ?_
     rotate_left
     ·(intro w hSw; (try dsimp only at hSw); go_simp) <;> with_reducible rfl
     try simp only [putU]
     refine anyU_take (i := 2) (v := ?_) rfl (by kernel_rfl) (fun _ _ _ h => h) (Or.inl ⟨by rfl, ?_⟩) hHeld ?_
     rotate_left
     ·(intro w hSw; (try dsimp only at hSw); go_simp) <;> with_reducible rfl
     try simp only [putU]
     refine anyU_take (i := 3) (v := ?_) rfl (by kernel_rfl) (fun _ _ _ h => h) (Or.inl ⟨by rfl, ?_⟩) hHeld ?_
     rotate_left
     ·(intro w hSw; (try dsimp only at hSw); go_simp) <;> with_reducible rfl
     try simp only [putU]
     refine anyU_take (i := 4) (v := ?_) rfl (by kernel_rfl) (fun _ _ _ h => h) (Or.inl ⟨by rfl, ?_⟩) hHeld ?_
     rotate_left
     ·(intro w hSw; (try dsimp only at hSw); go_simp) <;> with_reducible rfl
     try simp only [putU]
     refine anyU_take (i := 5) (v := ?_) rfl (by kernel_rfl) (fun _ _ _ h => h) (Or.inl ⟨by rfl, ?_⟩) hHeld ?_
     rotate_left
     ·(intro w hSw; (try dsimp only at hSw); go_simp) <;> with_reducible rfl
     try simp only [putU]
     refine anyU_take (i := 6) (v := ?_) rfl (by kernel_rfl) (fun _ _ _ h => h) (Or.inl ⟨by rfl, ?_⟩) hHeld ?_
     rotate_left
     ·(intro w hSw; (try dsimp only at hSw); go_simp) <;> with_reducible rfl
     try simp only [putU]
     refine anyU_take (i := 7) (v := ?_) rfl (by kernel_rfl) (fun _ _ _ h => h) (Or.inl ⟨by rfl, ?_⟩) hHeld ?_
     rotate_left
     ·(intro w hSw; (try dsimp only at hSw); go_simp) <;> with_reducible rfl
     try simp only [putU]
     refine anyU_take (i := 8) (v := ?_) rfl (by kernel_rfl) (fun _ _ _ h => h) (Or.inl ⟨by rfl, ?_⟩) hHeld ?_
     rotate_left
     ·(intro w hSw; (try dsimp only at hSw); go_simp) <;> with_reducible rfl
     try simp only [putU]
     refine anyU_take (i := 9) (v := ?_) rfl (by kernel_rfl) (fun _ _ _ h => h) (Or.inl ⟨by rfl, ?_⟩) hHeld ?_
     rotate_left
     ·(intro w hSw; (try dsimp only at hSw); go_simp) <;> with_reducible rfl
     try simp only [putU]
     refine anyU_take (i := 10) (v := ?_) rfl (by kernel_rfl) (fun _ _ _ h => h) (Or.inl ⟨by rfl, ?_⟩) hHeld ?_
     rotate_left
     ·(intro w hSw; (try dsimp only at hSw); go_simp) <;> with_reducible rfl
     try simp only [putU]
     refine anyU_take (i := 11) (v := ?_) rfl (by kernel_rfl) (fun _ _ _ h => h) (Or.inl ⟨by rfl, ?_⟩) hHeld ?_
     rotate_left
     ·(intro w hSw; (try dsimp only at hSw); go_simp) <;> with_reducible rfl
     try simp only [putU]
     refine anyU_take (i := 12) (v := ?_) rfl (by kernel_rfl) (fun _ _ _ h => h) (Or.inl ⟨by rfl, ?_⟩) hHeld ?_
     rotate_left
     ·(intro w hSw; (try dsimp only at hSw); go_simp) <;> with_reducible rfl
     try simp only [putU]
     refine anyU_take (i := 13) (v := ?_) rfl (by kernel_rfl) (fun _ _ _ h => h) (Or.inl ⟨by rfl, ?_⟩) hHeld ?_
     rotate_left
     ·(intro w hSw; (try dsimp only at hSw); go_simp) <;> with_reducible rfl
     try simp only [putU]
     have HS := hid HS0.out.drew
     clear hHeld
     refine anyU_world (fun w => Hid (S w0 w _)) HS (fun w1 HS => ?_)
     clear HS0
     refine anyU_next (rs := [14]) (by kernel_rfl) (by simp) ?_
     refine NextU.cons rfl (fun K hK => ?_) ?_
     ·go_simp
      replace HS := hid (HS.out.alloc_slU (e := 181) (size := 2) (pcells [((kn : Int), fr)]) 1 rfl (by unfold maxLen; omega))
      generalize w1.heap.size = b14 at HS ⊢
      refine act_any (fun w => Hid (S w0 w _)) HS (fun w2 HS => ?_)
      refine hK.out _ _ (fun _ => (HQ.out _ _ (HS.out.nth 2 rfl))) ?_
      clear hK K
      refine anyU_next (rs := [15]) (by kernel_rfl) (by simp) ?_
      refine NextU.cons rfl (fun K hK => ?_) ?_
      ·refine step_appU rfl (.tmp 64) (.tmp 74) 170 rfl 181 i0 _ 2 16 Tryz.underlying170 hi0 hz0 hz1 hz2 rfl (by decide) HS.out 1 (by rfl) (by rfl) _ 1 1 (pcells [((kn : Int), fr)]) (by rfl) rfl (HS.out.news_slK 0 (by rfl)) (one_pair _) HA.out (by decide) ?_
       intro v15 w3 hs
       replace HS := hid hs
       clear hs
       obtain ⟨p15, c15, rfl, _, _, _⟩ := HS.out.sl_val
       refine hK.out _ _ (fun _ => (HQ.out _ _ (HS.out.nth 2 rfl))) ?_
       clear hK K
       try simp only [putU]
       refine anyU_pure (i := 16) (v := ?_) rfl (by kernel_rfl) (fun _ _ _ h => h) (Or.inl ⟨by rfl, ?_⟩) (fun _ => (HQ.out _ _ (HS.out.nth 2 rfl))) ?_
       rotate_left
       ·(intro w _; go_simp) <;> with_reducible rfl
       try simp only [putU]
       refine anyU_take (i := 17) (v := ?_) rfl (by kernel_rfl) (fun _ _ _ h => h) (Or.inl ⟨by rfl, ?_⟩) (HQ.out _ _ (HS.out.nth 2 rfl)) ?_
       rotate_left
       ·(intro w hSw; (try dsimp only at hSw); go_simp) <;> with_reducible rfl
       try simp only [putU]
       refine anyU_next (rs := [18]) (by kernel_rfl) (by simp) ?_
       refine NextU.cons rfl (fun K hK => ?_) ?_
       ·have q1 := (HQ.out _ _ (HS.out.nth 2 rfl)).1
        have q2 := HF.out _ _ (HS.out.nth 2 rfl)
        go_simp
        refine hK.out _ _ (fun h => Bool.noConfusion (show true = false from h)) ?_
        clear hK K q1 q2
        refine anyU_done (by kernel_rfl) ?_ _
        have HZ := HS.out
        simp only [List.eraseIdx_cons_succ, List.eraseIdx_cons_zero] at HZ
        have h5 := HCL.out _ _ _ (HZ.conv (M := sl 181 2 (.slice p15 ((e.tx i).reads.length + 1) c15) ((e.tx i).reads.length + 1) (pcells (e.tx i).reads ++ pcells [((kn : Int), fr)]) :: rdV b bs k e i wv.heap.size va vv :: storeP 99 b 0 e.V e.last :: tabP 3 b 11 e.t :: sl 181 2 (.slice (some ⟨b14, 0, none⟩) 1 1) 1 (pcells [((kn : Int), fr)]) :: L) (by simp only [all]; ac_rfl))
        have H5 := hid h5
        have q0 := HLV.out _ _ h5
        have q9 := h5.swap.blk_cell 1 rfl
        clear HZ h5 HS HCL HQ HF HLV
        go_wp2_with fail
        go_ret2
        exact ⟨by rw [HFF.out]; rfl, by rw [HFF.out]; exact H5.out.swap.tail⟩
       exact NextU.nil
      exact NextU.nil
     exact NextU.nil
    ·by_cases hl2 : (e.tx i).level = 2
     ·
      have hat : e.asOf i = (e.tx i).start := by unfold Eng.asOf; rw [if_neg hl0]
      have hcl2 := hcall (e.tx i).start
      rw [← hat, hr, readAns_eq, hva, hvv, hEE, hat] at hcl2
      rw [if_pos hl2] at hf
      have hff := hf
      have HRC := hid hcl2; have HFF := hid hff
      rw [hl2] at c0 HLV
      clear hs hO h1 h2 hc hok hi2 hx hw hl hk hkn hvs hvl hrow hcall hr hva hvv hEE hfr he1 hf hok1 hlen1 hst1 hlv1 hok2 hlen2 hst2 hrn hi1 hal1 hi3 hal3 hrdo hvr hcr hcr2 hq0 hf0 hcl hlv hl0 hl2 hat hcl2 hff
      go_enter Tryz.func76, Tryz.ntmps76
      go_wp2_with fail
      with_reducible refine HC.out.mono ?_
      rintro r1 w1 ⟨rfl, rfl⟩
      go_wp2_with fail
      with_reducible refine HRC.out.mono ?_
      rintro r1 wv ⟨rfl, hs2⟩
      have hs3 := HRD.out _ _ ((hs2.alloc #[.int .i64 va, .int .i64 vv] 99).conv (M := storeP 99 b 0 e.V e.last :: tabP 3 b 11 e.t :: engO b bs k e :: blk wv.heap.size 99 [.int .i64 va, .int .i64 vv] :: L) (by simp only [all]; ac_rfl))
      have hs3 : S w0 _ (sl 181 2 (.slice ar (e.tx i).reads.length cr) (e.tx i).reads.length (pcells (e.tx i).reads) :: rdV b bs k e i wv.heap.size va vv :: storeP 99 b 0 e.V e.last :: tabP 3 b 11 e.t :: L) := hs3.conv (by simp only [all, rdV]; ac_rfl)
      have H3 := hid hs3
      clear hs2 hs3 HC HL HRC
      go_wp2_with fail
      with_reducible refine (tell_errV E w0 _ _ hE H3.out).mono ?_
      rintro r1 w3 ⟨rfl, hs4⟩
      have H4 := hid hs4
      clear hs4 H3
      go_wp2_with fail
      have HS0 := H4
      have HQ := hid (HQ0.out wv.heap.size); have HF := hid (HF0.out wv.heap.size); have HCL := hid (HCL0.out wv.heap.size)
      clear HQ0 HF0 HCL0 H4 HRD
      refine region_U (S := fun w' => w'.cell? ⟨blkOf bs i, 5, none⟩ = some (.slice ar (e.tx i).reads.length cr) ∧ w'.cell? ⟨b, 16, none⟩ = some (.map (some k.wb)) ∧ (Instr.lookup 101 (.map (some k.wb)) (.int .i64 va) false).run Tryz.prog w' = .ok (.int .i64 fr) w' ∧ w'.cell? ⟨wv.heap.size, 0, none⟩ = some (.int .i64 va)) (u := 18) (by kernel_rfl) (HQ.out _ _ (HS0.out.drew.nth 1 rfl)) (fun hHeld => ?_)
      refine anyU_take (i := 0) (v := ?_) rfl (by kernel_rfl) (fun _ _ _ h => h) (Or.inl ⟨by rfl, ?_⟩) hHeld ?_
      rotate_left
      ·(intro w hSw; (try dsimp only at hSw); go_simp) <;> with_reducible rfl
      try simp only [putU]
      refine anyU_take (i := 1) (v := ?_) rfl (by kernel_rfl) (fun _ _ _ h => h) (Or.inl ⟨by rfl, ?_⟩) hHeld ?_
      rotate_left
      ·(intro w hSw; (try dsimp only at hSw); go_simp) <;> with_reducible rfl
      try simp only [putU]
      refine anyU_take (i := 2) (v := ?_) rfl (by kernel_rfl) (fun _ _ _ h => h) (Or.inl ⟨by rfl, ?_⟩) hHeld ?_
      rotate_left
      ·(intro w hSw; (try dsimp only at hSw); go_simp) <;> with_reducible rfl
      try simp only [putU]
      refine anyU_take (i := 3) (v := ?_) rfl (by kernel_rfl) (fun _ _ _ h => h) (Or.inl ⟨by rfl, ?_⟩) hHeld ?_
      rotate_left
      ·(intro w hSw; (try dsimp only at hSw); go_simp) <;> with_reducible rfl
      try simp only [putU]
      refine anyU_take (i := 4) (v := ?_) rfl (by kernel_rfl) (fun _ _ _ h => h) (Or.inl ⟨by rfl, ?_⟩) hHeld ?_
      rotate_left
      ·(intro w hSw; (try dsimp only at hSw); go_simp) <;> with_reducible rfl
      try simp only [putU]
      refine anyU_take (i := 5) (v := ?_) rfl (by kernel_rfl) (fun _ _ _ h => h) (Or.inl ⟨by rfl, ?_⟩) hHeld ?_
      rotate_left
      ·(intro w hSw; (try dsimp only at hSw); go_simp) <;> with_reducible rfl
      try simp only [putU]
      refine anyU_take (i := 6) (v := ?_) rfl (by kernel_rfl) (fun _ _ _ h => h) (Or.inl ⟨by rfl, ?_⟩) hHeld ?_
      rotate_left
      ·(intro w hSw; (try dsimp only at hSw); go_simp) <;> with_reducible rfl
      try simp only [putU]
      refine anyU_take (i := 7) (v := ?_) rfl (by kernel_rfl) (fun _ _ _ h => h) (Or.inl ⟨by rfl, ?_⟩) hHeld ?_
      rotate_left
      ·(intro w hSw; (try dsimp only at hSw); go_simp) <;> with_reducible rfl
      try simp only [putU]
      refine anyU_take (i := 8) (v := ?_) rfl (by kernel_rfl) (fun _ _ _ h => h) (Or.inl ⟨by rfl, ?_⟩) hHeld ?_
      rotate_left
      ·(intro w hSw; (try dsimp only at hSw); go_simp) <;> with_reducible rfl
      try simp only [putU]
      refine anyU_take (i := 9) (v := ?_) rfl (by kernel_rfl) (fun _ _ _ h => h) (Or.inl ⟨by rfl, ?_⟩) hHeld ?_
      rotate_left
      ·(intro w hSw; (try dsimp only at hSw); go_simp) <;> with_reducible rfl
      try simp only [putU]
      refine anyU_take (i := 10) (v := ?_) rfl (by kernel_rfl) (fun _ _ _ h => h) (Or.inl ⟨by rfl, ?_⟩) hHeld ?_
      rotate_left
      ·(intro w hSw; (try dsimp only at hSw); go_simp) <;> with_reducible rfl
      try simp only [putU]
      refine anyU_take (i := 11) (v := ?_) rfl (by kernel_rfl) (fun _ _ _ h => h) (Or.inl ⟨by rfl, ?_⟩) hHeld ?_
      rotate_left
      ·(intro w hSw; (try dsimp only at hSw); go_simp) <;> with_reducible rfl
      try simp only [putU]
      refine anyU_take (i := 12) (v := ?_) rfl (by kernel_rfl) (fun _ _ _ h => h) (Or.inl ⟨by rfl, ?_⟩) hHeld ?_
      rotate_left
      ·(intro w hSw; (try dsimp only at hSw); go_simp) <;> with_reducible rfl
      try simp only [putU]
      refine anyU_take (i := 13) (v := ?_) rfl (by kernel_rfl) (fun _ _ _ h => h) (Or.inl ⟨by rfl, ?_⟩) hHeld ?_
      rotate_left
      ·(intro w hSw; (try dsimp only at hSw); go_simp) <;> with_reducible rfl
      try simp only [putU]
      have HS := hid HS0.out.drew
      clear hHeld
      refine anyU_world (fun w => Hid (S w0 w _)) HS (fun w1 HS => ?_)
      clear HS0
      refine anyU_next (rs := [14]) (by kernel_rfl) (by simp) ?_
      refine NextU.cons rfl (fun K hK => ?_) ?_
      ·go_simp
       replace HS := hid (HS.out.alloc_slU (e := 181) (size := 2) (pcells [((kn : Int), fr)]) 1 rfl (by unfold maxLen; omega))
       generalize w1.heap.size = b14 at HS ⊢
       refine act_any (fun w => Hid (S w0 w _)) HS (fun w2 HS => ?_)
       refine hK.out _ _ (fun _ => (HQ.out _ _ (HS.out.nth 2 rfl))) ?_
       clear hK K
       refine anyU_next (rs := [15]) (by kernel_rfl) (by simp) ?_
       refine NextU.cons rfl (fun K hK => ?_) ?_
       ·refine step_appU rfl (.tmp 64) (.tmp 74) 170 rfl 181 i0 _ 2 16 Tryz.underlying170 hi0 hz0 hz1 hz2 rfl (by decide) HS.out 1 (by rfl) (by rfl) _ 1 1 (pcells [((kn : Int), fr)]) (by rfl) rfl (HS.out.news_slK 0 (by rfl)) (one_pair _) HA.out (by decide) ?_
        intro v15 w3 hs
        replace HS := hid hs
        clear hs
        obtain ⟨p15, c15, rfl, _, _, _⟩ := HS.out.sl_val
        refine hK.out _ _ (fun _ => (HQ.out _ _ (HS.out.nth 2 rfl))) ?_
        clear hK K
        try simp only [putU]
        refine anyU_pure (i := 16) (v := ?_) rfl (by kernel_rfl) (fun _ _ _ h => h) (Or.inl ⟨by rfl, ?_⟩) (fun _ => (HQ.out _ _ (HS.out.nth 2 rfl))) ?_
        rotate_left
        ·(intro w _; go_simp) <;> with_reducible rfl
        try simp only [putU]
        refine anyU_take (i := 17) (v := ?_) rfl (by kernel_rfl) (fun _ _ _ h => h) (Or.inl ⟨by rfl, ?_⟩) (HQ.out _ _ (HS.out.nth 2 rfl)) ?_
        rotate_left
        ·(intro w hSw; (try dsimp only at hSw); go_simp) <;> with_reducible rfl
        try simp only [putU]
        refine anyU_next (rs := [18]) (by kernel_rfl) (by simp) ?_
        refine NextU.cons rfl (fun K hK => ?_) ?_
        ·have q1 := (HQ.out _ _ (HS.out.nth 2 rfl)).1
         have q2 := HF.out _ _ (HS.out.nth 2 rfl)
         go_simp
         refine hK.out _ _ (fun h => Bool.noConfusion (show true = false from h)) ?_
         clear hK K q1 q2
         refine anyU_done (by kernel_rfl) ?_ _
         have HZ := HS.out
         simp only [List.eraseIdx_cons_succ, List.eraseIdx_cons_zero] at HZ
         have h5 := HCL.out _ _ _ (HZ.conv (M := sl 181 2 (.slice p15 ((e.tx i).reads.length + 1) c15) ((e.tx i).reads.length + 1) (pcells (e.tx i).reads ++ pcells [((kn : Int), fr)]) :: rdV b bs k e i wv.heap.size va vv :: storeP 99 b 0 e.V e.last :: tabP 3 b 11 e.t :: sl 181 2 (.slice (some ⟨b14, 0, none⟩) 1 1) 1 (pcells [((kn : Int), fr)]) :: L) (by simp only [all]; ac_rfl))
         have H5 := hid h5
         have q0 := HLV.out _ _ h5
         have q9 := h5.swap.blk_cell 1 rfl
         clear HZ h5 HS HCL HQ HF HLV
         have hsaw := saw_any w0 _ b bs e1 i (kn : Int) _ (N + 1) [] HOK1.out HI1.out HAL1.out HKEY.out (by omega) H5.out
         unfold ptr at hsaw
         have HSAW := hid hsaw
         clear hsaw
         cases hsv : (e1.sees i (kn : Int)).2 with
         | true =>
          rw [hsv] at HSAW
          have hff : e.read ((i : Int) + 1) (kn : Int) = ((e1.sees i (kn : Int)).1, vv, E) := by rw [HFF.out, if_pos hsv]
          have HFF2 := hid hff
          clear hff HFF hsv
          go_wp2_with (go_at_call 114; with_reducible refine HSAW.out.mono ?_; rintro r w5 ⟨rfl, hs5⟩; have H6 := hid hs5; have q8 := hs5.swap.blk_cell 1 rfl; clear hs5)
          go_ret2
          exact ⟨by rw [HFF2.out]; rfl, by rw [HFF2.out]; exact H6.out.swap.tail⟩
         | false =>
          rw [hsv] at HSAW
          have hff : e.read ((i : Int) + 1) (kn : Int) = ((e1.sees i (kn : Int)).1.goes i 13, 0, 13) := by rw [HFF.out, if_neg (by rw [hsv]; decide)]
          have HFF2 := hid hff
          clear hff HFF hsv
          go_wp2_with (go_at_call 114; with_reducible refine HSAW.out.mono ?_; rintro r w5 ⟨rfl, hs5⟩; have H6 := hid hs5; have q8 := hs5.swap.blk_cell 1 rfl; clear hs5)
          have hgo := goes_any (e1.sees i (kn : Int)).1.open_ w0 w5 b bs _ i 13 _ (N + 602) [] HOK2.out HI2.out HAL2.out (by simp) (Nat.le_refl _) (by omega) H6.out
          have HGO := hid hgo
          clear hgo
          with_reducible refine HGO.out.mono ?_
          rintro r w6 ⟨rfl, hs6⟩
          have H7 := hid hs6
          clear hs6
          go_wp2_with fail
          go_ret2
          exact ⟨by rw [HFF2.out]; rfl, by rw [HFF2.out]; exact H7.out.swap.tail⟩
        exact NextU.nil
       exact NextU.nil
      exact NextU.nil
     ·
      have hat : e.asOf i = (e.tx i).start := by unfold Eng.asOf; rw [if_neg hl0]
      have hcl2 := hcall (e.tx i).start
      rw [← hat, hr, readAns_eq, hva, hvv, hEE, hat] at hcl2
      have hff : e.read ((i : Int) + 1) (kn : Int) = (e1, vv, E) := by rw [hf, if_neg hl2]
      have HRC := hid hcl2; have HFF := hid hff
      have hb0 : ((e.tx i).level == 0) = false := by simpa using hl0
      have hb2 : ((e.tx i).level == 2) = false := by simpa using hl2
      clear hs hO h1 h2 hc hok hi2 hx hw hl hk hkn hvs hvl hrow hcall hr hva hvv hEE hfr he1 hf hok1 hlen1 hst1 hlv1 hok2 hlen2 hst2 hrn hi1 hal1 hi3 hal3 hrdo hvr hcr hcr2 hq0 hf0 hcl hlv hl0 hl2 hat hcl2 hff HOK1 HOK2 HI1 HAL1 HI2 HAL2 HKEY
      go_enter Tryz.func76, Tryz.ntmps76
      go_wp2_with fail
      with_reducible refine HC.out.mono ?_
      rintro r1 w1 ⟨rfl, rfl⟩
      go_wp2_with fail
      with_reducible refine HRC.out.mono ?_
      rintro r1 wv ⟨rfl, hs2⟩
      have hs3 := HRD.out _ _ ((hs2.alloc #[.int .i64 va, .int .i64 vv] 99).conv (M := storeP 99 b 0 e.V e.last :: tabP 3 b 11 e.t :: engO b bs k e :: blk wv.heap.size 99 [.int .i64 va, .int .i64 vv] :: L) (by simp only [all]; ac_rfl))
      have hs3 : S w0 _ (sl 181 2 (.slice ar (e.tx i).reads.length cr) (e.tx i).reads.length (pcells (e.tx i).reads) :: rdV b bs k e i wv.heap.size va vv :: storeP 99 b 0 e.V e.last :: tabP 3 b 11 e.t :: L) := hs3.conv (by simp only [all, rdV]; ac_rfl)
      have H3 := hid hs3
      clear hs2 hs3 HC HL HRC
      go_wp2_with fail
      with_reducible refine (tell_errV E w0 _ _ hE H3.out).mono ?_
      rintro r1 w3 ⟨rfl, hs4⟩
      have H4 := hid hs4
      clear hs4 H3
      go_wp2_with fail
      have HS0 := H4
      have HQ := hid (HQ0.out wv.heap.size); have HF := hid (HF0.out wv.heap.size); have HCL := hid (HCL0.out wv.heap.size)
      clear HQ0 HF0 HCL0 H4 HRD
      refine region_U (S := fun w' => w'.cell? ⟨blkOf bs i, 5, none⟩ = some (.slice ar (e.tx i).reads.length cr) ∧ w'.cell? ⟨b, 16, none⟩ = some (.map (some k.wb)) ∧ (Instr.lookup 101 (.map (some k.wb)) (.int .i64 va) false).run Tryz.prog w' = .ok (.int .i64 fr) w' ∧ w'.cell? ⟨wv.heap.size, 0, none⟩ = some (.int .i64 va)) (u := 18) (by kernel_rfl) (HQ.out _ _ (HS0.out.drew.nth 1 rfl)) (fun hHeld => ?_)
      refine anyU_take (i := 0) (v := ?_) rfl (by kernel_rfl) (fun _ _ _ h => h) (Or.inl ⟨by rfl, ?_⟩) hHeld ?_
      rotate_left
      ·(intro w hSw; (try dsimp only at hSw); go_simp) <;> with_reducible rfl
      try simp only [putU]
      refine anyU_take (i := 1) (v := ?_) rfl (by kernel_rfl) (fun _ _ _ h => h) (Or.inl ⟨by rfl, ?_⟩) hHeld ?_
      rotate_left
      ·(intro w hSw; (try dsimp only at hSw); go_simp) <;> with_reducible rfl
      try simp only [putU]
      refine anyU_take (i := 2) (v := ?_) rfl (by kernel_rfl) (fun _ _ _ h => h) (Or.inl ⟨by rfl, ?_⟩) hHeld ?_
      rotate_left
      ·(intro w hSw; (try dsimp only at hSw); go_simp) <;> with_reducible rfl
      try simp only [putU]
      refine anyU_take (i := 3) (v := ?_) rfl (by kernel_rfl) (fun _ _ _ h => h) (Or.inl ⟨by rfl, ?_⟩) hHeld ?_
      rotate_left
      ·(intro w hSw; (try dsimp only at hSw); go_simp) <;> with_reducible rfl
      try simp only [putU]
      refine anyU_take (i := 4) (v := ?_) rfl (by kernel_rfl) (fun _ _ _ h => h) (Or.inl ⟨by rfl, ?_⟩) hHeld ?_
      rotate_left
      ·(intro w hSw; (try dsimp only at hSw); go_simp) <;> with_reducible rfl
      try simp only [putU]
      refine anyU_take (i := 5) (v := ?_) rfl (by kernel_rfl) (fun _ _ _ h => h) (Or.inl ⟨by rfl, ?_⟩) hHeld ?_
      rotate_left
      ·(intro w hSw; (try dsimp only at hSw); go_simp) <;> with_reducible rfl
      try simp only [putU]
      refine anyU_take (i := 6) (v := ?_) rfl (by kernel_rfl) (fun _ _ _ h => h) (Or.inl ⟨by rfl, ?_⟩) hHeld ?_
      rotate_left
      ·(intro w hSw; (try dsimp only at hSw); go_simp) <;> with_reducible rfl
      try simp only [putU]
      refine anyU_take (i := 7) (v := ?_) rfl (by kernel_rfl) (fun _ _ _ h => h) (Or.inl ⟨by rfl, ?_⟩) hHeld ?_
      rotate_left
      ·(intro w hSw; (try dsimp only at hSw); go_simp) <;> with_reducible rfl
      try simp only [putU]
      refine anyU_take (i := 8) (v := ?_) rfl (by kernel_rfl) (fun _ _ _ h => h) (Or.inl ⟨by rfl, ?_⟩) hHeld ?_
      rotate_left
      ·(intro w hSw; (try dsimp only at hSw); go_simp) <;> with_reducible rfl
      try simp only [putU]
      refine anyU_take (i := 9) (v := ?_) rfl (by kernel_rfl) (fun _ _ _ h => h) (Or.inl ⟨by rfl, ?_⟩) hHeld ?_
      rotate_left
      ·(intro w hSw; (try dsimp only at hSw); go_simp) <;> with_reducible rfl
      try simp only [putU]
      refine anyU_take (i := 10) (v := ?_) rfl (by kernel_rfl) (fun _ _ _ h => h) (Or.inl ⟨by rfl, ?_⟩) hHeld ?_
      rotate_left
      ·(intro w hSw; (try dsimp only at hSw); go_simp) <;> with_reducible rfl
      try simp only [putU]
      refine anyU_take (i := 11) (v := ?_) rfl (by kernel_rfl) (fun _ _ _ h => h) (Or.inl ⟨by rfl, ?_⟩) hHeld ?_
      rotate_left
      ·(intro w hSw; (try dsimp only at hSw); go_simp) <;> with_reducible rfl
      try simp only [putU]
      refine anyU_take (i := 12) (v := ?_) rfl (by kernel_rfl) (fun _ _ _ h => h) (Or.inl ⟨by rfl, ?_⟩) hHeld ?_
      rotate_left
      ·(intro w hSw; (try dsimp only at hSw); go_simp) <;> with_reducible rfl
      try simp only [putU]
      refine anyU_take (i := 13) (v := ?_) rfl (by kernel_rfl) (fun _ _ _ h => h) (Or.inl ⟨by rfl, ?_⟩) hHeld ?_
      rotate_left
      ·(intro w hSw; (try dsimp only at hSw); go_simp) <;> with_reducible rfl
      try simp only [putU]
      have HS := hid HS0.out.drew
      clear hHeld
      refine anyU_world (fun w => Hid (S w0 w _)) HS (fun w1 HS => ?_)
      clear HS0
      refine anyU_next (rs := [14]) (by kernel_rfl) (by simp) ?_
      refine NextU.cons rfl (fun K hK => ?_) ?_
      ·go_simp
       replace HS := hid (HS.out.alloc_slU (e := 181) (size := 2) (pcells [((kn : Int), fr)]) 1 rfl (by unfold maxLen; omega))
       generalize w1.heap.size = b14 at HS ⊢
       refine act_any (fun w => Hid (S w0 w _)) HS (fun w2 HS => ?_)
       refine hK.out _ _ (fun _ => (HQ.out _ _ (HS.out.nth 2 rfl))) ?_
       clear hK K
       refine anyU_next (rs := [15]) (by kernel_rfl) (by simp) ?_
       refine NextU.cons rfl (fun K hK => ?_) ?_
       ·refine step_appU rfl (.tmp 64) (.tmp 74) 170 rfl 181 i0 _ 2 16 Tryz.underlying170 hi0 hz0 hz1 hz2 rfl (by decide) HS.out 1 (by rfl) (by rfl) _ 1 1 (pcells [((kn : Int), fr)]) (by rfl) rfl (HS.out.news_slK 0 (by rfl)) (one_pair _) HA.out (by decide) ?_
        intro v15 w3 hs
        replace HS := hid hs
        clear hs
        obtain ⟨p15, c15, rfl, _, _, _⟩ := HS.out.sl_val
        refine hK.out _ _ (fun _ => (HQ.out _ _ (HS.out.nth 2 rfl))) ?_
        clear hK K
        try simp only [putU]
        refine anyU_pure (i := 16) (v := ?_) rfl (by kernel_rfl) (fun _ _ _ h => h) (Or.inl ⟨by rfl, ?_⟩) (fun _ => (HQ.out _ _ (HS.out.nth 2 rfl))) ?_
        rotate_left
        ·(intro w _; go_simp) <;> with_reducible rfl
        try simp only [putU]
        refine anyU_take (i := 17) (v := ?_) rfl (by kernel_rfl) (fun _ _ _ h => h) (Or.inl ⟨by rfl, ?_⟩) (HQ.out _ _ (HS.out.nth 2 rfl)) ?_
        rotate_left
        ·(intro w hSw; (try dsimp only at hSw); go_simp) <;> with_reducible rfl
        try simp only [putU]
        refine anyU_next (rs := [18]) (by kernel_rfl) (by simp) ?_
        refine NextU.cons rfl (fun K hK => ?_) ?_
        ·have q1 := (HQ.out _ _ (HS.out.nth 2 rfl)).1
         have q2 := HF.out _ _ (HS.out.nth 2 rfl)
         go_simp
         refine hK.out _ _ (fun h => Bool.noConfusion (show true = false from h)) ?_
         clear hK K q1 q2
         refine anyU_done (by kernel_rfl) ?_ _
         have HZ := HS.out
         simp only [List.eraseIdx_cons_succ, List.eraseIdx_cons_zero] at HZ
         have h5 := HCL.out _ _ _ (HZ.conv (M := sl 181 2 (.slice p15 ((e.tx i).reads.length + 1) c15) ((e.tx i).reads.length + 1) (pcells (e.tx i).reads ++ pcells [((kn : Int), fr)]) :: rdV b bs k e i wv.heap.size va vv :: storeP 99 b 0 e.V e.last :: tabP 3 b 11 e.t :: sl 181 2 (.slice (some ⟨b14, 0, none⟩) 1 1) 1 (pcells [((kn : Int), fr)]) :: L) (by simp only [all]; ac_rfl))
         have H5 := hid h5
         have q0 := HLV.out _ _ h5
         have q9 := h5.swap.blk_cell 1 rfl
         clear HZ h5 HS HCL HQ HF HLV
         go_wp2_with fail
         go_ret2
         exact ⟨by rw [HFF.out]; rfl, by rw [HFF.out]; exact H5.out.swap.tail⟩
        exact NextU.nil
       exact NextU.nil
      exact NextU.nil
   ·have hf : e.read ((i : Int) + 1) key = (e, 0, 2) := by
     unfold Eng.read
     rw [if_neg (by rw [h1]; decide)]
     simp only [hi2, hw]
     rw [if_pos hk]
    have HF := hid hf
    by_cases hl0 : (e.tx i).level = 0
    ·rw [hl0] at c0
     have HRN := hid (read_no b 0 key e.last w0 w _ HS.out hk)
     clear hs hO h1 h2 hf hc hok hi2 hx hw hl hk hl0
     go_enter Tryz.func76, Tryz.ntmps76
     go_wp2_with fail
     with_reducible refine HC.out.mono ?_
     rintro r1 w1 ⟨rfl, rfl⟩
     go_wp2_with (go_at_call 104; with_reducible refine HL.out.mono ?_; rintro r1 w1 ⟨rfl, rfl⟩)
     with_reducible refine HRN.out.mono ?_
     rintro r1 wv ⟨rfl, hs2⟩
     have H3 := hid (hs2.alloc #[.int .i64 0, .int .i64 0] 99)
     clear hs2 HC HL HRN
     go_wp2_with fail
     with_reducible refine (tell_no 2 w0 _ _ hE H3.out).mono ?_
     rintro r1 w3 ⟨rfl, hs4⟩
     have H4 := hid hs4
     clear hs4 H3
     go_wp2_with fail
     go_ret2
     exact ⟨by rw [HF.out]; rfl, by rw [HF.out]; exact H4.out.tail⟩
    ·have hb0 : ((e.tx i).level == 0) = false := by simpa using hl0
     have HRN := hid (read_no b 0 key (e.tx i).start w0 w _ HS.out hk)
     clear hs hO h1 h2 hf hc hok hi2 hx hw hl hk hl0
     go_enter Tryz.func76, Tryz.ntmps76
     go_wp2_with fail
     with_reducible refine HC.out.mono ?_
     rintro r1 w1 ⟨rfl, rfl⟩
     go_wp2_with fail
     with_reducible refine HRN.out.mono ?_
     rintro r1 wv ⟨rfl, hs2⟩
     have H3 := hid (hs2.alloc #[.int .i64 0, .int .i64 0] 99)
     clear hs2 HC HL HRN
     go_wp2_with fail
     with_reducible refine (tell_no 2 w0 _ _ hE H3.out).mono ?_
     rintro r1 w3 ⟨rfl, hs4⟩
     have H4 := hid hs4
     clear hs4 H3
     go_wp2_with fail
     go_ret2
     exact ⟨by rw [HF.out]; rfl, by rw [HF.out]; exact H4.out.tail⟩
end Go.Proofs.YtdlkjppppdminaaGreatDoor
