/- A base's Engine, Used, Down, Torn: the walks; a disk as it is made. -/
import Derived.Test.YtdlkjppppdminaaGreatDoorZ0
import Derived.Test.YtdlkjppppdminaaGreatDoorZ11
import Derived.Test.YtdlkjppppdminaaGreatDoorZ9
import Derived.Test.YtdlkjppppdminaaGreatDoorZ10
import Derived.Test.YtdlkjppppdminaaGreatDoorZ7
import Derived.Test.YtdlkjppppdminaaGreatDoorZ4
import Derived.WalkLawsBesides
/- What Commit answers is what Ready answers; own writes of four keys and ninety values, whatever is asked. No walk in sight. -/
namespace Go.Proofs.YtdlkjppppdminaaGreatDoor
open Go Go.RowKit Go.Sep
section
variable {e e' : Eng} {i j : Nat} {N : Nat} {T U : List Task}
theorem commit_ans (e : Eng) (n : Int) : (e.commit n).2 = e.ready n := by
 unfold Eng.commit
 by_cases h : e.ready n ≠ 0
 ·rw [if_pos h]
 ·rw [if_neg h]
  exact (Classical.not_not.1 h).symm
def Sm (p : Int × Int) : Prop := (0 ≤ p.1 ∧ p.1 < 4) ∧ (0 ≤ p.2 ∧ p.2 ≤ 90)
def TxSm (x : Tx) : Prop := (∀ p ∈ x.writes, Sm p) ∧ Sm x.want
def Small (e : Eng) : Prop := ∀ j, j < e.txs.length → TxSm (e.tx j)
theorem Small.start : Small Eng.zero := fun j h => by simp [Eng.zero] at h
theorem Small.same (h : Small e) (ht : e'.txs = e.txs) : Small e' := by
 intro j hj
 unfold Eng.tx
 rw [ht] at hj ⊢
 exact h j hj
theorem Small.upd {f : Tx → Tx} (h : Small e) (hf : i < e.txs.length → TxSm (f (e.tx i))) : Small (e.upd i f) := by
 intro j hj
 rw [Eng.upd_len] at hj
 rw [Eng.upd_tx]
 split
 ·rename_i hc
  obtain ⟨rfl, h2⟩ := hc
  exact hf h2
 ·exact h j hj
theorem Small.note (h : Small e) (a b : Nat) : Small (e.note a b) := by
 intro j hj
 rw [Eng.note_len] at hj
 unfold TxSm
 rw [Eng.note_keep (·.writes) (fun _ _ => rfl) (fun _ _ => rfl), Eng.note_keep (·.want) (fun _ _ => rfl) (fun _ _ => rfl)]
 exact h j hj
theorem Small.left (h : Small e) (i : Nat) (why : Int) : Small (e.left i why) := by
 intro j hj
 rw [left_len] at hj
 rw [left_tx]
 split
 ·exact h j hj
 ·exact h j hj
theorem mput_sm {D : List (Int × Int)} (h : ∀ p ∈ D, Sm p) {k v : Int} (hw : Sm (k, v)) : ∀ p ∈ mput D k v, Sm p := by
 intro p hp
 unfold mput at hp
 split at hp
 ·obtain ⟨q, hq, rfl⟩ := List.mem_map.1 hp
  split
  ·exact hw
  ·exact h q hq
 ·rw [List.mem_append, List.mem_singleton] at hp
  rcases hp with hp | rfl
  ·exact h p hp
  ·exact hw
def SmallT (e : Eng) (T : List Task) : Prop := Small e ∧ ∀ i w, Task.put i w ∈ T → Sm w
theorem small_rule : Rule SmallT where
 hand N e w T h p := by
  have h1 := h.hand_lt.1
  refine ⟨p.1.upd fun hi => p.1 _ hi, fun i v hm => ?_⟩
  rw [List.mem_cons] at hm
  rcases hm with hm | hm
  ·simp only [Task.put.injEq] at hm
   rw [hm.2]; exact (p.1 _ h1).2
  ·exact p.2 i v (List.mem_cons_of_mem _ hm)
 late N e i w T h hl p := ⟨p.1.left i 10, fun j v hm => by
  rw [List.mem_append] at hm
  rcases hm with hm | hm
  ·obtain ⟨_, _, hx⟩ := List.mem_map.1 hm; cases hx
  ·exact p.2 j v (List.mem_cons_of_mem _ hm)⟩
 put N e i w T h hl h2 p := ⟨p.1.upd fun hi => ⟨mput_sm (p.1 _ hi).1 (p.2 i w (List.mem_cons_self ..)), (p.1 _ hi).2⟩, fun j v hm => p.2 j v (List.mem_cons_of_mem _ hm)⟩
 puts N e i w T h hl h2 p := ⟨p.1.upd fun hi => ⟨mput_sm (p.1 _ hi).1 (p.2 i w (List.mem_cons_self ..)), (p.1 _ hi).2⟩, fun j v hm => by
  rw [List.mem_cons] at hm
  rcases hm with hm | hm
  ·cases hm
  ·exact p.2 j v (List.mem_cons_of_mem _ hm)⟩
 asked N e i key T h p := ⟨p.1, fun j v hm => p.2 j v (List.mem_cons_of_mem _ hm)⟩
 skip N e i j key l T h hs p := ⟨p.1, fun k v hm => by
  rw [List.mem_cons] at hm
  rcases hm with hm | hm
  ·cases hm
  ·exact p.2 k v (List.mem_cons_of_mem _ hm)⟩
 note N e i j key l T h hs hb p := ⟨p.1.note _ _, fun k v hm => by
  rw [List.mem_cons] at hm
  rcases hm with hm | hm
  ·cases hm
  ·exact p.2 k v (List.mem_cons_of_mem _ hm)⟩
 wrong N e i j key l T h hs hb p := ⟨(p.1.note _ _).left i 13, fun k v hm => by
  rw [List.mem_append] at hm
  rcases hm with hm | hm
  ·obtain ⟨_, _, hx⟩ := List.mem_map.1 hm; cases hx
  ·exact p.2 k v (List.mem_cons_of_mem _ hm)⟩
theorem SmallT.of (h : Small e) : SmallT e [] := ⟨h, by simp⟩
theorem Small.goes (p : Small e) (h : OkT N e []) (hi : i < e.txs.length) (ha : (e.tx i).alive = true) (why : Int) : Small (e.goes i why) :=
 (small_rule.goes h hi ha why ⟨p.left i why, fun j v hm => by
  obtain ⟨_, _, hx⟩ := List.mem_map.1 hm; cases hx⟩).1
theorem Small.begun (p : Small e) (level : Int) : Small (e.begin_ level).1 := by
 unfold Eng.begin_
 split
 ·exact p
 split
 ·exact p
 split
 ·exact p
 intro j hj
 simp only [List.length_append, List.length_singleton] at hj
 unfold Eng.tx
 simp only
 by_cases hlt : j < e.txs.length
 ·rw [List.getElem?_append_left hlt]
  exact p j hlt
 ·obtain rfl : j = e.txs.length := by omega
  simp [Tx.zero, TxSm, Sm]
theorem Small.red (p : Small e) (h : OkT N e []) (n key : Int) : Small (e.read n key).1 := by
 have hc := read_case e n key
 generalize e.read n key = r at *
 cases hc with
 | err => exact p
 | own => exact p
 | plain i hn hi => exact p.upd fun hi => p _ hi
 | seen i hn hi => exact sees_keep (P := Small) (fun e a b h => h.note a b) (p.upd fun hi => p _ hi)
 | gone i hn hi hs hv hk hl hr =>
  have p1 : Small (e.noted i key) := p.upd fun hi => p _ hi
  have p2 := sees_keep (P := Small) (fun e a b h => h.note a b) (i := i) (key := key) p1
  have h1 := h.noted1 hi key
  have hi1 : i < (e.noted i key).txs.length := by unfold Eng.noted; rw [Eng.upd_len]; exact hi
  obtain ⟨g1, g2, g3, _⟩ := sees_ok h1 hi1 key
  have hs1 : ((e.noted i key).tx i).state = 0 := (Eng.upd_keep (·.state) (fun x => { x with reads := x.reads ++ [(key, (mget e.wr (((readV (e.row key) (e.asOf i)).map (·.1)).getD 0)).getD 0)] }) (fun _ => rfl) i).trans hs
  exact p2.goes g1 (by omega) (state_alive (by rw [g3, hs1])) 13
theorem Small.wrote (p : Small e) (h : OkT N e []) (n key value : Int) (hw : Sm (key, value)) : Small (e.write n key value).1 := by
 have hc := write_case h n key value
 generalize e.write n key value = r at *
 have hup : ∀ i, Small (e.upd i fun x => { x with want := (key, value) }) := fun i => p.upd fun hi => ⟨(p _ hi).1, hw⟩
 cases hc with
 | err => exact p
 | cycle i hn hi hs hk hv =>
  have p1 : Small ((e.wanting i (key, value)).table e.t) := Small.same (hup i) rfl
  have h1 := cycle_ok h hi hk hv
  exact p1.goes h1 (by show i < (e.upd i _).txs.length; rw [Eng.upd_len]; exact hi) (state_alive ((Eng.upd_keep (·.state) (fun x => { x with want := (key, value) }) (fun _ => rfl) i).trans hs)) 11
 | waits i a hn hi hs hk hv hh ha =>
  have p1 : Small ((e.wanting i (key, value)).table (waitT e.t ((i : Int) + 1) key)) := Small.same (hup i) rfl
  exact p1.upd fun hi1 => p1 i hi1
 | puts i t' hn hi hs hk hv ht r hr =>
  have p1 : Small ((e.wanting i (key, value)).table t') := Small.same (hup i) rfl
  obtain ⟨g1, g2, g3⟩ := put_ok h hi hs hk hv ht
  exact (small_rule.putsE g1 ⟨p1, fun j v hm => by
   rw [List.mem_singleton] at hm
   simp only [Task.put.injEq] at hm
   rw [hm.2]; exact hw⟩).1
theorem Small.over2 (p : Small e) : Small (e.over2 i) := by
 have h1 : Small (e.upd i fun x => { x with state := 2, ended := e.count + 1 }) := p.upd fun hi => p i hi
 refine h1.same ?_
 show ((e.told i).upd i (fun x => { x with state := 2, ended := e.count + 1 })).txs = _
 unfold Eng.upd
 rw [(told_txs e i).1]
theorem Small.committed (p : Small e) (h : OkT N e []) (n : Int) : Small (e.commit n).1 := by
 by_cases h0 : e.ready n = 0
 ·obtain ⟨i, rfl, hi, hs⟩ := ready_at h0
  rw [commit_eq e i h0]
  exact (small_rule.frees h hi (state_alive hs) ⟨p.over2.same rfl, fun j v hm => by obtain ⟨_, _, hx⟩ := List.mem_map.1 hm; cases hx⟩).1
 ·unfold Eng.commit
  rw [if_pos h0]
  simp only
  split
  ·rename_i h13
   obtain ⟨i, rfl, hi, hs⟩ := ready_13 h13
   rw [show ((i : Int) + 1).toNat - 1 = i by omega]
   exact p.goes h hi (state_alive hs) 13
  ·exact p
theorem Small.aborted (p : Small e) (h : OkT N e []) (n : Int) : Small (e.abort n).1 := by
 unfold Eng.abort
 split
 ·exact p
 ·rename_i hx
  obtain ⟨i, rfl, hi, _⟩ := err_num (Decidable.not_not.1 hx)
  rw [show ((i : Int) + 1).toNat - 1 = i by omega]
  split
  ·exact p
  ·rename_i hs
   exact p.goes h hi (by simp only [Tx.alive, decide_eq_true_eq]; omega) 0
end
end Go.Proofs.YtdlkjppppdminaaGreatDoor
/- What an engine of the desk's holds, is small: values, reads, history. No program in sight. -/
namespace Go.Proofs.YtdlkjppppdminaaGreatDoor
open Go Go.RowKit Go.Sep
section
variable {e e' : Eng} {N c i : Nat}
def potS (e : Eng) : Nat := ((List.range e.txs.length).map fun j => if (e.tx j).alive = true then (e.tx j).reads.length + 10 else 0).sum
theorem sum_le {f g : Nat → Nat} : ∀ {l : List Nat}, (∀ j ∈ l, f j ≤ g j) → (l.map f).sum ≤ (l.map g).sum
 | [], _ => by simp
 | a :: l, h => by
  have h1 := h a (by simp)
  have h2 := sum_le (l := l) (fun j hj => h j (by simp [hj]))
  simp only [List.map_cons, List.sum_cons]
  omega
theorem sum_at {f g : Nat → Nat} {i d : Nat} : ∀ {l : List Nat}, l.Nodup → (∀ j ∈ l, j ≠ i → f j ≤ g j) → f i ≤ g i + d → (l.map f).sum ≤ (l.map g).sum + d
 | [], _, _, _ => by simp
 | a :: l, hn, h, hi => by
  rw [List.nodup_cons] at hn
  simp only [List.map_cons, List.sum_cons]
  by_cases ha : a = i
  ·subst ha
   have h2 := sum_le (f := f) (g := g) (l := l) (fun j hj => h j (by simp [hj]) (by rintro rfl; exact hn.1 hj))
   omega
  ·have h1 := h a (by simp) ha
   have h2 := sum_at (l := l) hn.2 (fun j hj hne => h j (by simp [hj]) hne) hi
   omega
theorem sum_drop {f g : Nat → Nat} {i d : Nat} : ∀ {l : List Nat}, i ∈ l → l.Nodup → (∀ j ∈ l, j ≠ i → f j ≤ g j) → f i + d ≤ g i → (l.map f).sum + d ≤ (l.map g).sum
 | a :: l, hm, hn, h, hi => by
  rw [List.nodup_cons] at hn
  simp only [List.map_cons, List.sum_cons]
  by_cases ha : a = i
  ·subst ha
   have h2 := sum_le (f := f) (g := g) (l := l) (fun j hj => h j (by simp [hj]) (by rintro rfl; exact hn.1 hj))
   omega
  ·have h1 := h a (by simp) ha
   have hm2 : i ∈ l := by
    rcases List.mem_cons.1 hm with e | hm
    ·exact absurd e.symm ha
    ·exact hm
   have h2 := sum_drop (l := l) hm2 hn.2 (fun j hj hne => h j (by simp [hj]) hne) hi
   omega
structure Neat (c : Nat) (e : Eng) : Prop where
 vals : ∀ vs ∈ e.V, ∀ p ∈ vs, valOk p.2
 rds : ∀ j, ∀ r ∈ (e.tx j).reads, keyOk r.1 ∧ 0 ≤ r.2 ∧ r.2 ≤ 200
 his : ∀ o ∈ e.hist, (1 ≤ o.tx ∧ o.tx ≤ 200) ∧ keyOk o.key ∧ 0 ≤ o.fr ∧ o.fr ≤ 200
 pot : e.hist.length + potS e ≤ c + 10 * e.txs.length
theorem Neat.mono {d : Nat} (p : Neat c e) (h : c ≤ d) : Neat d e := ⟨p.vals, p.rds, p.his, Nat.le_trans p.pot (by omega)⟩
theorem alive_eq {x y : Tx} (h : x.state = y.state) : x.alive = y.alive := by unfold Tx.alive; rw [h]
theorem potS_stays (hs : Stays e e') : potS e' ≤ potS e := by
 unfold potS
 rw [hs.len]
 refine sum_le fun j _ => ?_
 rw [(hs.fix j).2.2.2]
 cases ha : (e.tx j).alive with
 | true => simp only [if_true]; split <;> omega
 | false => rw [alive_eq (hs.over j ha).1, ha]; simp
theorem Neat.stays (p : Neat c e) (hs : Stays e e') : Neat c e' := by
 refine ⟨by rw [hs.V]; exact p.vals, fun j r hr => p.rds j r (by rw [← (hs.fix j).2.2.2]; exact hr), by rw [hs.hist]; exact p.his, ?_⟩
 rw [hs.hist, hs.len]
 have h1 := potS_stays hs
 have h2 := p.pot
 omega
theorem Neat.note (p : Neat c e) (a b : Nat) : Neat c (e.note a b) := p.stays ((Stays.refl e).note a b)
theorem Neat.goes (p : Neat c e) (h : OkT N e []) (hi : i < e.txs.length) (ha : (e.tx i).alive = true) (why : Int) : Neat c (e.goes i why) := p.stays (same_goes h hi ha why)
theorem Neat.aborted (p : Neat c e) (h : OkT N e []) (n : Int) : Neat c (e.abort n).1 := by
 unfold Eng.abort
 split
 ·exact p
 ·rename_i hx
  obtain ⟨i, rfl, hi, _⟩ := err_num (Decidable.not_not.1 hx)
  rw [show ((i : Int) + 1).toNat - 1 = i by omega]
  split
  ·exact p
  ·rename_i hs
   exact p.goes h hi (by simp only [Tx.alive, decide_eq_true_eq]; omega) 0
theorem Neat.noted (p : Neat c e) (h : OkT N e []) (hi : i < e.txs.length) {key : Int} (hk : keyOk key) : Neat (c + 1) (e.noted i key) := by
 have hfr : ∀ k, 0 ≤ (mget e.wr k).getD 0 ∧ (mget e.wr k).getD 0 ≤ 200 := by
  intro k
  cases hg : mget e.wr k with
  | none => simp
  | some v =>
   have h1 := h.wr k v hg
   have h2 := h.few
   simp only [Option.getD_some]
   omega
 have hrd : ∀ j, j ≠ i → ((e.noted i key).tx j).reads = (e.tx j).reads := fun j hj => by unfold Eng.noted; rw [Eng.upd_ne (by omega)]
 have hst : ∀ j, ((e.noted i key).tx j).state = (e.tx j).state := fun j => Eng.upd_keep (·.state) (fun x => { x with reads := x.reads ++ [(key, (mget e.wr (((readV (e.row key) (e.asOf i)).map (·.1)).getD 0)).getD 0)] }) (fun _ => rfl) j
 have hri : ((e.noted i key).tx i).reads = (e.tx i).reads ++ [(key, (mget e.wr (((readV (e.row key) (e.asOf i)).map (·.1)).getD 0)).getD 0)] := by
  unfold Eng.noted
  rw [Eng.upd_tx, if_pos ⟨rfl, hi⟩]
 have hlen : (e.noted i key).txs.length = e.txs.length := by unfold Eng.noted; rw [Eng.upd_len]
 refine ⟨p.vals, fun j r hr => ?_, p.his, ?_⟩
 ·by_cases hj : j = i
  ·subst hj
   rw [hri, List.mem_append, List.mem_singleton] at hr
   rcases hr with hr | rfl
   ·exact p.rds _ r hr
   ·exact ⟨hk, hfr _⟩
  ·rw [hrd j hj] at hr; exact p.rds j r hr
 ·have h1 : potS (e.noted i key) ≤ potS e + 1 := by
   unfold potS
   rw [hlen]
   refine sum_at (i := i) List.nodup_range (fun j _ hj => ?_) ?_
   ·rw [hrd j hj, alive_eq (hst j)]; exact Nat.le_refl _
   ·rw [hri, alive_eq (hst i), List.length_append]; split <;> simp
  have h2 := p.pot
  rw [hlen]
  show e.hist.length + _ ≤ _
  omega
theorem Neat.red (p : Neat c e) (h : OkT N e []) (n key : Int) : Neat (c + 1) (e.read n key).1 := by
 have hc := read_case e n key
 generalize e.read n key = r at *
 cases hc with
 | err => exact p.mono (by omega)
 | own => exact p.mono (by omega)
 | plain i hn hi hs hv hk => exact p.noted h hi hk
 | seen i hn hi hs hv hk => exact sees_keep (P := Neat (c + 1)) (fun e a b h => h.note a b) (p.noted h hi hk)
 | gone i hn hi hs hv hk hl hr =>
  have p2 := sees_keep (P := Neat (c + 1)) (fun e a b h => h.note a b) (i := i) (key := key) (p.noted h hi hk)
  have h1 := h.noted1 hi key
  have hi1 : i < (e.noted i key).txs.length := by unfold Eng.noted; rw [Eng.upd_len]; exact hi
  obtain ⟨g1, g2, g3, _⟩ := sees_ok h1 hi1 key
  have hs1 : ((e.noted i key).tx i).state = 0 := (Eng.upd_keep (·.state) (fun x => { x with reads := x.reads ++ [(key, (mget e.wr (((readV (e.row key) (e.asOf i)).map (·.1)).getD 0)).getD 0)] }) (fun _ => rfl) i).trans hs
  exact p2.goes g1 (by omega) (state_alive (by rw [g3, hs1])) 13
theorem Neat.begun (p : Neat c e) (level : Int) : Neat c (e.begin_ level).1 := by
 unfold Eng.begin_
 split
 ·exact p
 split
 ·exact p
 split
 ·exact p
 generalize hy : ({ Tx.zero with level := level, start := e.last, begun := e.count + 1 } : Tx) = y
 have hyr : y.reads = [] := by rw [← hy]; rfl
 have htx : ∀ j, ({ e with count := e.count + 1, txs := e.txs ++ [y] } : Eng).tx j = if j = e.txs.length then y else e.tx j := by
  intro j
  unfold Eng.tx
  simp only
  by_cases hlt : j < e.txs.length
  ·rw [List.getElem?_append_left hlt, if_neg (by omega)]
  ·by_cases hj : j = e.txs.length
   ·subst hj; simp
   ·rw [if_neg hj, List.getElem?_eq_none (by simp; omega), List.getElem?_eq_none (by omega)]
 refine ⟨p.vals, fun j r hr => ?_, p.his, ?_⟩
 ·rw [htx] at hr
  split at hr
  ·rw [hyr] at hr; simp at hr
  ·exact p.rds j r hr
 ·have h1 : potS ({ e with count := e.count + 1, txs := e.txs ++ [y] } : Eng) ≤ potS e + 10 := by
   unfold potS
   show ((List.range (e.txs ++ [y]).length).map _).sum ≤ _
   rw [List.length_append, List.length_singleton, List.range_succ, List.map_append, List.sum_append]
   have h2 := sum_le (l := List.range e.txs.length) (f := fun j => if (({ e with count := e.count + 1, txs := e.txs ++ [y] } : Eng).tx j).alive = true then (({ e with count := e.count + 1, txs := e.txs ++ [y] } : Eng).tx j).reads.length + 10 else 0) (g := fun j => if (e.tx j).alive = true then (e.tx j).reads.length + 10 else 0) (fun j hj => by
    rw [List.mem_range] at hj
    have hne : ¬ j = e.txs.length := by omega
    simp only [htx, hne, if_false]
    exact Nat.le_refl _)
   refine Nat.add_le_add h2 ?_
   simp only [List.map_cons, List.map_nil, List.sum_cons, List.sum_nil, htx, if_true, hyr, List.length_nil]
   split <;> omega
  have h2 := p.pot
  change e.hist.length + potS ({ e with count := e.count + 1, txs := e.txs ++ [y] } : Eng) ≤ c + 10 * (e.txs ++ [y]).length
  rw [List.length_append, List.length_singleton]
  omega
theorem stays_want (_hi : i < e.txs.length) (ha : (e.tx i).alive = true) (w : Int × Int) (t : Tbl) : Stays e ((e.wanting i w).table t) := by
 have h1 := (Stays.refl e).upd ha (fun x => { x with want := w }) (fun _ => ⟨rfl, rfl, rfl, rfl⟩) (.inl (by simpa [Tx.alive] using ha))
 exact ⟨h1.V, h1.last, h1.wr, h1.hist, h1.len, h1.fix, h1.over, h1.live, h1.count⟩
theorem Neat.wrote (p : Neat c e) (h : OkT N e []) (n key value : Int) : Neat c (e.write n key value).1 := by
 have hc := write_case h n key value
 generalize e.write n key value = r at *
 cases hc with
 | err => exact p
 | cycle i hn hi hs hk hv =>
  have p1 := p.stays (stays_want hi (state_alive hs) (key, value) e.t)
  have h1 := cycle_ok h hi hk hv
  exact p1.goes h1 (by show i < (e.upd i _).txs.length; rw [Eng.upd_len]; exact hi) (state_alive ((Eng.upd_keep (·.state) (fun x => { x with want := (key, value) }) (fun _ => rfl) i).trans hs)) 11
 | waits i a hn hi hs hk hv hh ha =>
  have h1 := stays_want hi (state_alive hs) (key, value) (waitT e.t ((i : Int) + 1) key)
  have hs1 : (((e.wanting i (key, value)).table (waitT e.t ((i : Int) + 1) key)).tx i).state = 0 := (Eng.upd_keep (·.state) (fun x => { x with want := (key, value) }) (fun _ => rfl) i).trans hs
  exact p.stays (h1.upd (state_alive hs1) _ (fun _ => ⟨rfl, rfl, rfl, rfl⟩) (.inl (by simp [Tx.alive])))
 | puts i t' hn hi hs hk hv ht r hr =>
  have p1 := p.stays (stays_want hi (state_alive hs) (key, value) t')
  obtain ⟨g1, g2, g3⟩ := put_ok h hi hs hk hv ht
  exact p1.stays ((same_rule _).putsE g1 (.refl _))
theorem put1_vals {at_ : Int} {V : List Vers} {p : Int × Int} (hp : valOk p.2) (h : ∀ vs ∈ V, ∀ q ∈ vs, valOk q.2) : ∀ vs ∈ put1 at_ V p, ∀ q ∈ vs, valOk q.2 := by
 have hold : ∀ q ∈ (V[p.1.toNat]?).getD [], valOk q.2 := by
  cases hg : V[p.1.toNat]? with
  | none => simp
  | some vs => exact h vs (List.mem_of_getElem? hg)
 intro vs hvs q hq
 unfold put1 at hvs
 rcases List.mem_or_eq_of_mem_set hvs with hvs | rfl
 ·exact h vs hvs q hq
 ·split at hq
  ·rcases List.mem_append.1 hq with hq | hq
   ·exact hold q (List.dropLast_subset _ hq)
   ·rw [List.mem_singleton] at hq; subst hq; exact hp
  ·rcases List.mem_append.1 hq with hq | hq
   ·exact hold q hq
   ·rw [List.mem_singleton] at hq; subst hq; exact hp
theorem putAll_vals {at_ : Int} : ∀ (l : Vers) {V : List Vers}, (∀ p ∈ l, valOk p.2) → (∀ vs ∈ V, ∀ q ∈ vs, valOk q.2) → ∀ vs ∈ putAll at_ V l, ∀ q ∈ vs, valOk q.2
 | [], _, _, h => h
 | p :: l, V, hl, h => putAll_vals l (V := put1 at_ V p) (fun q hq => hl q (by simp [hq])) (put1_vals (hl p (by simp)) h)
theorem Neat.committed (p : Neat c e) (h : OkT N e []) (n : Int) : Neat c (e.commit n).1 := by
 by_cases h0 : e.ready n = 0
 ·obtain ⟨i, rfl, hi, hs⟩ := ready_at h0
  rw [commit_eq e i h0]
  have hfr := (same_rule _).frees h hi (state_alive hs) (.refl ((e.over2 i).lets i))
  refine Neat.stays ?_ hfr
  rw [over2_lets]
  have hw := written_ok h hi
  have hw10 : (e.tx i).written.length ≤ 10 := by rw [written_len]; exact own_few h hi
  have hV : ∀ vs ∈ (e.told i).V, ∀ q ∈ vs, valOk q.2 := by
   unfold Eng.told Eng.installed
   split
   ·exact p.vals
   ·split
    ·exact putAll_vals _ (fun q hq => (hw q hq).2) p.vals
    ·exact p.vals
  have hH : (e.told i).hist = e.hist ++ toldL ((i : Int) + 1) (e.tx i) := by
   unfold Eng.told Eng.installed
   split
   ·rfl
   ·split <;> rfl
  have hst := (Stays.refl e).left (state_alive hs) 0 (i := i)
  have hrd : ∀ j, ((({ e.left i 0 with V := (e.told i).V, last := (e.told i).last, wr := (e.told i).wr, hist := (e.told i).hist } : Eng).upd i fun x => { x with state := 2, why := (e.tx i).why }).tx j).reads = (e.tx j).reads := fun j => (Eng.upd_keep (·.reads) (fun x => { x with state := 2, why := (e.tx i).why }) (fun _ => rfl) j).trans (hst.fix j).2.2.2
  have hln : (({ e.left i 0 with V := (e.told i).V, last := (e.told i).last, wr := (e.told i).wr, hist := (e.told i).hist } : Eng).upd i fun x => { x with state := 2, why := (e.tx i).why }).txs.length = e.txs.length := by rw [Eng.upd_len]; exact hst.len
  have hfew := h.few
  refine ⟨hV, fun j r hr => p.rds j r (by rw [← hrd j]; exact hr), ?_, ?_⟩
  ·intro o ho
   have ho2 : o ∈ (e.told i).hist := ho
   rw [hH, List.mem_append] at ho2
   rcases ho2 with ho2 | ho2
   ·exact p.his o ho2
   ·unfold toldL at ho2
    rcases List.mem_append.1 ho2 with h3 | h3
    ·obtain ⟨r, hr, rfl⟩ := List.mem_map.1 h3
     have := p.rds i r hr
     exact ⟨⟨by show (1 : Int) ≤ (i : Int) + 1; omega, by show (i : Int) + 1 ≤ 200; omega⟩, this.1, this.2⟩
    ·obtain ⟨r, hr, rfl⟩ := List.mem_map.1 h3
     exact ⟨⟨by show (1 : Int) ≤ (i : Int) + 1; omega, by show (i : Int) + 1 ≤ 200; omega⟩, (hw r hr).1, by show (0 : Int) ≤ 0; omega, by show (0 : Int) ≤ 200; omega⟩
  ·have hal : ((({ e.left i 0 with V := (e.told i).V, last := (e.told i).last, wr := (e.told i).wr, hist := (e.told i).hist } : Eng).upd i fun x => { x with state := 2, why := (e.tx i).why }).tx i).alive = false := by
    rw [Eng.upd_tx, if_pos ⟨rfl, by rw [show ({ e.left i 0 with V := (e.told i).V, last := (e.told i).last, wr := (e.told i).wr, hist := (e.told i).hist } : Eng).txs.length = e.txs.length from hst.len]; exact hi⟩]
    simp [Tx.alive]
   have hne : ∀ j, j ≠ i → (({ e.left i 0 with V := (e.told i).V, last := (e.told i).last, wr := (e.told i).wr, hist := (e.told i).hist } : Eng).upd i fun x => { x with state := 2, why := (e.tx i).why }).tx j = (e.left i 0).tx j := fun j hj => by rw [Eng.upd_ne (by omega)]; rfl
   have h1 : potS (({ e.left i 0 with V := (e.told i).V, last := (e.told i).last, wr := (e.told i).wr, hist := (e.told i).hist } : Eng).upd i fun x => { x with state := 2, why := (e.tx i).why }) + ((e.tx i).reads.length + 10) ≤ potS e := by
    unfold potS
    rw [hln]
    refine sum_drop (i := i) (List.mem_range.2 hi) List.nodup_range (fun j _ hj => ?_) ?_
    ·rw [hrd j, hne j hj]
     cases ha : (e.tx j).alive with
     | true => simp only [if_true]; split <;> omega
     | false => rw [alive_eq (hst.over j ha).1, ha]; simp
    ·rw [hal, state_alive hs]; simp
   have h2 := p.pot
   have h3 : (e.told i).hist.length = e.hist.length + ((e.tx i).reads.length + (e.tx i).written.length) := by
    rw [hH, List.length_append]
    unfold toldL
    rw [List.length_append, List.length_map, List.length_map]
   have h4 : ∀ T P : Nat, T = e.txs.length → P + ((e.tx i).reads.length + 10) ≤ potS e → (e.told i).hist.length + P ≤ c + 10 * T := by
    rintro T P rfl hP
    rw [h3]; omega
   exact h4 _ _ hln h1
 ·unfold Eng.commit
  rw [if_pos h0]
  simp only
  split
  ·rename_i h13
   obtain ⟨i, rfl, hi, hs⟩ := ready_13 h13
   rw [show ((i : Int) + 1).toNat - 1 = i by omega]
   exact p.goes h hi (state_alive hs) 13
  ·exact p
end
end Go.Proofs.YtdlkjppppdminaaGreatDoor
/- Why one is gone: a small number, whatever is asked; what is swept, what is laid anew. No walk in sight. -/
namespace Go.Proofs.YtdlkjppppdminaaGreatDoor
open Go Go.RowKit Go.Sep
section
variable {e e' : Eng} {i j c : Nat} {N : Nat} {T U : List Task}
def WhyB (e : Eng) : Prop := ∀ j, 0 ≤ (e.tx j).why ∧ (e.tx j).why ≤ 13
theorem WhyB.same (h : WhyB e) (ht : e'.txs = e.txs) : WhyB e' := fun j => by
 unfold Eng.tx
 rw [ht]
 exact h j
theorem WhyB.upd {f : Tx → Tx} (h : WhyB e) (hf : 0 ≤ (f (e.tx i)).why ∧ (f (e.tx i)).why ≤ 13) : WhyB (e.upd i f) := by
 intro j
 rw [Eng.upd_tx]
 split
 ·rename_i hc
  obtain ⟨rfl, _⟩ := hc
  exact hf
 ·exact h j
theorem WhyB.note (h : WhyB e) (a b : Nat) : WhyB (e.note a b) := fun j => by
 rw [Eng.note_keep (·.why) (fun _ _ => rfl) (fun _ _ => rfl)]
 exact h j
theorem WhyB.left (h : WhyB e) (i : Nat) (why : Int) (hw : 0 ≤ why ∧ why ≤ 13) : WhyB (e.left i why) := fun j => by
 rw [left_tx]
 split
 ·exact hw
 ·exact h j
theorem whyB_rule : Rule fun e _ => WhyB e where
 hand N e w T h p := p.upd (p _)
 late N e i w T h hl p := p.left i 10 (by omega)
 put N e i w T h hl h2 p := p.upd (p _)
 puts N e i w T h hl h2 p := p.upd (p _)
 asked N e i key T h p := p
 skip N e i j key l T h hs p := p
 note N e i j key l T h hs hb p := p.note _ _
 wrong N e i j key l T h hs hb p := (p.note _ _).left i 13 (by omega)
theorem WhyB.goes (p : WhyB e) (h : OkT N e []) (hi : i < e.txs.length) (ha : (e.tx i).alive = true) (why : Int) (hw : 0 ≤ why ∧ why ≤ 13) : WhyB (e.goes i why) := whyB_rule.goes h hi ha why (p.left i why hw)
theorem WhyB.begun (p : WhyB e) (level : Int) : WhyB (e.begin_ level).1 := by
 unfold Eng.begin_
 split
 ·exact p
 split
 ·exact p
 split
 ·exact p
 intro j
 unfold Eng.tx
 simp only
 by_cases hlt : j < e.txs.length
 ·rw [List.getElem?_append_left hlt]
  exact p j
 ·by_cases hj : j = e.txs.length
  ·subst hj; simp [Tx.zero]
  ·rw [List.getElem?_eq_none (by simp; omega)]; decide
theorem WhyB.red (p : WhyB e) (h : OkT N e []) (n key : Int) : WhyB (e.read n key).1 := by
 have hc := read_case e n key
 generalize e.read n key = r at *
 cases hc with
 | err => exact p
 | own => exact p
 | plain i hn hi => exact p.upd (p _)
 | seen i hn hi => exact sees_keep (P := WhyB) (fun e a b h => h.note a b) (p.upd (p _))
 | gone i hn hi hs hv hk hl hr =>
  have p1 : WhyB (e.noted i key) := p.upd (p _)
  have p2 := sees_keep (P := WhyB) (fun e a b h => h.note a b) (i := i) (key := key) p1
  have h1 := h.noted1 hi key
  have hi1 : i < (e.noted i key).txs.length := by unfold Eng.noted; rw [Eng.upd_len]; exact hi
  obtain ⟨g1, g2, g3, _⟩ := sees_ok h1 hi1 key
  have hs1 : ((e.noted i key).tx i).state = 0 := (Eng.upd_keep (·.state) (fun x => { x with reads := x.reads ++ [(key, (mget e.wr (((readV (e.row key) (e.asOf i)).map (·.1)).getD 0)).getD 0)] }) (fun _ => rfl) i).trans hs
  exact p2.goes g1 (by omega) (state_alive (by rw [g3, hs1])) 13 (by omega)
theorem WhyB.wrote (p : WhyB e) (h : OkT N e []) (n key value : Int) : WhyB (e.write n key value).1 := by
 have hc := write_case h n key value
 generalize e.write n key value = r at *
 cases hc with
 | err => exact p
 | cycle i hn hi hs hk hv =>
  have p1 : WhyB ((e.wanting i (key, value)).table e.t) := WhyB.same (WhyB.upd (e := e) (i := i) (f := fun x => { x with want := (key, value) }) p (p _)) rfl
  have h1 := cycle_ok h hi hk hv
  exact p1.goes h1 (by show i < (e.upd i _).txs.length; rw [Eng.upd_len]; exact hi) (state_alive ((Eng.upd_keep (·.state) (fun x => { x with want := (key, value) }) (fun _ => rfl) i).trans hs)) 11 (by omega)
 | waits i a hn hi hs hk hv hh ha =>
  have p1 : WhyB ((e.wanting i (key, value)).table (waitT e.t ((i : Int) + 1) key)) := WhyB.same (WhyB.upd (e := e) (i := i) (f := fun x => { x with want := (key, value) }) p (p _)) rfl
  exact p1.upd (p1 i)
 | puts i t' hn hi hs hk hv ht r hr =>
  have p1 : WhyB ((e.wanting i (key, value)).table t') := WhyB.same (WhyB.upd (e := e) (i := i) (f := fun x => { x with want := (key, value) }) p (p _)) rfl
  obtain ⟨g1, g2, g3⟩ := put_ok h hi hs hk hv ht
  exact whyB_rule.putsE g1 p1
theorem WhyB.over2 (p : WhyB e) : WhyB (e.over2 i) := by
 have h1 : WhyB (e.upd i fun x => { x with state := 2, ended := e.count + 1 }) := p.upd (p i)
 refine h1.same ?_
 show ((e.told i).upd i (fun x => { x with state := 2, ended := e.count + 1 })).txs = _
 unfold Eng.upd
 rw [(told_txs e i).1]
theorem WhyB.committed (p : WhyB e) (h : OkT N e []) (n : Int) : WhyB (e.commit n).1 := by
 by_cases h0 : e.ready n = 0
 ·obtain ⟨i, rfl, hi, hs⟩ := ready_at h0
  rw [commit_eq e i h0]
  exact whyB_rule.frees h hi (state_alive hs) (p.over2.same rfl)
 ·unfold Eng.commit
  rw [if_pos h0]
  simp only
  split
  ·rename_i h13
   obtain ⟨i, rfl, hi, hs⟩ := ready_13 h13
   rw [show ((i : Int) + 1).toNat - 1 = i by omega]
   exact p.goes h hi (state_alive hs) 13 (by omega)
  ·exact p
theorem WhyB.aborted (p : WhyB e) (h : OkT N e []) (n : Int) : WhyB (e.abort n).1 := by
 unfold Eng.abort
 split
 ·exact p
 ·rename_i hx
  obtain ⟨i, rfl, hi, _⟩ := err_num (Decidable.not_not.1 hx)
  rw [show ((i : Int) + 1).toNat - 1 = i by omega]
  split
  ·exact p
  ·rename_i hs
   exact p.goes h hi (by simp only [Tx.alive, decide_eq_true_eq]; omega) 0 (by omega)
theorem Neat.swept (p : Neat c e) : Neat c e.sweep.1 := ⟨fun vs hvs q hq => by
  unfold Eng.sweep at hvs
  obtain ⟨us, hu, rfl⟩ := List.mem_map.1 hvs
  exact p.vals us hu q (List.mem_of_mem_drop hq), p.rds, p.his, p.pot⟩
theorem WhyB.swept (p : WhyB e) : WhyB e.sweep.1 := p
theorem Neat.over (at_ : Int) (l : Vers) : Neat 0 (Eng.over at_ l) := by
 unfold Eng.over
 have h0 : ∀ vs ∈ List.replicate 10 ([] : Vers), ∀ q ∈ vs, valOk q.2 := fun vs h q hq => by
  rw [(List.mem_replicate.1 h).2] at hq; simp at hq
 split
 ·rename_i h
  unfold instOk at h
  rw [Bool.and_eq_true, Option.isNone_iff_eq_none] at h
  exact ⟨putAll_vals l (fun p hp => (badAt_none h.2 p hp).2) h0, fun j r hr => by simp [Eng.tx, Eng.zero, Tx.zero] at hr, by simp [Eng.zero], by simp [Eng.zero, potS]⟩
 ·exact ⟨h0, fun j r hr => by simp [Eng.tx, Eng.zero, Tx.zero] at hr, by simp [Eng.zero], by simp [Eng.zero, potS]⟩
theorem WhyB.over (at_ : Int) (l : Vers) : WhyB (Eng.over at_ l) := by
 unfold Eng.over
 split <;> intro j <;> simp [Eng.tx, Eng.zero, Tx.zero]
end
end Go.Proofs.YtdlkjppppdminaaGreatDoor
/- base.opened: the walk, at every text. Conditions: the library's table of powers of ten and its errors are laid, and the variable of bytealg's greatest length holds a whole number. -/
namespace Go.Proofs.YtdlkjppppdminaaGreatDoor
open Go Go.RowKit Go.Sep
def ErrVar (w : World) : Prop := ∃ a b, w.cell? ⟨4, 0, none⟩ = some a ∧ (a = .nilIface ∨ ∃ te pe, a = .iface te pe) ∧ w.cell? ⟨5, 0, none⟩ = some b ∧ (b = .nilIface ∨ ∃ te pe, b = .iface te pe)
def LibAll (w : World) : Prop := LibOk w ∧ ErrVar w
def atoiV (t : List UInt8) : Option Int := match Lib.atoiAll t with | .ok v => some v | _ => none
theorem atoiV_I64 {t : List UInt8} {v : Int} (h : atoiV t = some v) : I64 v := by
 unfold atoiV at h
 split at h
 ·rename_i u hu
  obtain rfl := Option.some.inj h
  exact Lib.atoiAll_bounds hu
 ·cases h
theorem atoi_some (w0 w : World) (t : List UInt8) (v : Int) (L : List HProp) (h : atoiV t = some v) (ht : t.length ≤ 1000000) (hs : S w0 w L) :
  Calls Tryz.prog 23 #[.string ⟨t.toArray⟩] w fun r w' => r = .returned (.tuple #[.int .i64 v, .nilIface]) ∧ S w0 w' L := by
 unfold atoiV at h
 split at h
 ·rename_i u hu
  obtain rfl := Option.some.inj h
  refine (Shd.Tryz.strconv_Atoi_ok ⟨t.toArray⟩ (by show t.toArray.size ≤ _; simp; omega) u (by simpa using hu) w).mono fun r w' ⟨h1, h2⟩ => ⟨h1, ?_⟩
  rcases h2 with rfl | ⟨x, rfl⟩
  ·exact hs
  ·exact hs.onto (Joins.below_bytesWorld _ _ _ _ (Nat.le_refl _))
 ·cases h
theorem atoi_none (w0 w : World) (t : List UInt8) (L : List HProp) (hL : ErrVar w0) (h : atoiV t = none) (ht : t.length ≤ 1000000) (hs : S w0 w L) :
  Calls Tryz.prog 23 #[.string ⟨t.toArray⟩] w fun r w' => ∃ x T p, r = .returned (.tuple #[.int .i64 x, .iface T p]) ∧ S w0 w' L := by
 obtain ⟨a, b, ha, ha2, hb, hb2⟩ := hL
 have ha' : w.cell? ⟨4, 0, none⟩ = some a := by rw [hs.1.cell (World.block_lt_of_cell? w0 _ ha)]; exact ha
 have hb' : w.cell? ⟨5, 0, none⟩ = some b := by rw [hs.1.cell (World.block_lt_of_cell? w0 _ hb)]; exact hb
 unfold atoiV at h
 rcases hu : Lib.atoiAll t with u | _ | _
 ·rw [hu] at h; cases h
 ·exact (Any.strconv_Atoi_syntax Shd.Tryz.laysC172 ⟨t.toArray⟩ (by show t.toArray.size ≤ _; simp; omega) (by simpa using hu) a w ha' ha2).mono fun r w' ⟨N, h1, _, _, h4⟩ => ⟨_, _, _, h1, hs.onto h4⟩
 ·exact (Shd.Tryz.strconv_Atoi_range ⟨t.toArray⟩ (by show t.toArray.size ≤ _; simp; omega) (by simpa using hu) b w hb' hb2).mono fun r w' ⟨N, h1, _, _, h4⟩ => ⟨_, _, _, h1, hs.onto h4⟩
theorem cut_word_le : ∀ (t : List UInt8), ∀ x ∈ cut t, x.length ≤ t.length
 | [], x, hx => by simp [cut] at hx; simp [hx]
 | b :: s, x, hx => by
  by_cases h : b = 32
  ·subst h
   rw [cut_blank, List.mem_cons] at hx
   rcases hx with rfl | hx
   ·simp
   ·have := cut_word_le s x hx; rw [List.length_cons]; omega
  ·rw [cut_other h] at hx
   have ih := cut_word_le s
   cases hc : cut s with
   | nil => exact absurd hc (cut_ne s)
   | cons y r =>
    rw [hc] at hx ih
    unfold push at hx
    rw [List.mem_cons] at hx
    rcases hx with rfl | hx
    ·have := ih y (by simp); simp only [List.length_cons]; omega
    ·have := ih x (by simp [hx]); rw [List.length_cons]; omega
def pairAt (ws : List (List UInt8)) (j : Nat) : Option (Int × Int) := (ws[1 + 2 * j]?).bind fun a => (ws[2 + 2 * j]?).bind fun b => (atoiV a).bind fun x => (atoiV b).map fun y => (x, y)
def parseN (ws : List (List UInt8)) : Nat → Option Vers
 | 0 => some []
 | j + 1 => (parseN ws j).bind fun l => (pairAt ws j).map fun p => l ++ [p]
def openedP (k : Nat) (t : List UInt8) : Option Vers :=
 if (cut t).length < 4 ∨ (cut t).length % 2 ≠ 0 then none else
 (parseN (cut t) ((cut t).length / 2 - 1)).bind fun l => if sealL k l = t then some l else none
theorem parse_none {ws : List (List UInt8)} : ∀ {m j : Nat}, j < m → pairAt ws j = none → parseN ws m = none
 | m + 1, j, hj, h => by
  unfold parseN
  rcases Nat.lt_or_ge j m with h1 | h1
  ·rw [parse_none h1 h]; rfl
  ·obtain rfl : j = m := by omega
   cases parseN ws j with
   | none => rfl
   | some l => rw [h]; rfl
theorem parse_len {ws : List (List UInt8)} : ∀ {m : Nat} {l : Vers}, parseN ws m = some l → l.length = m ∧ Wide l
 | 0, l, h => by obtain rfl := Option.some.inj h; exact ⟨rfl, fun p hp => by simp at hp⟩
 | m + 1, l, h => by
  unfold parseN at h
  cases hp : parseN ws m with
  | none => rw [hp] at h; cases h
  | some l0 =>
   rw [hp] at h
   simp only [Option.bind_some, Option.map_eq_some_iff] at h
   obtain ⟨p, hq, rfl⟩ := h
   obtain ⟨h1, h2⟩ := parse_len hp
   refine ⟨by rw [List.length_append, h1]; rfl, fun q hq2 => ?_⟩
   rw [List.mem_append, List.mem_singleton] at hq2
   rcases hq2 with hq2 | rfl
   ·exact h2 q hq2
   ·unfold pairAt at hq
    simp only [Option.bind_eq_some_iff, Option.map_eq_some_iff] at hq
    obtain ⟨a, _, b, _, x, hx, y, hy, rfl⟩ := hq
    exact ⟨atoiV_I64 hx, atoiV_I64 hy⟩
theorem parse_succ {ws : List (List UInt8)} {j : Nat} {O : Vers} {p : Int × Int} (h : parseN ws j = some O) (hp : pairAt ws j = some p) : parseN ws (j + 1) = some (O ++ [p]) := by
 unfold parseN; rw [h, hp]; rfl
set_option maxRecDepth 40000 in
set_option maxHeartbeats 8000000 in
theorem opened_core (w0 w : World) (k : Nat) (t : List UInt8) (m : Nat) (L : List HProp) (hk : k < 1000000) (hL : LibAll w0) (hs : S w0 w L) (ht : t.length ≤ 2000) (hm1 : 1 ≤ m) (hlen : (cut t).length = 2 * m + 2) :
  Calls Tryz.prog 24 #[.int .i64 k, .string ⟨t.toArray⟩] w fun r w' =>
   (∃ l v, parseN (cut t) m = some l ∧ r = .returned (.tuple #[v, .bool (decide (sealL k l = t))]) ∧ S w0 w' (sl 91 2 v l.length (pcells l) :: L)) ∨
   (parseN (cut t) m = none ∧ r = .returned (.tuple #[.slice none 0 0, .bool false]) ∧ S w0 w' L) := by
 have hsp := split_any w0 w t L hL.1 hs (by omega)
 have hcl := cut_len t
 have hwl : ∀ x ∈ cut t, x.length ≤ 1000000 := fun x hx => by
  have := cut_word_le t x hx; omega
 generalize cut t = ws at *
 obtain ⟨n, hn⟩ : ∃ n, ws.length = n := ⟨_, rfl⟩
 rw [hn] at hlen
 have hm2 : m ≤ 1000 := by omega
 have hb : ¬ ((n : Int) < 4) := by omega
 have hm : ((n : Int) % 2 != 0) = false := by rw [bne_eq_false_iff_eq]; omega
 have hcl : ∀ wr M j x, ws[j]? = some x → S w0 wr (blk w.heap.size 9 (sw ws) :: M) → wr.cell? ⟨w.heap.size, j, none⟩ = some (.string ⟨x.toArray⟩) := fun wr M j x hx h => h.blk_cell _ (sw_get hx)
 have hat : ∀ j, j < m → ∃ a b, ws[1 + 2 * j]? = some a ∧ ws[1 + 2 * j + 1]? = some b ∧ a.length ≤ 1000000 ∧ b.length ≤ 1000000 ∧ pairAt ws j = (atoiV a).bind fun x => (atoiV b).map fun y => (x, y) := fun j hj => by
  have ha : ws[1 + 2 * j]? = some (ws[1 + 2 * j]'(by omega)) := List.getElem?_eq_getElem _
  have hb : ws[2 + 2 * j]? = some (ws[2 + 2 * j]'(by omega)) := List.getElem?_eq_getElem _
  refine ⟨_, _, ha, by rw [show 1 + 2 * j + 1 = 2 + 2 * j by omega]; exact hb, hwl _ (List.getElem_mem _), hwl _ (List.getElem_mem _), ?_⟩
  unfold pairAt
  rw [ha, hb]; rfl
 have HC := hid hsp; have HN := hid hn; have HCL := hid hcl; have HLB := hid hL; have HK := hid hk; have HAT := hid hat
 clear hL hs ht hsp hn hcl hk hwl hat
 go_enter Tryz.func24, Tryz.ntmps24
 go_wp2_with (go_at_call 51; with_reducible refine HC.out.mono ?_; rw [HN.out]; rintro r w1 ⟨rfl, hs1⟩; have H1 := hid (S.sl_nil (e := 91) (size := 2) hs1); clear hs1)
 go_loopw [7, 8] (fun lv c wr => ∃ (j : Nat) (O : Vers), j ≤ m ∧ Hid (O.length = j ∧ parseN ws j = some O) ∧ c = .int .i64 ((1 + 2 * j : Nat) : Int) ∧ S w0 wr (sl 91 2 lv j (pcells O) :: blk w.heap.size 9 (sw ws) :: L)) (fun _ c _ => 2 * m + 10 - (intOf c).toNat)
 case atStart => exact ⟨0, [], Nat.zero_le _, hid ⟨rfl, rfl⟩, rfl, H1.out⟩
 case round =>
  rename World => wr
  obtain ⟨j, O, hj, hO, rfl, hsr⟩ := hrel
  clear H1
  by_cases hlt : j < m
  ·obtain ⟨a, b, ha, hb2, hal, hbl, hpa⟩ := HAT.out j hlt
   have c0 := HCL.out _ _ _ a ha hsr.swap
   obtain ⟨al, cl, rfl, hcl, hcl2, _⟩ := hsr.sl_val
   have hcc : ∀ W, S w0 W (sl 91 2 (.slice al j cl) j (pcells O) :: blk w.heap.size 9 (sw ws) :: L) → W.cell? ⟨w.heap.size, 1 + 2 * j + 1, none⟩ = some (.string ⟨b.toArray⟩) := fun W h => HCL.out _ _ _ b hb2 h.swap
   have hpl : (pcells O).length = j * 2 := hsr.sl_len
   generalize hq : 1 + 2 * j = q at *
   have HPL := hid hpl; have HCC := hid hcc; have HPA := hid hpa; have HSR := hid hsr
   clear hsr ha hb2 hcc hpa hpl
   cases hx : atoiV a with
   | some x =>
    have HA1 := hid (atoi_some w0 wr a x _ hx hal HSR.out)
    have hwx := atoiV_I64 hx
    unfold I64 at hwx
    cases hy : atoiV b with
    | some y =>
     have HA2 := hid (fun W M (h : S w0 W M) => atoi_some w0 W b y M hy hbl h)
     have hwy := atoiV_I64 hy
     unfold I64 at hwy
     have HST := hid (parse_succ hO.out.2 (by rw [HPA.out, hx, hy]; rfl))
     clear hx hy HPA HSR
     go_wp2_with (first
      | (go_at_call 23; with_reducible refine HA1.out.mono ?_; rintro r w2 ⟨rfl, hs2⟩; have c1 := HCC.out _ hs2; have H2 := hid hs2; clear hs2))
     obtain ⟨i0, hi0, hz0, hz1, hz2⟩ := info_parts Tryz.info91
     clear HA1
     go_wp2_with (first
      | (go_at_call 23; with_reducible refine (HA2.out _ _ H2.out).mono ?_; rintro r w3 ⟨rfl, hs3⟩; have hs4 := hs3.alloc #[.int .i64 x, .int .i64 y] 91; have HN4 := hid (news_blk hs4); have H4 := hid hs4.tail; clear hs3 hs4)
      | (at_builtin; refine wpList_append rfl (.tmp 55) (.tmp 59) 70 rfl 91 i0 _ 2 16 Tryz.underlying70 hi0 hz0 hz1 hz2 rfl (by decide) H4.out rfl (some ⟨w3.heap.size, 0, none⟩) 1 1 [.int .i64 x, .int .i64 y] rfl rfl HN4.out (by simp [Value.oneCell']) (by unfold maxLen; omega) (by omega) ?_; intro v1 w5 hs6; have H6 := hid hs6; clear hs6))
     go_roundw
     case rel =>
      refine ⟨j + 1, O ++ [(x, y)], by omega, hid ⟨by rw [List.length_append, hO.out.1]; rfl, HST.out⟩, ?_, by rw [pcells_append]; exact H6.out⟩
      rw [← hq]; go_num
     case measure => simp [intOf]; omega
    | none =>
     have HA2 := hid (fun W M (h : S w0 W M) => atoi_none w0 W b M HLB.out.2 hy hbl h)
     have HST := hid (parse_none hlt (by rw [HPA.out, hx, hy]; rfl))
     clear hx hy HPA HSR
     go_wp2_with (first
      | (go_at_call 23; with_reducible refine HA1.out.mono ?_; rintro r w2 ⟨rfl, hs2⟩; have c1 := HCC.out _ hs2; have H2 := hid hs2; clear hs2))
     clear HA1
     go_wp2_with (first
      | (go_at_call 23; with_reducible refine (HA2.out _ _ H2.out).mono ?_; rintro r w3 ⟨x3, T3, p3, rfl, hs3⟩; have H3 := hid hs3; clear hs3))
     go_ret2
     exact .inr ⟨HST.out, rfl, H3.out.tail.tail⟩
   | none =>
    have HA1 := hid (atoi_none w0 wr a _ HLB.out.2 hx hal HSR.out)
    have HST := hid (parse_none hlt (by rw [HPA.out, hx]; rfl))
    cases hy : atoiV b with
    | some y =>
     have HA2 := hid (fun W M (h : S w0 W M) => atoi_some w0 W b y M hy hbl h)
     clear hx hy HPA HSR
     go_wp2_with (first
      | (go_at_call 23; with_reducible refine HA1.out.mono ?_; rintro r w2 ⟨x2, T2, p2, rfl, hs2⟩; have c1 := HCC.out _ hs2; have H2 := hid hs2; clear hs2))
     clear HA1
     go_wp2_with (first
      | (go_at_call 23; with_reducible refine (HA2.out _ _ H2.out).mono ?_; rintro r w3 ⟨rfl, hs3⟩; have H3 := hid hs3; clear hs3))
     go_ret2
     exact .inr ⟨HST.out, rfl, H3.out.tail.tail⟩
    | none =>
     have HA2 := hid (fun W M (h : S w0 W M) => atoi_none w0 W b M HLB.out.2 hy hbl h)
     clear hx hy HPA HSR
     go_wp2_with (first
      | (go_at_call 23; with_reducible refine HA1.out.mono ?_; rintro r w2 ⟨x2, T2, p2, rfl, hs2⟩; have c1 := HCC.out _ hs2; have H2 := hid hs2; clear hs2))
     clear HA1
     go_wp2_with (first
      | (go_at_call 23; with_reducible refine (HA2.out _ _ H2.out).mono ?_; rintro r w3 ⟨x3, T3, p3, rfl, hs3⟩; have H3 := hid hs3; clear hs3))
     go_ret2
     exact .inr ⟨HST.out, rfl, H3.out.tail.tail⟩
  ·obtain rfl : j = m := by omega
   obtain ⟨al, cl, rfl, hcl, hcl2, _⟩ := hsr.sl_val
   obtain ⟨hO1, hO2⟩ := hO.out
   have hwd := (parse_len hO2).2
   have hse := sealed_any w0 wr k (.slice al j cl) O _ HK.out hwd (by omega) HLB.out.1.1 hsr (hO1 ▸ RdK.own)
   have HSE := hid hse; have H5 := hid hsr; have HO2 := hid hO2; have HO1 := hid hO1
   clear hse hsr hO hO1 hO2 hwd
   go_wp2_with (go_at_call 52; with_reducible refine HSE.out.mono ?_; rintro r w5 ⟨rfl, hs5⟩; have H6 := hid hs5; clear hs5)
   rw [seal_toList, beq_dec]
   go_ret2
   exact .inl ⟨O, _, HO2.out, rfl, by rw [HO1.out]; exact H6.out.swap.tail⟩
theorem opened_some (w0 w : World) (k : Nat) (t : List UInt8) (l : Vers) (L : List HProp) (hk : k < 1000000) (hL : LibAll w0) (hs : S w0 w L) (ht : t.length ≤ 2000) (h : openedP k t = some l) :
  Calls Tryz.prog 24 #[.int .i64 k, .string ⟨t.toArray⟩] w fun r w' => ∃ v, r = .returned (.tuple #[v, .bool true]) ∧ S w0 w' (sl 91 2 v l.length (pcells l) :: L) := by
 unfold openedP at h
 split at h
 ·cases h
 ·rename_i hc
  simp only [Option.bind_eq_some_iff] at h
  obtain ⟨l', hp, h2⟩ := h
  split at h2
  ·rename_i hse
   obtain rfl := Option.some.inj h2
   refine (opened_core w0 w k t ((cut t).length / 2 - 1) L hk hL hs ht (by omega) (by omega)).mono fun r w' h => ?_
   rcases h with ⟨l2, v, h3, h4, h5⟩ | ⟨h3, _⟩
   ·rw [hp] at h3
    obtain rfl := Option.some.inj h3
    rw [decide_eq_true hse] at h4
    exact ⟨v, h4, h5⟩
   ·rw [hp] at h3; cases h3
  ·cases h2
theorem opened_none (w0 w : World) (k : Nat) (t : List UInt8) (L : List HProp) (hk : k < 1000000) (hL : LibAll w0) (hs : S w0 w L) (ht : t.length ≤ 2000) (h : openedP k t = none) :
  Calls Tryz.prog 24 #[.int .i64 k, .string ⟨t.toArray⟩] w fun r w' => ∃ v, r = .returned (.tuple #[v, .bool false]) ∧ S w0 w' L := by
 by_cases hc : (cut t).length < 4 ∨ (cut t).length % 2 ≠ 0
 ·exact (opened_short w0 w k t L hL.1 hs (by omega) hc).mono fun r w' ⟨h1, h2⟩ => ⟨_, h1, h2⟩
 ·unfold openedP at h
  rw [if_neg hc] at h
  refine (opened_core w0 w k t ((cut t).length / 2 - 1) L hk hL hs ht (by omega) (by omega)).mono fun r w' h3 => ?_
  rcases h3 with ⟨l2, v, h3, h4, h5⟩ | ⟨_, h4, h5⟩
  ·rw [h3] at h
   simp only [Option.bind_some] at h
   split at h
   ·cases h
   ·rename_i hse
    rw [decide_eq_false hse] at h4
    exact ⟨v, h4, h5.tail⟩
  ·exact ⟨_, h4, h5⟩
end Go.Proofs.YtdlkjppppdminaaGreatDoor
/- What lies on a disk, whatever it is, opened: in plain words. No walk in sight. -/
namespace Go.Proofs.YtdlkjppppdminaaGreatDoor
open Go Go.RowKit Go.Sep
def openL : List (List UInt8) → Nat → List Vers → Nat × List Vers
 | [], j, V => (j, V)
 | t :: r, j, V => match openedP j t with
  | some l => if instOk (j : Int) ((j : Int) + 1) l = true then openL r (j + 1) (putAll ((j : Int) + 1) V l) else (j, V)
  | none => (j, V)
def V0 : List Vers := List.replicate 10 []
def allAt (V : List Vers) (n : Nat) : Vers := allL (fun k => readV ((V[k.toNat]?).getD []) (n : Int)) 10
theorem openL_some {t : List UInt8} {r : List (List UInt8)} {j : Nat} {V : List Vers} {l : Vers} (h : openedP j t = some l) (hk : instOk (j : Int) ((j : Int) + 1) l = true) : openL (t :: r) j V = openL r (j + 1) (putAll ((j : Int) + 1) V l) := by
 rw [openL, h]; simp only [hk, ↓reduceIte]
theorem openL_no {t : List UInt8} {r : List (List UInt8)} {j : Nat} {V : List Vers} {l : Vers} (h : openedP j t = some l) (hk : ¬ instOk (j : Int) ((j : Int) + 1) l = true) : openL (t :: r) j V = (j, V) := by
 rw [openL, h]; simp only [hk, if_false, Bool.false_eq_true]
theorem openL_none {t : List UInt8} {r : List (List UInt8)} {j : Nat} {V : List Vers} (h : openedP j t = none) : openL (t :: r) j V = (j, V) := by
 rw [openL, h]
theorem drop_cons {P : List (List UInt8)} {j : Nat} {t : List UInt8} (h : P[j]? = some t) : P.drop j = t :: P.drop (j + 1) := by
 obtain ⟨hj, rfl⟩ := List.getElem?_eq_some_iff.1 h
 exact List.drop_eq_getElem_cons hj
def RowsG (n : Nat) (V : List Vers) : Prop := ∀ vs ∈ V, vs.length ≤ n ∧ ∀ p ∈ vs, valOk p.2
theorem RowsG.start : RowsG 0 V0 := fun vs hv => by rw [(List.mem_replicate.1 hv).2]; simp
theorem RowsG.later {n m : Nat} {V : List Vers} (h : RowsG n V) (hm : n ≤ m) : RowsG m V := fun vs hv => ⟨by have := (h vs hv).1; omega, (h vs hv).2⟩
theorem RowsG.row {n : Nat} {V : List Vers} (h : RowsG n V) (k : Nat) : ((V[k]?).getD []).length ≤ n ∧ ∀ p ∈ (V[k]?).getD [], valOk p.2 := by
 cases hv : V[k]? with
 | none => simp
 | some vs => exact h vs (List.mem_of_getElem? hv)
theorem RowsG.put1 {n : Nat} {V : List Vers} (h : RowsG n V) (at_ : Int) {p : Int × Int} (hp : valOk p.2) : RowsG (n + 1) (put1 at_ V p) := by
 intro vs hv
 unfold Go.Sep.put1 at hv
 rcases List.mem_or_eq_of_mem_set hv with hv | rfl
 ·exact ⟨by have := (h vs hv).1; omega, (h vs hv).2⟩
 ·obtain ⟨h1, h2⟩ := h.row p.1.toNat
  split
  ·refine ⟨by rw [List.length_append, List.length_dropLast]; simp; omega, fun q hq => ?_⟩
   rw [List.mem_append, List.mem_singleton] at hq
   rcases hq with hq | rfl
   ·exact h2 q ((List.dropLast_sublist _).subset hq)
   ·exact hp
  ·refine ⟨by rw [List.length_append]; simp; omega, fun q hq => ?_⟩
   rw [List.mem_append, List.mem_singleton] at hq
   rcases hq with hq | rfl
   ·exact h2 q hq
   ·exact hp
theorem RowsG.putAll {at_ : Int} : ∀ (l : Vers) {n : Nat} {V : List Vers}, RowsG n V → (∀ p ∈ l, valOk p.2) → RowsG (n + l.length) (putAll at_ V l)
 | [], _, _, h, _ => h
 | p :: l, n, V, h, hl => by
  have := RowsG.putAll (at_ := at_) l (h.put1 at_ (hl p (List.mem_cons_self ..))) (fun q hq => hl q (List.mem_cons_of_mem _ hq))
  rw [List.length_cons, show n + (l.length + 1) = n + 1 + l.length by omega]
  exact this
theorem bad_val : ∀ {l : Vers} {m : Nat}, badAt m l = none → ∀ p ∈ l, valOk p.2
 | q :: l, m, h, p, hp => by
  unfold badAt at h
  split at h
  ·cases h
  ·split at h
   ·cases h
   ·rename_i h2
    rw [List.mem_cons] at hp
    rcases hp with rfl | hp
    ·exact Classical.not_not.1 h2
    ·exact bad_val h p hp
theorem inst_val {a b : Int} {l : Vers} (h : instOk a b l = true) : ∀ p ∈ l, valOk p.2 := by
 unfold instOk at h
 rw [Bool.and_eq_true, Option.isNone_iff_eq_none] at h
 exact bad_val h.2
theorem opened_len {k : Nat} {t : List UInt8} {l : Vers} (h : openedP k t = some l) (ht : t.length ≤ 2000) : l.length ≤ 1000 := by
 unfold openedP at h
 split at h
 ·cases h
 ·simp only [Option.bind_eq_some_iff] at h
  obtain ⟨l', hp, h2⟩ := h
  split at h2
  ·obtain rfl := Option.some.inj h2
   have := (parse_len hp).1
   have := cut_len t
   omega
  ·cases h2
theorem allAt_ok {n m : Nat} {V : List Vers} (h : RowsG n V) : ∀ p ∈ allAt V m, keyOk p.1 ∧ valOk p.2 := by
 intro p hp
 unfold allAt allL at hp
 rw [List.mem_flatMap] at hp
 obtain ⟨k, hk, hp⟩ := hp
 rw [List.mem_range] at hk
 obtain ⟨q, hr, hq⟩ : ∃ q, readV ((V[(k : Int).toNat]?).getD []) (m : Int) = some q ∧ p = ((k : Int), q.2) := by
  unfold allK at hp
  split at hp
  ·rename_i q hr
   rw [List.mem_singleton] at hp
   exact ⟨q, hr, hp⟩
  ·simp at hp
 subst hq
 refine ⟨by unfold keyOk; simp only; omega, ?_⟩
 unfold readV at hr
 have hm := List.mem_of_find?_eq_some hr
 rw [List.mem_reverse] at hm
 exact (h.row _).2 q hm
theorem bad_ok : ∀ {l : Vers} {m : Nat}, (∀ p ∈ l, keyOk p.1 ∧ valOk p.2) → badAt m l = none
 | [], _, _ => rfl
 | p :: l, m, h => by
  have h1 := h p (by simp)
  unfold badAt
  rw [if_neg (by simpa using h1.1), if_neg (by simpa using h1.2)]
  exact bad_ok fun q hq => h q (by simp [hq])
theorem over_inst {n m : Nat} {V : List Vers} (h : RowsG n V) (hm : 0 < m) (hm2 : m ≤ 1000) : instOk 0 (m : Int) (allAt V m) = true := by
 have hc : (0 : Int) < (m : Int) ∧ (m : Int) ≤ 1099511627776 := by omega
 unfold instOk; rw [bad_ok (allAt_ok h), decide_eq_true hc]; rfl
theorem allAt_len (V : List Vers) (m : Nat) : (allAt V m).length ≤ 10 := allL_le _ 10
theorem allAt_0 : allAt V0 0 = [] := by decide
theorem inst_ne {a b : Int} {l : Vers} (h : ¬ instOk a b l = true) : instErr a b l ≠ .nil := by
 unfold instErr
 split
 ·rename_i hc
  cases hb : badAt 0 l with
  | none => exact absurd (by unfold instOk; simp [hc, hb]) h
  | some q => simp
 ·simp
end Go.Proofs.YtdlkjppppdminaaGreatDoor
/- base.Open: the walk, whatever lies on the disk. Conditions: the library's tables and errors are laid, and the variable of bytealg's greatest length holds a whole number. -/
namespace Go.Proofs.YtdlkjppppdminaaGreatDoor
open Go Go.RowKit Go.Sep
theorem over_A (w0 w : World) (V : List Vers) (n m : Nat) (v : Value) (L : List HProp) (hV : RowsG n V) (hm : m ≤ 1000) (h0 : m = 0 → V = V0) (hs : S w0 w (sl 91 2 v (allAt V m).length (pcells (allAt V m)) :: L)) :
  Calls Tryz.prog 26 #[.int .i64 m, v] w fun r w' => ∃ b, r = .returned (.tuple #[.pointer (some ⟨b, 0, none⟩), .nilIface]) ∧ S w0 w' (engP b [] (Eng.over m (allAt V m)) :: L) := by
 by_cases hz : m = 0
 ·subst hz
  rw [h0 rfl, allAt_0] at hs ⊢
  obtain ⟨a, c, rfl, _, _, _⟩ := hs.sl_val
  exact eover_zero w0 w a c L hs.tail
 ·exact (eover_own w0 w _ v _ L hs (over_inst hV (by omega) hm) (by have := allAt_len V m; omega)).mono fun r w' ⟨b, h1, h2⟩ => ⟨b, h1, h2.swap.tail⟩
def Dsk.opens (D : Dsk) : Nat × List Vers := openL D.places 0 V0
def Dsk.engine (D : Dsk) : Eng := Eng.over D.opens.1 (allAt D.opens.2 D.opens.1)
set_option maxRecDepth 40000 in
set_option maxHeartbeats 8000000 in
theorem openg_any (w0 w : World) (d : Nat) (D : Dsk) (L : List HProp) (hL : LibAll w0) (hP : ∀ t ∈ D.places, t.length ≤ 2000) (hs : S w0 w (dskB d D :: L)) :
  Calls Tryz.prog 13 #[.pointer (some ⟨d, 0, none⟩)] w fun r w' => ∃ b e, r = .returned (.tuple #[.pointer (some ⟨b, 0, none⟩), .nilIface]) ∧ D.opens.1 ≤ 250 ∧
   S w0 w' (bseB b d (.pointer (some ⟨e, 0, none⟩)) D.opens.1 false (-1) :: engP e [] D.engine :: dskB d D :: L) := by
 have hlen := hs.dsk_open.1
 obtain ⟨B, hB⟩ : ∃ B, w.heap.size = B := ⟨_, rfl⟩
 have hs1 := hs.alloc #[.pointer (some ⟨d, 0, none⟩), .pointer none, .int .i64 0, .bool false, .int .i64 (-1)] 65
 have hs2 := S.store_new2 (T := 69) (T' := 99) (hs1.alloc #[.slice none 0 0, .slice none 0 0, .slice none 0 0, .slice none 0 0, .slice none 0 0, .slice none 0 0, .slice none 0 0, .slice none 0 0, .slice none 0 0, .slice none 0 0, .int .i64 0] 69)
 rw [World.size_alloc, hB] at hs2
 have hs3 : S w0 ((w.alloc (.cells #[.pointer (some ⟨d, 0, none⟩), .pointer none, .int .i64 0, .bool false, .int .i64 (-1)] 65)).alloc (.cells #[.slice none 0 0, .slice none 0 0, .slice none 0 0, .slice none 0 0, .slice none 0 0, .slice none 0 0, .slice none 0 0, .slice none 0 0, .slice none 0 0, .slice none 0 0, .int .i64 0] 69))
  (bseB B d (.pointer none) 0 false (-1) :: storeP 99 (B + 1) 0 V0 0 :: dskB d D :: L) := hs2.swap
 have hq : ∀ W (j : Nat) (V : List Vers) (la : Int), S w0 W (bseB B d (.pointer none) j false (-1) :: storeP 99 (B + 1) 0 V la :: dskB d D :: L) → W.cell? ⟨B, 2, none⟩ = some (.int .i64 j) ∧ W.frozen? ⟨B, 2, none⟩ = false ∧ ∀ x, D.places[j]? = some x → W.cell? ⟨d, j, none⟩ = some (.string ⟨x.toArray⟩) := fun W j V la h => ⟨h.blk_cell 2 rfl, h.blk_free 2, fun x hx => h.tail.tail.dsk_at hx⟩
 have hset : ∀ W (j : Nat) (V : List Vers) (la : Int), S w0 W (bseB B d (.pointer none) j false (-1) :: storeP 99 (B + 1) 0 V la :: dskB d D :: L) → S w0 (W.setCell ⟨B, 2, none⟩ (.int .i64 ((j + 1 : Nat) : Int))) (bseB B d (.pointer none) ((j + 1 : Nat) : Nat) false (-1) :: storeP 99 (B + 1) 0 V la :: dskB d D :: L) := fun W j V la h => h.blk_set 2 (by simp) (.int .i64 ((j + 1 : Nat) : Int))
 have H3 := hid hs3; have HQ := hid hq; have HSET := hid hset; have HP := hid hP; have HLB := hid hL; have HLEN := hid hlen
 clear hL hs hs1 hs2 hs3 hq hset hP hlen
 go_enter Tryz.func13, Tryz.ntmps13
 go_wp2_with fail
 go_loopw [6, 7] (fun lv ok wr => ∃ (j : Nat) (V : List Vers), j ≤ 250 ∧ Hid (openL (D.places.drop j) j V = D.opens) ∧ Hid (RowsG (1000 * j) V) ∧ Hid (j = 0 → V = V0) ∧ S w0 wr (bseB B d (.pointer none) j false (-1) :: storeP 99 (B + 1) 0 V j :: dskB d D :: L)) (fun _ _ wr => 300 - (intOf ((wr.cell? ⟨B, 2, none⟩).getD .nilIface)).toNat)
 case atStart => exact ⟨0, V0, Nat.zero_le _, hid rfl, hid RowsG.start, hid fun _ => rfl, H3.out⟩
 case round =>
  rename World => wr
  obtain ⟨j, V, hj, HO, HR, HZ, hsr⟩ := hrel
  clear H3
  obtain ⟨c2, f2, hpc⟩ := HQ.out _ j _ _ hsr
  by_cases h250 : j < 250
  ·have hj250 : (j : Int) < 250 := by omega
   obtain ⟨t, ht⟩ : ∃ t, D.places[j]? = some t := ⟨_, List.getElem?_eq_getElem (by rw [HLEN.out]; exact h250)⟩
   have htl := HP.out t (List.mem_of_getElem? ht)
   have hdr := drop_cons ht
   have hx := hpc _ ht
   have q0 := And.intro (HQ.out _ j _ _ hsr.drew).1 ((HQ.out _ j _ _ hsr.drew).2.2 _ ht)
   have HS0 := hid hsr; have HX := hid ht; have HDR := hid hdr
   clear hsr hpc hx ht hdr
   cases hop : openedP j t with
   | some l =>
    have hopc := fun W M h => opened_some w0 W j t l M (by omega) HLB.out h htl hop
    have hl10 := opened_len hop htl
    have HOP := hid hopc
    clear hopc
    go_upto_region 6 with fail
    go_region_held_law (fun w' => w'.cell? ⟨B, 2, none⟩ = some (.int .i64 j) ∧ w'.cell? ⟨d, j, none⟩ = some (.string ⟨t.toArray⟩)) (first | (with_reducible assumption) | (with_reducible exact q0) | (with_reducible exact q1))
     ((go_at_call 24; with_reducible refine (HOP.out _ _ HS0.out.drew).mono ?_; rintro r w2 ⟨v, rfl, hs2⟩; have q1 := And.intro (HQ.out _ j _ _ hs2.tail).1 ((HQ.out _ j _ _ hs2.tail).2.2 _ HX.out); have H2 := hid hs2; clear hs2))
    have h3 : S w0 _ (storeP 99 (B + 1) 0 V j :: sl 91 2 v l.length (pcells l) :: bseB B d (.pointer none) j false (-1) :: dskB d D :: L) := H2.out.conv (by simp only [all]; ac_rfl)
    have hc := install2 w0 _ (B + 1) 0 V j ((j : Int) + 1) v l _ (1000 * j) h3 RdK.own (fun vs hv => (HR.out vs hv).1) (by omega)
    obtain ⟨d2, g2, _⟩ := HQ.out _ j V j H2.out.tail
    by_cases hk : instOk (j : Int) ((j : Int) + 1) l = true
    ·have herr : instErr (j : Int) ((j : Int) + 1) l = .nil := by
      unfold instOk at hk
      rw [Bool.and_eq_true, decide_eq_true_eq, Option.isNone_iff_eq_none] at hk
      unfold instErr
      rw [if_pos hk.1, hk.2]
     rw [herr] at hc
     simp only [hk, ↓reduceIte] at hc
     have HN := hid (show openL (D.places.drop (j + 1)) (j + 1) (putAll ((j : Int) + 1) V l) = D.opens by rw [← HO.out, HDR.out, openL_some hop hk])
     have HR2 := hid ((HR.out.putAll l (at_ := (j : Int) + 1) (inst_val hk)).later (show 1000 * j + l.length ≤ 1000 * (j + 1) by omega))
     have HC := hid hc; have HC2 := hid c2
     clear h3 hc c2 f2 herr hk hop HO HR
     go_wp2_with (go_at_call 25; with_reducible refine HC.out.mono ?_; rintro r w3 ⟨u, rfl, hs3⟩; obtain ⟨rfl, hs4⟩ := S.pur_elim hs3; have hs5 := (hs4.conv (M := sl 91 2 v l.length (pcells l) :: bseB B d (.pointer none) j false (-1) :: storeP 99 (B + 1) 0 (putAll ((j : Int) + 1) V l) ((j : Int) + 1) :: dskB d D :: L) (by simp only [all]; ac_rfl)).tail; obtain ⟨e2, k2, _⟩ := HQ.out _ j _ _ hs5; have H5 := hid (HSET.out _ _ _ _ hs5); clear hs3 hs4 hs5)
     go_roundw
     case rel => exact ⟨j + 1, _, by omega, HN, HR2, hid fun h => absurd h (by omega), H5.out⟩
     case measure =>
      have e1 := H5.out.blk_cell 2 rfl
      rw [HC2.out]
      have e3 := e1
      simp only [Int.natCast_add, Int.natCast_one] at e3
      rw [e3]
      simp [intOf]; omega
    ·have herr := inst_ne hk
     have hno : D.opens = (j, V) := by rw [← HO.out, HDR.out, openL_no hop hk]
     have hk' : instOk (j : Int) ((j : Int) + 1) l = false := by simpa using hk
     simp only [hk', Bool.false_eq_true, if_false] at hc
     have hc2 : Calls Tryz.prog 25 #[.pointer (some ⟨B + 1, 0, none⟩), .int .i64 ((j : Int) + 1), v] w2 fun e w' => ∃ T p, e = .returned (.iface T p) ∧ S w0 w' (bseB B d (.pointer none) j false (-1) :: storeP 99 (B + 1) 0 V j :: dskB d D :: L) := by
      refine hc.mono fun e w' ⟨u, h1, h2⟩ => ?_
      have h5 := (h2.conv (M := errP 54 97 95 u (instErr (j : Int) ((j : Int) + 1) l) :: sl 91 2 v l.length (pcells l) :: bseB B d (.pointer none) j false (-1) :: storeP 99 (B + 1) 0 V j :: dskB d D :: L) (by simp only [all]; ac_rfl))
      cases hin : instErr (j : Int) ((j : Int) + 1) l with
      | nil => exact absurd hin herr
      | no x =>
       rw [hin] at h5
       obtain ⟨rfl, h6⟩ := S.pur_elim h5
       exact ⟨_, _, h1, h6.tail⟩
      | at_ x p =>
       rw [hin] at h5
       obtain ⟨g, h6⟩ := S.ex_elim h5
       obtain ⟨rfl, h7⟩ := S.pur_elim h6.sep_elim
       exact ⟨_, _, h1, h7.tail.tail⟩
     have HC := hid hc2; have HNO := hid hno
     clear h3 hc hc2 c2 f2 herr hk hk' hop HO hno
     go_wp2_with (go_at_call 25; with_reducible refine HC.out.mono ?_; rintro r w3 ⟨T3, p3, rfl, hs3⟩; obtain ⟨d2, g2, _⟩ := HQ.out _ j _ _ hs3; have H5 := hid hs3; clear hs3)
     have hal : ∀ W {M : List HProp}, S w0 W (storeP 99 (B + 1) 0 V j :: M) → Calls Tryz.prog 27 #[.pointer (some ⟨B + 1, 0, none⟩), .int .i64 j] W fun e w' => ∃ v, e = .returned v ∧ S w0 w' (sl 91 2 v (allAt V j).length (pcells (allAt V j)) :: M) := fun W M h => by
      have h1 := sall_any w0 W (B + 1) V j j M h (fun vs hv => by have := (HR.out vs hv).1; omega)
      exact h1.mono fun e w' ⟨v, g1, g2⟩ => ⟨v, g1, g2.swap.tail⟩
     have q5 := (HQ.out _ j _ _ H5.out.drew).1
     have HAL := hid hal
     have H6 := hid (show S w0 _ (storeP 99 (B + 1) 0 V j :: bseB B d (.pointer none) j false (-1) :: dskB d D :: L) from H5.out.drew.swap)
     have hj1000 : j ≤ 1000 := by omega
     clear hal H5
     go_upto_region 9 with fail
     go_region_held_law (fun w' => w'.cell? ⟨B, 2, none⟩ = some (.int .i64 j)) (first | (with_reducible assumption) | (with_reducible exact q5) | (with_reducible exact q6) | (with_reducible exact q7))
      (first
       | (go_at_call 27; with_reducible refine (HAL.out _ H6.out).mono ?_; rintro r w6 ⟨v6, rfl, hs6⟩; have q6 := hs6.tail.blk_cell 2 rfl; have H7 := hid hs6; clear hs6)
       | (go_at_call 26; with_reducible refine (over_A w0 _ V _ j _ _ HR.out hj1000 HZ.out H7.out).mono ?_; rintro r w7 ⟨e7, rfl, hs7⟩; have q7 := hs7.tail.blk_cell 2 rfl; have H8 := hid hs7; clear hs7))
     have h9 := H8.out.swap.blk_set 1 (by simp) (.pointer (some ⟨e7, 0, none⟩))
     have k1 := H8.out.tail.blk_cell 1 rfl
     have k2 := H8.out.tail.blk_free 1
     have H9 := hid h9
     clear h9 d2 g2
     go_wp2_with fail
     go_ret2
     have hno := HNO.out
     refine ⟨B, e7, rfl, by rw [hno]; exact hj, ?_⟩
     unfold Dsk.engine
     rw [hno]
     exact H9.out
   | none =>
    have hopc := fun W M h => opened_none w0 W j t M (by omega) HLB.out h htl hop
    have hno : D.opens = (j, V) := by rw [← HO.out, HDR.out, openL_none hop]
    have HOP := hid hopc; have HNO := hid hno
    clear hopc hno hop HO
    go_upto_region 6 with fail
    go_region_held_law (fun w' => w'.cell? ⟨B, 2, none⟩ = some (.int .i64 j) ∧ w'.cell? ⟨d, j, none⟩ = some (.string ⟨t.toArray⟩)) (first | (with_reducible assumption) | (with_reducible exact q0) | (with_reducible exact q1))
     ((go_at_call 24; with_reducible refine (HOP.out _ _ HS0.out.drew).mono ?_; rintro r w2 ⟨v, rfl, hs2⟩; have q1 := And.intro (HQ.out _ j _ _ hs2).1 ((HQ.out _ j _ _ hs2).2.2 _ HX.out); have H5 := hid hs2; clear hs2))
    obtain ⟨d2, g2, _⟩ := HQ.out _ j _ _ H5.out
    clear c2 f2 q0 q1
    have hal : ∀ W {M : List HProp}, S w0 W (storeP 99 (B + 1) 0 V j :: M) → Calls Tryz.prog 27 #[.pointer (some ⟨B + 1, 0, none⟩), .int .i64 j] W fun e w' => ∃ v, e = .returned v ∧ S w0 w' (sl 91 2 v (allAt V j).length (pcells (allAt V j)) :: M) := fun W M h => by
     have h1 := sall_any w0 W (B + 1) V j j M h (fun vs hv => by have := (HR.out vs hv).1; omega)
     exact h1.mono fun e w' ⟨v, g1, g2⟩ => ⟨v, g1, g2.swap.tail⟩
    have q5 := (HQ.out _ j _ _ H5.out.drew).1
    have HAL := hid hal
    have H6 := hid (show S w0 _ (storeP 99 (B + 1) 0 V j :: bseB B d (.pointer none) j false (-1) :: dskB d D :: L) from H5.out.drew.swap)
    have hj1000 : j ≤ 1000 := by omega
    clear hal H5
    go_upto_region 9 with fail
    go_region_held_law (fun w' => w'.cell? ⟨B, 2, none⟩ = some (.int .i64 j)) (first | (with_reducible assumption) | (with_reducible exact q5) | (with_reducible exact q6) | (with_reducible exact q7))
     (first
      | (go_at_call 27; with_reducible refine (HAL.out _ H6.out).mono ?_; rintro r w6 ⟨v6, rfl, hs6⟩; have q6 := hs6.tail.blk_cell 2 rfl; have H7 := hid hs6; clear hs6)
      | (go_at_call 26; with_reducible refine (over_A w0 _ V _ j _ _ HR.out hj1000 HZ.out H7.out).mono ?_; rintro r w7 ⟨e7, rfl, hs7⟩; have q7 := hs7.tail.blk_cell 2 rfl; have H8 := hid hs7; clear hs7))
    have h9 := H8.out.swap.blk_set 1 (by simp) (.pointer (some ⟨e7, 0, none⟩))
    have k1 := H8.out.tail.blk_cell 1 rfl
    have k2 := H8.out.tail.blk_free 1
    have H9 := hid h9
    clear h9 d2 g2
    go_wp2_with fail
    go_ret2
    have hno := HNO.out
    refine ⟨B, e7, rfl, by rw [hno]; exact hj, ?_⟩
    unfold Dsk.engine
    rw [hno]
    exact H9.out
  ·have hj250 : ¬ (j : Int) < 250 := by omega
   have hno : D.opens = (j, V) := by rw [← HO.out, List.drop_of_length_le (by rw [HLEN.out]; omega)]; rfl
   have HNO := hid hno; have H5 := hid hsr
   obtain ⟨d2, g2, _⟩ := HQ.out _ j _ _ hsr
   clear hno HO hsr hpc c2 f2
   have hal : ∀ W {M : List HProp}, S w0 W (storeP 99 (B + 1) 0 V j :: M) → Calls Tryz.prog 27 #[.pointer (some ⟨B + 1, 0, none⟩), .int .i64 j] W fun e w' => ∃ v, e = .returned v ∧ S w0 w' (sl 91 2 v (allAt V j).length (pcells (allAt V j)) :: M) := fun W M h => by
    have h1 := sall_any w0 W (B + 1) V j j M h (fun vs hv => by have := (HR.out vs hv).1; omega)
    exact h1.mono fun e w' ⟨v, g1, g2⟩ => ⟨v, g1, g2.swap.tail⟩
   have q5 := (HQ.out _ j _ _ H5.out.drew).1
   have HAL := hid hal
   have H6 := hid (show S w0 _ (storeP 99 (B + 1) 0 V j :: bseB B d (.pointer none) j false (-1) :: dskB d D :: L) from H5.out.drew.swap)
   have hj1000 : j ≤ 1000 := by omega
   clear hal H5
   go_upto_region 9 with fail
   go_region_held_law (fun w' => w'.cell? ⟨B, 2, none⟩ = some (.int .i64 j)) (first | (with_reducible assumption) | (with_reducible exact q5) | (with_reducible exact q6) | (with_reducible exact q7))
    (first
     | (go_at_call 27; with_reducible refine (HAL.out _ H6.out).mono ?_; rintro r w6 ⟨v6, rfl, hs6⟩; have q6 := hs6.tail.blk_cell 2 rfl; have H7 := hid hs6; clear hs6)
     | (go_at_call 26; with_reducible refine (over_A w0 _ V _ j _ _ HR.out hj1000 HZ.out H7.out).mono ?_; rintro r w7 ⟨e7, rfl, hs7⟩; have q7 := hs7.tail.blk_cell 2 rfl; have H8 := hid hs7; clear hs7))
   have h9 := H8.out.swap.blk_set 1 (by simp) (.pointer (some ⟨e7, 0, none⟩))
   have k1 := H8.out.tail.blk_cell 1 rfl
   have k2 := H8.out.tail.blk_free 1
   have H9 := hid h9
   clear h9 d2 g2
   go_wp2_with fail
   go_ret2
   have hno := HNO.out
   refine ⟨B, e7, rfl, by rw [hno]; exact hj, ?_⟩
   unfold Dsk.engine
   rw [hno]
   exact H9.out
end Go.Proofs.YtdlkjppppdminaaGreatDoor
/- The desk's small functions: must, numbers, join. Conditions: errors.errorType, the library's tables and errors are laid. -/
namespace Go.Proofs.YtdlkjppppdminaaGreatDoor
open Go Go.RowKit Go.Sep
set_option maxRecDepth 40000 in
theorem must_nil (w : World) : Calls Tryz.prog 14 #[.nilIface] w fun r w' => r = .returned (.tuple #[]) ∧ w = w' := by
 go_enter Tryz.func14, Tryz.ntmps14
 go_wp2_with fail
 go_end0
 exact ⟨rfl, rfl⟩
set_option maxRecDepth 40000 in
theorem must_any (w0 w : World) (T : TypeId) (p : Value) (e : Int) (L : List HProp) (h : Calls Tryz.prog 28 #[.iface T p] w fun r w' => r = .returned (.int .i64 e) ∧ S w0 w' L) :
  Calls Tryz.prog 14 #[.iface T p] w fun r w' => r = .panicked [{ v := .iface 56 (.agg #[.int .i64 e]), recovered := false }] ∧ S w0 w' L := by
 have H := hid h
 clear h
 go_enter Tryz.func14, Tryz.ntmps14
 go_wp2_with (go_at_call 28; with_reducible refine H.out.mono ?_; rintro r w1 ⟨rfl, hs1⟩; have H1 := hid hs1; clear hs1)
 exact ⟨rfl, rfl, H1.out⟩
theorem must_no (w0 w : World) (e : Int) (L : List HProp) (hE : ErrT w0) (he : e ≠ 0) (hs : S w0 w L) :
  Calls Tryz.prog 14 #[errV e] w fun r w' => r = .panicked [{ v := .iface 56 (.agg #[.int .i64 e]), recovered := false }] ∧ S w0 w' L := by
 have h := tell_errV e w0 w L hE hs
 rw [errV_ne he] at h ⊢
 exact must_any w0 w _ _ e L h
def numP (s : List UInt8) : Option Int := (atoiV s).bind fun k => if num k = s then some k else none
def numsN (ws : List (List UInt8)) : Nat → Option (List Int)
 | 0 => some []
 | j + 1 => (numsN ws j).bind fun l => ((ws[j]?).bind numP).map fun x => l ++ [x]
def numsP (ws : List (List UInt8)) (n : Nat) : Option (List Int) := if ws.length = n then numsN ws n else none
theorem nums_none {ws : List (List UInt8)} : ∀ {m j : Nat}, j < m → (ws[j]?).bind numP = none → numsN ws m = none
 | m + 1, j, hj, h => by
  unfold numsN
  rcases Nat.lt_or_ge j m with h1 | h1
  ·rw [nums_none h1 h]; rfl
  ·obtain rfl : j = m := by omega
   cases numsN ws j with
   | none => rfl
   | some l => rw [h]; rfl
theorem nums_succ {ws : List (List UInt8)} {j : Nat} {O : List Int} {x : Int} (h : numsN ws j = some O) (hp : (ws[j]?).bind numP = some x) : numsN ws (j + 1) = some (O ++ [x]) := by
 unfold numsN; rw [h, hp]; rfl
theorem nums_len {ws : List (List UInt8)} : ∀ {m : Nat} {l : List Int}, numsN ws m = some l → l.length = m ∧ ∀ x ∈ l, I64 x
 | 0, l, h => by obtain rfl := Option.some.inj h; exact ⟨rfl, by simp⟩
 | m + 1, l, h => by
  unfold numsN at h
  cases hp : numsN ws m with
  | none => rw [hp] at h; cases h
  | some l0 =>
   rw [hp] at h
   simp only [Option.bind_some, Option.map_eq_some_iff] at h
   obtain ⟨p, hq, rfl⟩ := h
   obtain ⟨h1, h2⟩ := nums_len hp
   refine ⟨by rw [List.length_append, h1]; rfl, fun q hq2 => ?_⟩
   rw [List.mem_append, List.mem_singleton] at hq2
   rcases hq2 with hq2 | rfl
   ·exact h2 q hq2
   ·rw [Option.bind_eq_some_iff] at hq
    obtain ⟨s, _, hs⟩ := hq
    unfold numP at hs
    rw [Option.bind_eq_some_iff] at hs
    obtain ⟨k, hk, hs⟩ := hs
    split at hs
    ·obtain rfl := Option.some.inj hs
     exact atoiV_I64 hk
    ·cases hs
def Fits (ws : List (List UInt8)) : Prop := ws.length ≤ 100000 ∧ ∀ x ∈ ws, x.length ≤ 1000000
theorem errForm (w0 w : World) (L : List HProp) (hE : ErrT w0) (hs : S w0 w L) : Calls Tryz.prog 14 #[.iface 54 (.int .i64 3)] w fun r w' => r = .panicked [{ v := .iface 56 (.agg #[.int .i64 3]), recovered := false }] ∧ S w0 w' L :=
 must_no w0 w 3 L hE (by decide) hs
set_option maxRecDepth 40000 in
set_option maxHeartbeats 8000000 in
theorem numbers_core (w0 w : World) (v : Value) (ws : List (List UInt8)) (n : Nat) (L : List HProp) (hE : ErrT w0) (hL : LibAll w0) (hf : Fits ws) (hs : S w0 w (sl 9 1 v ws.length (sw ws) :: L)) :
  Calls Tryz.prog 11 #[v, .int .i64 n] w fun r w' =>
   (∃ ks u, numsP ws n = some ks ∧ r = .returned u ∧ S w0 w' (sl 3 1 u ks.length (icells ks) :: L)) ∨ (numsP ws n = none ∧ r = .panicked [{ v := .iface 56 (.agg #[.int .i64 3]), recovered := false }] ∧ S w0 w' L) := by
 obtain ⟨a, cap, rfl, hc1, hc2, hrow⟩ := hs.sl_val
 unfold maxLen at hc2
 obtain ⟨f1, f2⟩ := hf
 by_cases hn : ws.length = n
 ·have hP : numsP ws n = numsN ws n := by unfold numsP; rw [if_pos hn]
  rw [hP]
  have hce : ∀ W (M : List HProp) j x, ws[j]? = some x → S w0 W (sl 9 1 (.slice a ws.length cap) ws.length (sw ws) :: M) → ∃ g o, a = some ⟨g, o, none⟩ ∧ W.cell? ⟨g, o + j, none⟩ = some (.string ⟨x.toArray⟩) := fun W M j x hx h => by
   obtain ⟨a', c', e1, _, _, e4⟩ := h.sl_val
   simp only [Value.slice.injEq] at e1
   obtain ⟨rfl, _, _⟩ := e1
   obtain ⟨g, o, e5, e6, _⟩ := e4 j _ (sw_get hx)
   exact ⟨g, o, e5, e6⟩
  rw [hn] at hs hce f1
  have H0 := hid (S.sl_nil (e := 3) (size := 1) hs); have HCE := hid hce; have HLB := hid hL; have HE := hid hE; have HF2 := hid f2; have HN := hid hn
  clear hs hrow hP hL hE f2 hce
  rw [hn]
  clear hn
  go_enter Tryz.func11, Tryz.ntmps11
  go_wp2_with fail
  go_loopw [5, 18] (fun lv c wr => ∃ (j : Nat) (O : List Int), j ≤ n ∧ Hid (O.length = j ∧ numsN ws j = some O) ∧ c = .int .i64 j ∧ S w0 wr (sl 3 1 lv j (icells O) :: sl 9 1 (.slice a n cap) n (sw ws) :: L)) (fun _ c _ => n - (intOf c).toNat)
  case atStart => exact ⟨0, [], Nat.zero_le _, hid ⟨rfl, rfl⟩, rfl, H0.out⟩
  case round =>
   rename World => wr
   obtain ⟨j, O, hj, hO, rfl, hsr⟩ := hrel
   clear H0
   by_cases hlt : j < n
   ·obtain ⟨x, hx⟩ : ∃ x, ws[j]? = some x := ⟨_, List.getElem?_eq_getElem (by rw [HN.out]; exact hlt)⟩
    have hxl := HF2.out x (List.mem_of_getElem? hx)
    obtain ⟨g, o, rfl, c0⟩ := HCE.out _ _ j x hx hsr.swap
    obtain ⟨al, cl, rfl, hcl, hcl2, _⟩ := hsr.sl_val
    have hjx : (ws[j]?).bind numP = numP x := by rw [hx]; rfl
    have HSR := hid hsr; have HJX := hid hjx
    clear hsr hx hjx
    cases hk : atoiV x with
    | some k =>
     have HA1 := hid (atoi_some w0 wr x k _ hk hxl HSR.out)
     have HI := hid (fun W M (h : S w0 W M) => itoa_any k (atoiV_I64 hk) w0 W M HLB.out.1.1 h)
     by_cases hs : num k = x
     ·have HST := hid (nums_succ hO.out.2 (x := k) (by rw [HJX.out]; unfold numP; rw [hk]; simp [hs]))
      rw [hs] at HI
      clear hk hs HSR HJX
      obtain ⟨i0, hi0, hz0, hz1, hz2⟩ := info_parts Tryz.info3
      go_wp2_with (first
       | (go_at_call 23; with_reducible refine HA1.out.mono ?_; rintro r w2 ⟨rfl, hs2⟩; have H2 := hid hs2; clear hs2)
       | (go_at_call 19; with_reducible refine (HI.out _ _ H2.out).mono ?_; rintro r w3 ⟨rfl, hs3⟩; have hs4 := hs3.alloc #[.int .i64 k] 3; have HN4 := hid (news_blk hs4); have H4 := hid hs4.tail; clear hs3 hs4)
       | (at_builtin; refine wpList_append rfl (.tmp 37) (.tmp 39) 47 rfl 3 i0 _ 1 8 Tryz.underlying47 hi0 hz0 hz1 hz2 rfl (by decide) H4.out rfl (some ⟨w3.heap.size, 0, none⟩) 1 1 [.int .i64 k] rfl rfl HN4.out (by simp [Value.oneCell']) (by unfold maxLen; omega) (by omega) ?_; intro v1 w5 hs6; have H6 := hid hs6; clear hs6))
      go_roundw
      case rel => exact ⟨j + 1, O ++ [k], by omega, hid ⟨by rw [List.length_append, hO.out.1]; rfl, HST.out⟩, by go_num, by rw [icells_append]; exact H6.out⟩
      case measure => simp [intOf]; omega
     ·have HST := hid (nums_none hlt (by rw [HJX.out]; unfold numP; rw [hk]; simp [hs]))
      clear hk HSR HJX
      have hne : (num k == x) = false := by rw [beq_dec, decide_eq_false hs]
      go_wp2_with (first
       | (go_at_call 23; with_reducible refine HA1.out.mono ?_; rintro r w2 ⟨rfl, hs2⟩; have H2 := hid hs2; clear hs2)
       | (go_at_call 19; with_reducible refine (HI.out _ _ H2.out).mono ?_; rintro r w3 ⟨rfl, hs3⟩; have H3 := hid hs3; clear hs3)
       | (go_at_call 14; with_reducible refine (errForm w0 _ _ HE.out H3.out).mono ?_; rintro r w4 ⟨rfl, hs4⟩; have H4 := hid hs4; clear hs4))
      exact ⟨rfl, .inr ⟨HST.out, rfl, H4.out.tail.tail⟩⟩
    | none =>
     have HA1 := hid (atoi_none w0 wr x _ HLB.out.2 hk hxl HSR.out)
     have HST := hid (nums_none hlt (by rw [HJX.out]; unfold numP; rw [hk]; rfl))
     clear hk HSR HJX
     go_wp2_with (first
      | (go_at_call 23; with_reducible refine HA1.out.mono ?_; rintro r w2 ⟨x2, T2, p2, rfl, hs2⟩; have H2 := hid hs2; clear hs2)
      | (go_at_call 14; with_reducible refine (errForm w0 _ _ HE.out H2.out).mono ?_; rintro r w4 ⟨rfl, hs4⟩; have H4 := hid hs4; clear hs4))
     exact ⟨rfl, .inr ⟨HST.out, rfl, H4.out.tail.tail⟩⟩
   ·obtain rfl : j = n := by omega
    obtain ⟨hO1, hO2⟩ := hO.out
    have HO2 := hid hO2; have HO1 := hid hO1; have H5 := hid hsr
    clear hsr hO hO1 hO2
    go_wp2_with fail
    go_ret
    exact .inl ⟨O, _, HO2.out, rfl, by rw [HO1.out]; exact H5.out.swap.tail⟩
 ·have hP : numsP ws n = none := by unfold numsP; rw [if_neg hn]
  have hne : ((ws.length : Int) != (n : Int)) = true := by rw [bne_iff_ne]; omega
  have HS := hid hs; have HE := hid hE; have HP := hid hP
  clear hs hrow hE hP hL f2
  go_enter Tryz.func11, Tryz.ntmps11
  go_wp2_with (go_at_call 14; with_reducible refine (errForm w0 _ _ HE.out HS.out).mono ?_; rintro r w4 ⟨rfl, hs4⟩; have H4 := hid hs4; clear hs4)
  exact ⟨rfl, .inr ⟨HP.out, rfl, H4.out.tail⟩⟩
end Go.Proofs.YtdlkjppppdminaaGreatDoor
/- strings.Join and desk.join: the walks. Condition: the library's table of powers of ten is laid. -/
namespace Go.Proofs.YtdlkjppppdminaaGreatDoor
open Go Go.RowKit Go.Sep
theorem sjoin_any (w0 w : World) (v : Value) (ws : List (List UInt8)) (sep : List UInt8) (L : List HProp) (hn : ws.length ≤ 100000000000000) (hlen : (Lib.join ws sep).length ≤ 100000000000000) (hs : S w0 w (sl 9 1 v ws.length (sw ws) :: L)) :
  Calls Tryz.prog 64 #[v, .string ⟨sep.toArray⟩] w fun r w' => r = .returned (.string ⟨(Lib.join ws sep).toArray⟩) ∧ S w0 w' L := by
 by_cases h0 : ws = []
 ·subst h0
  obtain ⟨a, cap, rfl, _, _, _⟩ := hs.sl_val
  refine (Shs.Tryz.strings_Join_none a cap ⟨sep.toArray⟩ w).mono fun r w' ⟨h1, h2⟩ => ⟨?_, by rw [h2]; exact hs.tail⟩
  rw [h1, Lib.join_nil]
 ·have hp : 0 < ws.length := List.length_pos_iff.2 h0
  have hwl : (sw ws).length = ws.length := sw_length ws
  obtain ⟨gw, ow, cw, rfl, hcw, hcw2, hg0, hg1, hgc, _⟩ := hs.sl_some (by rw [hwl]; exact hp)
  have hj := Shs.Tryz.strings_Join gw ow cw (ws.map fun x => ⟨x.toArray⟩) ⟨sep.toArray⟩ w (fun j x hx => by
   rw [List.getElem?_map, Option.map_eq_some_iff] at hx
   obtain ⟨y, hy, rfl⟩ := hx
   exact hgc j _ (by unfold sw; rw [List.getElem?_map, hy]; rfl)) hg1 (by rw [List.length_map]; omega) (by rw [List.length_map]; exact hcw) (by rw [words_back]; exact Nat.le_trans hlen (by omega))
  rw [words_back, List.length_map] at hj
  exact hj.mono fun r w' ⟨h1, h2⟩ => ⟨h1, hs.tail.onto h2⟩
def joinL (l : List Int) : List UInt8 := Lib.join (l.map num) [32]
theorem joinL_len {l : List Int} (h : ∀ x ∈ l, I64 x) : (joinL l).length ≤ 21 * l.length := by
 have := join_len_le (l.map num) (fun x hx => by
  obtain ⟨y, hy, rfl⟩ := List.mem_map.1 hx
  exact num_len20 (h y hy))
 rwa [List.length_map] at this
theorem sw_take_succ {l : List Int} {j : Nat} {x : Int} (h : l[j]? = some x) : sw ((l.take (j + 1)).map num) = sw ((l.take j).map num) ++ [.string ⟨(num x).toArray⟩] := by
 rw [List.take_add_one, h, Option.toList_some, List.map_append, sw_append]; rfl
set_option maxRecDepth 40000 in
set_option maxHeartbeats 4000000 in
theorem join_any (w0 w : World) (v : Value) (l : List Int) (L : List HProp) (hp : Pow10 w0) (hl : l.length ≤ 100000) (hi : ∀ x ∈ l, I64 x) (hs : S w0 w (sl 3 1 v l.length (icells l) :: L)) :
  Calls Tryz.prog 63 #[v] w fun r w' => r = .returned (.string ⟨(joinL l).toArray⟩) ∧ S w0 w' L := by
 obtain ⟨a, cap, rfl, hc1, hc2, _⟩ := hs.sl_val
 unfold maxLen at hc2
 have hce : ∀ W (M : List HProp) j x, l[j]? = some x → S w0 W (sl 3 1 (.slice a l.length cap) l.length (icells l) :: M) → ∃ g o, a = some ⟨g, o, none⟩ ∧ W.cell? ⟨g, o + j, none⟩ = some (.int .i64 x) := fun W M j x hx h => by
  obtain ⟨a', c', e1, _, _, e4⟩ := h.sl_val
  simp only [Value.slice.injEq] at e1
  obtain ⟨rfl, _, _⟩ := e1
  obtain ⟨g, o, e5, e6, _⟩ := e4 j (.int .i64 x) (by unfold icells; rw [List.getElem?_map, hx]; rfl)
  exact ⟨g, o, e5, e6⟩
 have H0 := hid (S.sl_nil (e := 9) (size := 1) hs); have HCE := hid hce; have HP := hid hp; have HI := hid hi
 clear hs hce hp hi
 go_enter Tryz.func63, Tryz.ntmps63
 go_wp2_with fail
 go_loopw [3, 8] (fun wv c wr => ∃ j : Nat, j ≤ l.length ∧ c = .int .i64 j ∧ S w0 wr (sl 9 1 wv j (sw ((l.take j).map num)) :: sl 3 1 (.slice a l.length cap) l.length (icells l) :: L)) (fun _ c _ => l.length - (intOf c).toNat)
 case atStart => exact ⟨0, Nat.zero_le _, rfl, H0.out⟩
 case round =>
  rename World => wr
  obtain ⟨j, hj, rfl, hsr⟩ := hrel
  clear H0
  by_cases hlt : j < l.length
  ·obtain ⟨x, hx⟩ : ∃ x, l[j]? = some x := ⟨_, List.getElem?_eq_getElem hlt⟩
   obtain ⟨g, o, rfl, c0⟩ := HCE.out _ _ j x hx hsr.swap
   obtain ⟨al, cl, rfl, hcl, hcl2, _⟩ := hsr.sl_val
   have HA := hid (itoa_any x (HI.out x (List.mem_of_getElem? hx)) w0 wr _ HP.out hsr)
   have HST := hid (sw_take_succ hx)
   obtain ⟨i0, hi0, hz0, hz1, hz2⟩ := info_parts (show (Tryz.prog.info? 9).map (fun i => (i.zero, i.size, i.bytes)) = some (some (.string ByteArray.empty), 1, 16) by kernel_rfl)
   clear hsr hx
   go_wp2_with (first
    | (go_at_call 19; with_reducible refine HA.out.mono ?_; rintro r w3 ⟨rfl, hs3⟩; have hs4 := hs3.alloc #[.string ⟨(num x).toArray⟩] 9; have HN4 := hid (news_blk hs4); have H4 := hid hs4.tail; clear hs3 hs4)
    | (at_builtin; refine wpList_append rfl (.tmp 12) (.tmp 15) 46 rfl 9 i0 _ 1 16 Tryz.underlying46 hi0 hz0 hz1 hz2 rfl (by decide) H4.out rfl (some ⟨w3.heap.size, 0, none⟩) 1 1 [.string ⟨(num x).toArray⟩] rfl rfl HN4.out (by simp [Value.oneCell']) (by unfold maxLen; omega) (by omega) ?_; intro v1 w5 hs6; have H6 := hid hs6; clear hs6))
   go_roundw
   case rel => exact ⟨j + 1, by omega, by go_num, by rw [HST.out]; exact H6.out⟩
   case measure => simp [intOf]; omega
  ·obtain rfl : j = l.length := by omega
   rw [List.take_length] at hsr
   have hll := joinL_len HI.out
   have hml : (l.map num).length = l.length := List.length_map ..
   have hj2 := sjoin_any w0 wr _ (l.map num) [32] _ (by rw [hml]; omega) (by unfold joinL at hll; omega) (by rw [hml]; exact hsr)
   have HJ := hid hj2
   clear hsr hj2 hll hml
   go_wp2_with (go_at_call 64; with_reducible refine HJ.out.mono ?_; rintro r w6 ⟨rfl, hs6⟩; have H6 := hid hs6; clear hs6)
   go_ret
   exact ⟨rfl, H6.out.tail⟩
end Go.Proofs.YtdlkjppppdminaaGreatDoor
/- What a transaction wrote is a fine commit, whatever is asked. No walk in sight. -/
namespace Go.Proofs.YtdlkjppppdminaaGreatDoor
open Go Go.RowKit Go.Sep
section
variable {e : Eng} {N : Nat}
theorem writes_cases (e : Eng) (n : Int) : (e.writes n).2 = e.err n false ∧ ((e.writes n).1 = [] ∨ ∃ i : Nat, n = (i : Int) + 1 ∧ i < e.txs.length ∧ (e.writes n).1 = (e.tx i).written) := by
 unfold Eng.writes
 by_cases h : e.err n false ≠ 0
 ·rw [if_pos h]; exact ⟨rfl, .inl rfl⟩
 ·rw [if_neg h]
  have h0 := Classical.not_not.1 h
  refine ⟨h0.symm, .inr ?_⟩
  unfold Eng.err at h0
  split at h0
  ·exact absurd h0 (by decide)
  ·rename_i hc
   exact ⟨n.toNat - 1, by omega, by omega, rfl⟩
theorem keys_few : ∀ (l : Vers) (a : Int), l.Pairwise (fun p q => p.1 < q.1) → (∀ p ∈ l, a ≤ p.1 ∧ p.1 < 4) → a ≤ 4 → (l.length : Int) ≤ 4 - a
 | [], a, _, _, h => by simpa using h
 | p :: l, a, hp, hb, h => by
  rw [List.pairwise_cons] at hp
  have h1 := hb p (List.mem_cons_self ..)
  have := keys_few l (p.1 + 1) hp.2 (fun q hq => ⟨by have := hp.1 q hq; omega, (hb q (List.mem_cons_of_mem _ hq)).2⟩) (by omega)
  rw [List.length_cons]; omega
theorem Good.few {l : Vers} (h : Good l) : l.length ≤ 4 := by
 have := keys_few l 0 h.1 (fun p hp => (h.2 p hp).1) (by omega)
 omega
end
end Go.Proofs.YtdlkjppppdminaaGreatDoor
/- base.Open: the walk. -/
namespace Go.Proofs.YtdlkjppppdminaaGreatDoor
open Go Go.RowKit Go.Sep
end Go.Proofs.YtdlkjppppdminaaGreatDoor
/- base.Commit: the walk. Condition: the package variable errors.errorType holds the handle of the type error. -/
namespace Go.Proofs.YtdlkjppppdminaaGreatDoor
open Go Go.RowKit Go.Sep
structure Bas where
 dsk : Dsk
 eng : Eng
 used : Nat
 down : Bool
 torn : Int
noncomputable def Bas.commit (B : Bas) (n : Int) : Bas × Int :=
 if (B.eng.writes n).2 ≠ 0 then (B, (B.eng.writes n).2) else
 if B.eng.ready n ≠ 0 ∨ (B.eng.writes n).1 = [] then ({ B with eng := (B.eng.commit n).1 }, B.eng.ready n) else
 if B.down = true then (B, 6) else
 if 250 ≤ B.used then (B, 4) else
 if B.dsk.off = true then ({ B with dsk := B.dsk.tear B.used (sealL B.used (B.eng.writes n).1) B.torn, down := true }, 14) else
 ({ B with dsk := B.dsk.put B.used (sealL B.used (B.eng.writes n).1), used := B.used + 1, eng := (B.eng.commit n).1 }, 0)
def SealOk (w0 : World) (k : Nat) (l : Vers) : Prop :=
 (sealL k l).length ≤ 1000000 ∧ ∀ W (M : List HProp) v, S w0 W M → RdK w0 M v l.length (pcells l) →
  Calls Tryz.prog 52 #[.int .i64 k, v] W fun r w' => r = .returned (.string ⟨(sealL k l).toArray⟩) ∧ S w0 w' M
theorem seal_pos (k : Nat) (l : Vers) : 1 ≤ (sealL k l).length := by unfold sealL; rw [List.length_append, List.length_cons]; omega
set_option maxRecDepth 40000 in
set_option maxHeartbeats 8000000 in
theorem bcommit_any (w0 w : World) (b d eb : Nat) (bs : List Nat) (B : Bas) (n : Int) (L : List HProp) (N : Nat) (hE : ErrT w0) (hok : OkT N B.eng []) (hN : N ≤ 90000000) (hu : B.used ≤ 250)
  (hsl : (B.eng.writes n).1 ≠ [] → B.used < 250 → SealOk w0 B.used (B.eng.writes n).1)
  (hs : S w0 w (bseB b d (.pointer (some ⟨eb, 0, none⟩)) B.used B.down B.torn :: engP eb bs B.eng :: dskB d B.dsk :: L)) :
  Calls Tryz.prog 66 #[.pointer (some ⟨b, 0, none⟩), .int .i64 n] w fun r w' => r = .returned (errV (B.commit n).2) ∧
   S w0 w' (bseB b d (.pointer (some ⟨eb, 0, none⟩)) (B.commit n).1.used (B.commit n).1.down (B.commit n).1.torn :: engP eb bs (B.commit n).1.eng :: dskB d (B.commit n).1.dsk :: L) := by
 obtain ⟨D, e, used, down, torn⟩ := B
 simp only at *
 obtain ⟨B', hB'⟩ : ∃ B', B' = (Bas.mk D e used down torn).commit n := ⟨_, rfl⟩
 rw [← hB']
 unfold Bas.commit at hB'
 simp only at hB'
 have c1 := hs.blk_cell 1 rfl
 have hwr := ewrites_any w0 w eb bs e n _ N [] hok hs.swap
 have hcm := fun W (M : List HProp) (h : S w0 W (engP eb bs e :: M)) => ecommit_any w0 W eb bs e n M N hE hok hN h
 have hans := commit_ans e n
 have hrd : ∀ W (M : List HProp), S w0 W (engP eb bs e :: M) → Calls Tryz.prog 107 #[.pointer (some ⟨eb, 0, none⟩), .int .i64 n] W fun r w' => r = .returned (errV (e.ready n)) ∧ W = w' := fun W M h => by
  obtain ⟨k, h⟩ := h.eng_open
  exact ready_any w0 W eb bs k e n _ N [] hok (h.conv (M := engO eb bs k e :: storeP 99 eb 0 e.V e.last :: tabP 3 eb 11 e.t :: M) (by simp only [all]; ac_rfl))
 obtain ⟨l, hl⟩ : ∃ l, l = (e.writes n).1 := ⟨_, rfl⟩
 obtain ⟨x, hx⟩ : ∃ x, x = (e.writes n).2 := ⟨_, rfl⟩
 obtain ⟨y, hy⟩ : ∃ y, y = e.ready n := ⟨_, rfl⟩
 rw [← hl, ← hx] at hwr hB'
 rw [← hy] at hB' hans
 rw [← hl] at hsl
 have hrd2 : ∀ W (M : List HProp), S w0 W (engP eb bs e :: M) → Calls Tryz.prog 107 #[.pointer (some ⟨eb, 0, none⟩), .int .i64 n] W fun r w' => r = .returned (errV y) ∧ W = w' := by rw [hy]; exact hrd
 have hcm2 : ∀ W (M : List HProp), S w0 W (engP eb bs e :: M) → Calls Tryz.prog 108 #[.pointer (some ⟨eb, 0, none⟩), .int .i64 n] W fun r w' => r = .returned (errV y) ∧ S w0 w' (engP eb bs (e.commit n).1 :: M) := by rw [← hans]; exact hcm
 have hc0 : ∀ W (M : List HProp), S w0 W (bseB b d (.pointer (some ⟨eb, 0, none⟩)) used down torn :: M) → W.cell? ⟨b, 0, none⟩ = some (.pointer (some ⟨d, 0, none⟩)) ∧ W.cell? ⟨b, 1, none⟩ = some (.pointer (some ⟨eb, 0, none⟩)) ∧ W.cell? ⟨b, 2, none⟩ = some (.int .i64 used) ∧ W.cell? ⟨b, 3, none⟩ = some (.bool down) ∧ W.cell? ⟨b, 4, none⟩ = some (.int .i64 torn) ∧ ∀ j, W.frozen? ⟨b, j, none⟩ = false := fun W M h => ⟨h.blk_cell 0 rfl, h.blk_cell 1 rfl, h.blk_cell 2 rfl, h.blk_cell 3 rfl, h.blk_cell 4 rfl, fun j => h.blk_free j⟩
 have HW := hid hwr; have HR := hid hrd2; have HC := hid hcm2; have HB := hid hB'; have H0 := hid hc0; have HSL := hid hsl; have HS := hid hs
 clear hwr hcm hans hrd hl hx hy hrd2 hcm2 hB' hc0 hsl hs hok
 by_cases hx0 : x ≠ 0
 ·rw [errV_ne hx0] at HW
  have HBE : Hid (B' = (⟨D, e, used, down, torn⟩, x)) := hid (by rw [HB.out, if_pos hx0])
  clear HB HSL HC HR
  go_enter Tryz.func66, Tryz.ntmps66
  go_wp2_with fail
  with_reducible refine HW.out.mono ?_
  rintro r w1 ⟨v, rfl, hs1⟩
  have H1 := hid hs1
  clear hs1 HW
  go_wp2_with fail
  go_ret
  rw [HBE.out]
  exact ⟨by show _ = Ending.returned (errV x); rw [errV_ne hx0]; rfl, H1.out.tail.swap⟩
 obtain rfl : x = 0 := Classical.not_not.1 hx0
 rw [errV_0] at HW
 by_cases hy0 : y ≠ 0
 ·rw [errV_ne hy0] at HR
  have HBE : Hid (B' = (⟨D, (e.commit n).1, used, down, torn⟩, y)) := hid (by rw [HB.out, if_neg hx0, if_pos (.inl hy0)])
  clear HB HSL
  go_enter Tryz.func66, Tryz.ntmps66
  go_wp2_with fail
  with_reducible refine HW.out.mono ?_
  rintro r w1 ⟨v, rfl, hs1⟩
  obtain ⟨al, cl, rfl, _, _, _⟩ := hs1.sl_val
  obtain ⟨_, k1, _⟩ := H0.out _ _ hs1.tail.swap
  have H1 := hid hs1
  clear hs1 HW
  go_wp2_with (first
   | (go_at_call 107; with_reducible refine (HR.out _ _ H1.out.tail).mono ?_; rintro r w2 ⟨rfl, rfl⟩)
   | (go_at_call 108; with_reducible refine (HC.out _ _ H1.out.tail).mono ?_; rintro r w3 ⟨rfl, hs3⟩; have H3 := hid hs3; clear hs3))
  go_ret
  rw [HBE.out]
  exact ⟨rfl, H3.out.swap⟩
 obtain rfl : y = 0 := Classical.not_not.1 hy0
 rw [errV_0] at HR HC
 by_cases hl0 : l = []
 ·have HBE : Hid (B' = (⟨D, (e.commit n).1, used, down, torn⟩, 0)) := hid (by rw [HB.out, if_neg hx0, if_pos (.inr hl0)])
  clear HB HSL
  subst hl0
  go_enter Tryz.func66, Tryz.ntmps66
  go_wp2_with fail
  with_reducible refine HW.out.mono ?_
  rintro r w1 ⟨v, rfl, hs1⟩
  obtain ⟨al, cl, rfl, _, _, _⟩ := hs1.sl_val
  obtain ⟨_, k1, _⟩ := H0.out _ _ hs1.tail.swap
  have H1 := hid hs1
  clear hs1 HW
  go_wp2_with (first
   | (go_at_call 107; with_reducible refine (HR.out _ _ H1.out.tail).mono ?_; rintro r w2 ⟨rfl, rfl⟩)
   | (go_at_call 108; with_reducible refine (HC.out _ _ H1.out.tail).mono ?_; rintro r w3 ⟨rfl, hs3⟩; have H3 := hid hs3; clear hs3))
  go_ret
  rw [HBE.out]
  exact ⟨rfl, H3.out.swap⟩
 have hlp : 0 < l.length := List.length_pos_iff.2 hl0
 obtain ⟨c, hc⟩ : ∃ c, l.length = c := ⟨_, rfl⟩
 have hcb : ((c : Int) == 0) = false := by simp; omega
 have hnn : ¬ ((0 : Int) ≠ 0 ∨ l = []) := fun h => h.elim (fun h => h rfl) hl0
 have HCL := hid hc; have HNN := hid hnn
 clear hlp hc hnn
 by_cases hd : down = true
 ·have HBE : Hid (B' = (⟨D, e, used, down, torn⟩, 6)) := hid (by rw [HB.out, if_neg hx0, if_neg HNN.out, if_pos hd])
  clear HB HSL HC
  subst hd
  go_enter Tryz.func66, Tryz.ntmps66
  go_wp2_with fail
  with_reducible refine HW.out.mono ?_
  rw [HCL.out]
  rintro r w1 ⟨v, rfl, hs1⟩
  obtain ⟨al, cl, rfl, _, _, _⟩ := hs1.sl_val
  obtain ⟨_, k1, _, k3, _⟩ := H0.out _ _ hs1.tail.swap
  have H1 := hid hs1
  clear hs1 HW
  go_wp2_with (go_at_call 107; with_reducible refine (HR.out _ _ H1.out.tail).mono ?_; rintro r w2 ⟨rfl, rfl⟩)
  go_ret
  rw [HBE.out]
  exact ⟨rfl, H1.out.tail.swap⟩
 obtain rfl : down = false := by simpa using hd
 by_cases h250 : 250 ≤ used
 ·have hi250 : (250 : Int) ≤ (used : Int) := by omega
  have HBE : Hid (B' = (⟨D, e, used, false, torn⟩, 4)) := hid (by rw [HB.out, if_neg hx0, if_neg HNN.out, if_neg hd, if_pos h250])
  clear HB HSL HC
  go_enter Tryz.func66, Tryz.ntmps66
  go_wp2_with fail
  with_reducible refine HW.out.mono ?_
  rw [HCL.out]
  rintro r w1 ⟨v, rfl, hs1⟩
  obtain ⟨al, cl, rfl, _, _, _⟩ := hs1.sl_val
  obtain ⟨_, k1, k2, k3, _⟩ := H0.out _ _ hs1.tail.swap
  have H1 := hid hs1
  clear hs1 HW
  go_wp2_with (go_at_call 107; with_reducible refine (HR.out _ _ H1.out.tail).mono ?_; rintro r w2 ⟨rfl, rfl⟩)
  go_ret
  rw [HBE.out]
  exact ⟨rfl, H1.out.tail.swap⟩
 have hi250 : ¬ (250 : Int) ≤ (used : Int) := by omega
 obtain ⟨hse1, hse2⟩ := HSL.out hl0 (by omega)
 have hsp := seal_pos used l
 by_cases ho : D.off = true
 ·have hwo := fun W (M : List HProp) (h : S w0 W (dskB d D :: M)) => dwrite_off w0 W d D used (sealL used l) torn M (by omega) ⟨hsp, hse1⟩ ho h
  simp only [errV_ne (show (14 : Int) ≠ 0 by decide)] at hwo
  have HWO := hid hwo; have HSE := hid hse2
  have hbe : B' = (⟨D.tear used (sealL used l) torn, e, used, true, torn⟩, 14) := by rw [HB.out, if_neg hx0, if_neg HNN.out, if_neg hd, if_neg h250, if_pos ho]
  clear hwo hse1 hse2 hsp HC HSL HB
  generalize sealL used l = sq at *
  have HBE := hid hbe
  clear hbe
  go_enter Tryz.func66, Tryz.ntmps66
  go_wp2_with fail
  with_reducible refine HW.out.mono ?_
  have hcl := HCL.out
  rw [hcl]
  rintro r w1 ⟨v, rfl, hs1⟩
  have HRD := hid (RdK.own (w0 := w0) (v := v) (n := c) (xs := pcells l) (e := 91) (size := 2) (L := engP eb bs e :: bseB b d (.pointer (some ⟨eb, 0, none⟩)) used false torn :: dskB d D :: L))
  obtain ⟨al, cl, rfl, _, _, _⟩ := hs1.sl_val
  obtain ⟨k0, k1, k2, k3, k4, _⟩ := H0.out _ _ hs1.tail.swap
  have hs2 : S w0 w1.drew _ := hs1.drew
  have q0 := H0.out _ _ hs2.tail.swap
  have q0' := And.intro q0.1 (And.intro q0.2.2.1 q0.2.2.2.2.1)
  have H1 := hid hs1
  have hsc := HSE.out _ _ (.slice al c cl) hs2 (by rw [hcl]; exact HRD.out)
  have HSC := hid hsc
  clear hs1 HW q0 hcl hs2 hsc
  go_upto_region 10 with (go_at_call 107; with_reducible refine (HR.out _ _ H1.out.tail).mono ?_; rintro r w2 ⟨rfl, rfl⟩)
  go_region_held_law (fun w' => w'.cell? ⟨b, 0, none⟩ = some (.pointer (some ⟨d, 0, none⟩)) ∧ w'.cell? ⟨b, 2, none⟩ = some (.int .i64 used) ∧ w'.cell? ⟨b, 4, none⟩ = some (.int .i64 torn)) (first | (with_reducible assumption) | (with_reducible exact ⟨k0, k2, k4⟩) | (with_reducible exact q0') | (with_reducible exact q1) | (with_reducible exact q2))
   (first
    | (go_at_call 52; with_reducible refine HSC.out.mono ?_; rintro r w5 ⟨rfl, hs5⟩; have q1 := (fun h => And.intro (And.left h) (And.intro (And.left (And.right (And.right h))) (And.left (And.right (And.right (And.right (And.right h))))))) (H0.out _ _ hs5.tail.swap); have H5 := hid hs5; clear hs5)
    | (go_at_call 109; with_reducible refine (HWO.out _ _ (H5.out.tail.conv (M := dskB d D :: bseB b d (.pointer (some ⟨eb, 0, none⟩)) used false torn :: engP eb bs e :: L) (by simp only [all]; ac_rfl))).mono ?_; rintro r w6 ⟨rfl, hs6⟩; have q2 := (fun h => And.intro (And.left h) (And.intro (And.left (And.right (And.right h))) (And.left (And.right (And.right (And.right (And.right h))))))) (H0.out _ _ hs6.tail); have H6 := hid hs6; clear hs6))
  have h6 : S w0 _ (bseB b d (.pointer (some ⟨eb, 0, none⟩)) used false torn :: engP eb bs e :: dskB d (D.tear used sq torn) :: L) := H6.out.conv (by simp only [all]; ac_rfl)
  have k34 := (H0.out _ _ h6).2.2.2.2.2 3
  have k33 := (H0.out _ _ h6).2.2.2.1
  have H7 := hid (h6.blk_set 3 (by simp) (.bool true))
  clear h6 k0 k1 k2 k3 k4
  go_wp2_with fail
  go_ret
  rw [HBE.out]
  exact ⟨rfl, H7.out⟩
 ·have hwo := fun W (M : List HProp) (h : S w0 W (dskB d D :: M)) => dwrite_on w0 W d D used (sealL used l) torn M (by omega) (by simpa using ho) h
  have HWO := hid hwo; have HSE := hid hse2
  have hbe : B' = (⟨D.put used (sealL used l), (e.commit n).1, used + 1, false, torn⟩, 0) := by rw [HB.out, if_neg hx0, if_neg HNN.out, if_neg hd, if_neg h250, if_neg ho]
  clear hwo hse1 hse2 hsp HSL HB
  generalize sealL used l = sq at *
  have HBE := hid hbe
  clear hbe
  go_enter Tryz.func66, Tryz.ntmps66
  go_wp2_with fail
  with_reducible refine HW.out.mono ?_
  have hcl := HCL.out
  rw [hcl]
  rintro r w1 ⟨v, rfl, hs1⟩
  have HRD := hid (RdK.own (w0 := w0) (v := v) (n := c) (xs := pcells l) (e := 91) (size := 2) (L := engP eb bs e :: bseB b d (.pointer (some ⟨eb, 0, none⟩)) used false torn :: dskB d D :: L))
  obtain ⟨al, cl, rfl, _, _, _⟩ := hs1.sl_val
  obtain ⟨k0, k1, k2, k3, k4, _⟩ := H0.out _ _ hs1.tail.swap
  have hs2 : S w0 w1.drew _ := hs1.drew
  have q0 := H0.out _ _ hs2.tail.swap
  have q0' := And.intro q0.1 (And.intro q0.2.2.1 q0.2.2.2.2.1)
  have H1 := hid hs1
  have hsc := HSE.out _ _ (.slice al c cl) hs2 (by rw [hcl]; exact HRD.out)
  have HSC := hid hsc
  clear hs1 HW q0 hcl hs2 hsc
  go_upto_region 10 with (go_at_call 107; with_reducible refine (HR.out _ _ H1.out.tail).mono ?_; rintro r w2 ⟨rfl, rfl⟩)
  go_region_held_law (fun w' => w'.cell? ⟨b, 0, none⟩ = some (.pointer (some ⟨d, 0, none⟩)) ∧ w'.cell? ⟨b, 2, none⟩ = some (.int .i64 used) ∧ w'.cell? ⟨b, 4, none⟩ = some (.int .i64 torn)) (first | (with_reducible assumption) | (with_reducible exact ⟨k0, k2, k4⟩) | (with_reducible exact q0') | (with_reducible exact q1) | (with_reducible exact q2))
   (first
    | (go_at_call 52; with_reducible refine HSC.out.mono ?_; rintro r w5 ⟨rfl, hs5⟩; have q1 := (fun h => And.intro (And.left h) (And.intro (And.left (And.right (And.right h))) (And.left (And.right (And.right (And.right (And.right h))))))) (H0.out _ _ hs5.tail.swap); have H5 := hid hs5; clear hs5)
    | (go_at_call 109; with_reducible refine (HWO.out _ _ (H5.out.tail.conv (M := dskB d D :: bseB b d (.pointer (some ⟨eb, 0, none⟩)) used false torn :: engP eb bs e :: L) (by simp only [all]; ac_rfl))).mono ?_; rintro r w6 ⟨rfl, hs6⟩; have q2 := (fun h => And.intro (And.left h) (And.intro (And.left (And.right (And.right h))) (And.left (And.right (And.right (And.right (And.right h))))))) (H0.out _ _ hs6.tail); have H6 := hid hs6; clear hs6))
  have h6 : S w0 _ (bseB b d (.pointer (some ⟨eb, 0, none⟩)) used false torn :: engP eb bs e :: dskB d (D.put used sq) :: L) := H6.out.conv (by simp only [all]; ac_rfl)
  have k24 := (H0.out _ _ h6).2.2.2.2.2 2
  have k22 := (H0.out _ _ h6).2.2.1
  have hcu : ((used + 1 : Nat) : Int) = (used : Int) + 1 := by omega
  have h7 : S w0 (w6.setCell ⟨b, 2, none⟩ (.int .i64 ((used : Int) + 1))) (bseB b d (.pointer (some ⟨eb, 0, none⟩)) (used + 1) false torn :: engP eb bs e :: dskB d (D.put used sq) :: L) := by
   rw [← hcu]
   exact h6.blk_set 2 (by simp) (.int .i64 ((used + 1 : Nat) : Int))
  have k11 := (H0.out _ _ h6).2.1
  have H7 := hid h7
  have hwr1 : wrap64 ((used : Int) + 1) = (used : Int) + 1 := IntWalk.wrap64_in _ ⟨by omega, by omega⟩
  clear h6 h7 k0 k1 k2 k3 k4 hcu
  go_wp2_with (go_at_call 108; with_reducible refine (HC.out _ _ H7.out.swap).mono ?_; rintro r w8 ⟨rfl, hs8⟩; have H8 := hid hs8; clear hs8)
  go_ret
  rw [HBE.out]
  exact ⟨rfl, H8.out.swap⟩
end Go.Proofs.YtdlkjppppdminaaGreatDoor
namespace Go.Proofs.YtdlkjppppdminaaGreatDoor
open Go Go.RowKit Go.Sep
set_option maxRecDepth 40000 in
theorem bengine_any (w0 w : World) (b d : Nat) (e : Value) (used : Nat) (down : Bool) (torn : Int) (L : List HProp) (hs : S w0 w (bseB b d e used down torn :: L)) :
  Calls Tryz.prog 101 #[.pointer (some ⟨b, 0, none⟩)] w fun r w' => r = .returned e ∧ w = w' := by
 have c := hs.blk_cell 1 rfl
 clear hs
 go_enter Tryz.func101, Tryz.ntmps101
 go_wp2_with fail
 go_ret
 exact ⟨rfl, rfl⟩
set_option maxRecDepth 40000 in
theorem bused_any (w0 w : World) (b d : Nat) (e : Value) (used : Nat) (down : Bool) (torn : Int) (L : List HProp) (hs : S w0 w (bseB b d e used down torn :: L)) :
  Calls Tryz.prog 73 #[.pointer (some ⟨b, 0, none⟩)] w fun r w' => r = .returned (.int .i64 used) ∧ w = w' := by
 have c := hs.blk_cell 2 rfl
 clear hs
 go_enter Tryz.func73, Tryz.ntmps73
 go_wp2_with fail
 go_ret
 exact ⟨rfl, rfl⟩
set_option maxRecDepth 40000 in
theorem bdown_any (w0 w : World) (b d : Nat) (e : Value) (used : Nat) (down : Bool) (torn : Int) (L : List HProp) (hs : S w0 w (bseB b d e used down torn :: L)) :
  Calls Tryz.prog 75 #[.pointer (some ⟨b, 0, none⟩)] w fun r w' => r = .returned (.bool down) ∧ w = w' := by
 have c := hs.blk_cell 3 rfl
 clear hs
 go_enter Tryz.func75, Tryz.ntmps75
 go_wp2_with fail
 go_ret
 exact ⟨rfl, rfl⟩
set_option maxRecDepth 40000 in
theorem btorn_any (w0 w : World) (b d : Nat) (e : Value) (used : Nat) (down : Bool) (torn t2 : Int) (L : List HProp) (hs : S w0 w (bseB b d e used down torn :: L)) :
  Calls Tryz.prog 67 #[.pointer (some ⟨b, 0, none⟩), .int .i64 t2] w fun r w' => r = .returned (.tuple #[]) ∧ S w0 w' (bseB b d e used down t2 :: L) := by
 have c := hs.blk_cell 4 rfl
 have f := hs.blk_free 4
 have H : Hid (S w0 _ (bseB b d e used down t2 :: L)) := hid (hs.blk_set 4 (by simp) (.int .i64 t2))
 clear hs
 go_enter Tryz.func67, Tryz.ntmps67
 go_wp2_with fail
 go_end0
 exact ⟨rfl, H.out⟩
theorem zero_disk : Tryz.zeroCells28.toList = dskV Dsk.zero := by kernel_rfl
theorem dsk_made {w0 w : World} {b : Nat} {L : List HProp} (h : S w0 w (blk b 28 Tryz.zeroCells28.toList :: L)) : S w0 w (dskB b Dsk.zero :: L) := by
 rw [zero_disk] at h
 exact .dsk_shut (List.length_replicate ..) h
end Go.Proofs.YtdlkjppppdminaaGreatDoor
