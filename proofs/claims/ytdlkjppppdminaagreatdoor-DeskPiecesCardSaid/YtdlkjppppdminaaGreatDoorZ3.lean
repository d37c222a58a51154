/- The program's table of locks: one is struck from a line. -/
import Derived.Test.YtdlkjppppdminaaGreatDoorZ0
import Derived.Test.YtdlkjppppdminaaGreatDoorZ2
import Derived.Lib.SliceRun
import Derived.WalkKit
import Derived.Test.YtdlkjppppdminaaGreatDoorZ1
/- Transactions at the same time: what comes of one that is gone, step by step; what holds of an engine at each step. No walk in sight. -/
namespace Go.Proofs.YtdlkjppppdminaaGreatDoor
open Go Go.RowKit Go.Sep
theorem countP_modify {α : Type} (p : α → Bool) (f : α → α) : ∀ (l : List α) (i : Nat) (h : i < l.length), (l.modify i f).countP p + (if p l[i] = true then 1 else 0) = l.countP p + (if p (f l[i]) = true then 1 else 0)
 | a :: l, 0, _ => by simp only [List.modify_zero_cons, List.countP_cons, List.getElem_cons_zero]; omega
 | a :: l, i + 1, h => by
  have := countP_modify p f l i (by simpa using h)
  simp only [List.modify_succ_cons, List.countP_cons, List.getElem_cons_succ]; omega
variable {e e' : Eng} {i j : Nat} {T : List Tx}
theorem Eng.tx_some (h : i < e.txs.length) : e.txs[i]? = some (e.tx i) := by unfold Eng.tx; simp [h]
theorem Eng.tx_eq {x : Tx} (h : e.txs[i]? = some x) : e.tx i = x := by unfold Eng.tx; simp [h]
theorem Eng.tx_mem (h : i < e.txs.length) : e.tx i ∈ e.txs := List.mem_of_getElem? (Eng.tx_some h)
theorem Eng.mem_tx {x : Tx} (h : x ∈ e.txs) : ∃ i, i < e.txs.length ∧ e.tx i = x := by
 obtain ⟨i, hi⟩ := List.getElem?_of_mem h
 exact ⟨i, (List.getElem?_eq_some_iff.1 hi).1, Eng.tx_eq hi⟩
theorem Eng.upd_len (e : Eng) (i : Nat) (f : Tx → Tx) : (e.upd i f).txs.length = e.txs.length := by simp [Eng.upd]
theorem Eng.upd_tx (e : Eng) (i : Nat) (f : Tx → Tx) (j : Nat) : (e.upd i f).tx j = if i = j ∧ j < e.txs.length then f (e.tx j) else e.tx j := by
 unfold Eng.upd Eng.tx
 simp only [List.getElem?_modify]
 by_cases h : i = j
 ·subst h
  by_cases hl : i < e.txs.length
  ·simp [hl]
  ·simp [hl]
 ·simp [h]
theorem Eng.upd_self (h : i < e.txs.length) (f : Tx → Tx) : (e.upd i f).tx i = f (e.tx i) := by rw [Eng.upd_tx, if_pos ⟨rfl, h⟩]
theorem Eng.upd_ne (h : i ≠ j) (f : Tx → Tx) : (e.upd i f).tx j = e.tx j := by rw [Eng.upd_tx, if_neg (fun x => h x.1)]
theorem Eng.upd_keep {β : Type} (g : Tx → β) (f : Tx → Tx) (hg : ∀ x, g (f x) = g x) (j : Nat) : g ((e.upd i f).tx j) = g (e.tx j) := by
 rw [Eng.upd_tx]; split
 ·exact hg _
 ·rfl
theorem Eng.upd_set (h : i < e.txs.length) (f : Tx → Tx) : (e.upd i f).txs = e.txs.set i (f (e.tx i)) := by
 unfold Eng.upd Eng.tx
 apply List.ext_getElem?
 intro j
 simp only [List.getElem?_modify, List.getElem?_set]
 by_cases hj : i = j
 ·subst hj; simp [h]
 ·simp [hj]
theorem Eng.note_len (e : Eng) (a b : Nat) : (e.note a b).txs.length = e.txs.length := by simp [Eng.note, Eng.upd]
theorem Eng.note_keep {β : Type} (g : Tx → β) (hg : ∀ x l, g { x with aft := l } = g x) (hf : ∀ x l, g { x with fore := l } = g x) (a b j : Nat) : g ((e.note a b).tx j) = g (e.tx j) := by
 unfold Eng.note
 rw [Eng.upd_keep g _ (fun x => hf x _), Eng.upd_keep g _ (fun x => hg x _)]
theorem Eng.mark_len (e : Eng) (i : Nat) (why : Int) : (e.mark i why).txs.length = e.txs.length := by simp [Eng.mark, Eng.upd]
theorem Eng.mark_tx (e : Eng) (i : Nat) (why : Int) (j : Nat) : (e.mark i why).tx j = if i = j ∧ j < e.txs.length then { e.tx j with state := 3, why := why, ended := e.count + 1 } else e.tx j := Eng.upd_tx e i _ j
def Eng.many (e : Eng) (p : Tx → Bool) : Nat := e.txs.countP p
theorem Eng.many_upd (h : i < e.txs.length) (p : Tx → Bool) (f : Tx → Tx) : (e.upd i f).many p + (if p (e.tx i) = true then 1 else 0) = e.many p + (if p (f (e.tx i)) = true then 1 else 0) := by
 have := countP_modify p f e.txs i h
 have e1 : e.txs[i] = e.tx i := by unfold Eng.tx; simp [h]
 rw [e1] at this; exact this
theorem Eng.many_keep (p : Tx → Bool) (f : Tx → Tx) (hp : ∀ x, p (f x) = p x) : (e.upd i f).many p = e.many p := by
 by_cases h : i < e.txs.length
 ·have := Eng.many_upd h p f
  rw [hp] at this; omega
 ·unfold Eng.upd Eng.many
  simp only
  rw [List.modify_eq_self (by omega)]
theorem Eng.many_pos (h : i < e.txs.length) {p : Tx → Bool} (hp : p (e.tx i) = true) : 1 ≤ e.many p := List.countP_pos_iff.2 ⟨_, Eng.tx_mem h, hp⟩
def Tx.waits (x : Tx) : Bool := decide (x.state = 1)
inductive Task where
 | hand (w : Int × Int)
 | put (i : Nat) (w : Int × Int)
 | ask (i : Nat) (key : Int) (l : List Nat)
def Task.who : Task → Nat
 | .hand w => w.2.toNat - 1
 | .put i _ => i
 | .ask i _ _ => i
inductive Runs : Eng → List Task → Eng → Prop where
 | done (e : Eng) : Runs e [] e
 | hand {e e' : Eng} {w : Int × Int} {T : List Task} (h : Runs (e.opens (w.2.toNat - 1)) (.put (w.2.toNat - 1) (e.tx (w.2.toNat - 1)).want :: T) e') : Runs e (.hand w :: T) e'
 | late {e e' : Eng} {i : Nat} {w : Int × Int} {T : List Task} (hl : e.late i w.1) (h : Runs (e.left i 10) ((e.heirs i).map .hand ++ T) e') : Runs e (.put i w :: T) e'
 | put {e e' : Eng} {i : Nat} {w : Int × Int} {T : List Task} (hl : ¬ e.late i w.1) (h2 : (e.tx i).level ≠ 2) (h : Runs (e.wput i w) T e') : Runs e (.put i w :: T) e'
 | puts {e e' : Eng} {i : Nat} {w : Int × Int} {T : List Task} (hl : ¬ e.late i w.1) (h2 : (e.tx i).level = 2) (h : Runs (e.wput i w) (.ask i w.1 (List.range e.txs.length) :: T) e') : Runs e (.put i w :: T) e'
 | asked {e e' : Eng} {i : Nat} {key : Int} {T : List Task} (h : Runs e T e') : Runs e (.ask i key [] :: T) e'
 | skip {e e' : Eng} {i j : Nat} {key : Int} {l : List Nat} {T : List Task} (hs : skips e i key j = true) (h : Runs e (.ask i key l :: T) e') : Runs e (.ask i key (j :: l) :: T) e'
 | note {e e' : Eng} {i j : Nat} {key : Int} {l : List Nat} {T : List Task} (hs : skips e i key j = false) (hb : (e.note j i).bad j i = false) (h : Runs (e.note j i) (.ask i key l :: T) e') : Runs e (.ask i key (j :: l) :: T) e'
 | wrong {e e' : Eng} {i j : Nat} {key : Int} {l : List Nat} {T : List Task} (hs : skips e i key j = false) (hb : (e.note j i).bad j i = true) (h : Runs ((e.note j i).left i 13) (((e.note j i).heirs i).map .hand ++ T) e') : Runs e (.ask i key (j :: l) :: T) e'
def slack : Task → Nat
 | .hand _ => 0
 | .put _ _ => 200
 | .ask _ _ l => l.length
def slacks (T : List Task) : Nat := (T.map slack).sum
structure Task.ok (e : Eng) (T : Task) : Prop where
 lt : T.who < e.txs.length
 hand : ∀ w, T = .hand w → 1 ≤ w.2 ∧ (e.tx T.who).state = 1 ∧ mget e.t.wait w.2 = none
 put : ∀ i w, T = .put i w → (e.tx i).state = 0 ∧ keyOk w.1 ∧ valOk w.2 ∧ mget e.t.wait ((i : Int) + 1) = none
 ask : ∀ i key l, T = .ask i key l → (e.tx i).state = 0 ∧ (e.tx i).level = 2 ∧ keyOk key ∧ (∀ j ∈ l, j < e.txs.length) ∧ mget e.t.wait ((i : Int) + 1) = none
structure TabOk (e : Eng) (Q : Int → List Int) : Prop where
 tab : TabR e.t Q
 rk : ∃ r, Rk Q r
 hold : (e.t.hold.map (·.1)).Nodup
 key : ∀ k, ∀ x ∈ Q k, keyOk k ∧ 1 ≤ x ∧ x ≤ e.txs.length
 alive : ∀ k, ∀ x ∈ Q k, (e.tx (x.toNat - 1)).alive = true
 waits : ∀ k, ∀ x ∈ (Q k).tail, (e.tx (x.toNat - 1)).state = 1
structure TxOk (n : Nat) (x : Tx) : Prop where
 state : 0 ≤ x.state ∧ x.state ≤ 3
 refs : ∀ j ∈ x.fore ++ x.aft, j < n
 want : keyOk x.want.1 ∧ valOk x.want.2
 own : ∀ p ∈ x.writes, keyOk p.1 ∧ valOk p.2
 keys : (x.writes.map (·.1)).Nodup
structure OkT (N : Nat) (e : Eng) (T : List Task) : Prop where
 few : e.txs.length ≤ 200
 v10 : e.V.length = 10
 txs : ∀ x ∈ e.txs, TxOk e.txs.length x
 wr : ∀ k v, mget e.wr k = some v → 1 ≤ v ∧ v ≤ e.txs.length ∧ (e.tx (v.toNat - 1)).state = 2
 tab : ∃ Q, TabOk e Q
 all : ∀ j, j < e.txs.length → (e.tx j).state = 1 → mget e.t.wait ((j : Int) + 1) ≠ none ∨ ∃ w, .hand w ∈ T ∧ w.2 = (j : Int) + 1
 six : e.open_ ≤ 6
 cnt : 0 ≤ e.count ∧ e.count + e.open_ ≤ 2 * e.txs.length
 rows : ∀ vs ∈ e.V, (vs.length : Int) ≤ e.count + 1
 wrs : (e.wr.length : Int) ≤ e.count
 last : 0 ≤ e.last ∧ e.last ≤ 1099511627776
 hist : (e.hist.length : Int) ≤ e.count * ((N : Int) + 10)
 reads : ∀ x ∈ e.txs, x.reads.length ≤ N
 fits : ∀ x ∈ e.txs, x.fore.length + 200 * e.many Tx.waits + slacks T ≤ N ∧ x.aft.length + 200 * e.many Tx.waits + slacks T ≤ N
 ok : ∀ t ∈ T, t.ok e
 apart : (T.map Task.who).Nodup
theorem OkT.start : OkT 10 Eng.zero [] := by
 refine ⟨by simp [Eng.zero], by simp [Eng.zero], by simp [Eng.zero], by simp [Eng.zero, mget_nil], ⟨fun _ => [], TabR.start, ⟨fun _ => 0, by intro k x hx; simp at hx⟩, by simp [Eng.zero], by simp, by simp, by simp⟩, by simp [Eng.zero], by simp [Eng.open_, Eng.zero], by simp [Eng.open_, Eng.zero], ?_, by simp [Eng.zero], by simp [Eng.zero], by simp [Eng.zero], by simp [Eng.zero], by simp [Eng.zero], by simp, by simp⟩
 intro vs hv
 simp only [Eng.zero, List.mem_replicate] at hv
 rw [hv.2]; simp [Eng.zero]
variable {N : Nat} {U : List Task}
theorem OkT.at (h : OkT N e U) (hi : i < e.txs.length) : TxOk e.txs.length (e.tx i) := h.txs _ (Eng.tx_mem hi)
theorem OkT.who_ne {t : Task} (h : OkT N e (t :: U)) : ∀ u ∈ U, u.who ≠ t.who := by
 have := h.apart
 rw [List.map_cons, List.nodup_cons] at this
 intro u hu he
 exact this.1 (List.mem_map.2 ⟨u, hu, he⟩)
theorem Task.ok.upd {t : Task} (h : t.ok e) (hne : t.who ≠ i) (f : Tx → Tx) : t.ok (e.upd i f) := by
 have hx := Eng.upd_ne (e := e) (i := i) (Ne.symm hne) f
 refine ⟨by rw [Eng.upd_len]; exact h.lt, fun w hw => ?_, fun j w hw => ?_, fun j key l hw => ?_⟩
 ·rw [hx]; exact h.hand w hw
 ·subst hw; have := h.put j w rfl; rw [show (e.upd i f).tx j = e.tx j from hx]; exact this
 ·subst hw; have := h.ask j key l rfl; rw [show (e.upd i f).tx j = e.tx j from hx, Eng.upd_len]; exact this
theorem TabOk.upd {Q : Int → List Int} (h : TabOk e Q) (f : Tx → Tx) (ha : ∀ k, ∀ x ∈ Q k, x.toNat - 1 = i → (f (e.tx i)).alive = true) (hw : ∀ k, ∀ x ∈ (Q k).tail, x.toNat - 1 = i → (f (e.tx i)).state = 1) : TabOk (e.upd i f) Q := by
 refine ⟨h.tab, h.rk, h.hold, fun k x hx => by rw [Eng.upd_len]; exact h.key k x hx, fun k x hx => ?_, fun k x hx => ?_⟩
 ·rw [Eng.upd_tx]; split
  ·rename_i hc; rw [← hc.1]; exact ha k x hx hc.1.symm
  ·exact h.alive k x hx
 ·rw [Eng.upd_tx]; split
  ·rename_i hc; rw [← hc.1]; exact hw k x hx hc.1.symm
  ·exact h.waits k x hx
theorem Eng.upd_all {p : Tx → Prop} {f : Tx → Tx} (h : ∀ x ∈ e.txs, p x) (hf : i < e.txs.length → p (f (e.tx i))) : ∀ x ∈ (e.upd i f).txs, p x := by
 intro x hx
 obtain ⟨j, hj, rfl⟩ := Eng.mem_tx hx
 rw [Eng.upd_len] at hj
 rw [Eng.upd_tx]
 split
 ·rename_i hc; rw [← hc.1]; exact hf (by rw [hc.1]; exact hj)
 ·exact h _ (Eng.tx_mem hj)
theorem TabOk.not_wait {Q : Int → List Int} (h : TabOk e Q) {x : Int} (hs : (e.tx (x.toNat - 1)).state ≠ 1) : mget e.t.wait x = none := by
 cases hw : mget e.t.wait x with
 | none => rfl
 | some k => exact absurd (h.waits k x ((h.tab.wait x k).1 hw)) hs
theorem OkT.hand {w : Int × Int} (h : OkT N e (.hand w :: U)) : OkT N (e.opens (w.2.toNat - 1)) (.put (w.2.toNat - 1) (e.tx (w.2.toNat - 1)).want :: U) := by
 have ho := h.ok _ (List.mem_cons_self ..)
 obtain ⟨h1, h2, h3⟩ := ho.hand w rfl
 have hlt := ho.lt
 have hne := h.who_ne
 simp only [Task.who] at h2 hlt hne
 have hw : ((w.2.toNat - 1 : Nat) : Int) + 1 = w.2 := by omega
 have hm1 := Eng.many_upd hlt Tx.alive (fun x => { x with state := 0 })
 have hm2 := Eng.many_upd hlt Tx.waits (fun x => { x with state := 0 })
 have ha : (e.tx (w.2.toNat - 1)).alive = true := by simp [Tx.alive, h2]
 have hb : (e.tx (w.2.toNat - 1)).waits = true := by simp [Tx.waits, h2]
 rw [if_pos ha, if_pos (by simp [Tx.alive])] at hm1
 rw [if_pos hb, if_neg (by simp [Tx.waits])] at hm2
 have hop : (e.opens (w.2.toNat - 1)).open_ = e.open_ := by unfold Eng.many at hm1; unfold Eng.opens Eng.open_; omega
 obtain ⟨Q, hQ⟩ := h.tab
 have hnw : ∀ k, w.2 ∉ (Q k).tail := hQ.tab.none_wait.1 h3
 refine ⟨by unfold Eng.opens; rw [Eng.upd_len]; exact h.few, h.v10, ?_, fun k v hk => ?_, ⟨Q, hQ.upd _ (fun k x hx e1 => by simp [Tx.alive]) (fun k x hx e1 => ?_)⟩, fun j hj hs => ?_, by rw [hop]; exact h.six, by rw [hop]; unfold Eng.opens; rw [Eng.upd_len]; exact h.cnt, h.rows, h.wrs, h.last, h.hist, ?_, ?_, ?_, ?_⟩
 ·unfold Eng.opens
  rw [Eng.upd_len]
  exact Eng.upd_all h.txs fun hi => by have := h.at hi; exact ⟨by simp, this.refs, this.want, this.own, this.keys⟩
 ·obtain ⟨g1, g2, g3⟩ := h.wr k v hk
  unfold Eng.opens
  rw [Eng.upd_len, Eng.upd_ne]
  ·exact ⟨g1, g2, g3⟩
  ·intro e1; rw [← e1, h2] at g3; omega
 ·exfalso
  have := (hQ.key k x (List.mem_of_mem_tail hx)).2.1
  have : x = w.2 := by omega
  subst this; exact hnw k hx
 ·unfold Eng.opens at hj hs
  rw [Eng.upd_len] at hj
  rw [Eng.upd_tx] at hs
  split at hs
  ·simp at hs
  ·rename_i hc
   rcases h.all j hj hs with g | ⟨w', g1, g2⟩
   ·exact .inl g
   ·right
    refine ⟨w', ?_, g2⟩
    rcases List.mem_cons.1 g1 with g1 | g1
    ·cases g1; exact absurd ⟨by omega, hj⟩ hc
    ·exact List.mem_cons_of_mem _ g1
 ·unfold Eng.opens; exact Eng.upd_all (p := fun x => x.reads.length ≤ N) h.reads fun hi => h.reads (e.tx _) (Eng.tx_mem hi)
 ·have hk : slacks (.put (w.2.toNat - 1) (e.tx (w.2.toNat - 1)).want :: U) = slacks (.hand w :: U) + 200 := by simp only [slacks, List.map_cons, List.sum_cons, slack]; omega
  have hmm : (e.opens (w.2.toNat - 1)).many Tx.waits + 1 = e.many Tx.waits := by unfold Eng.opens; omega
  have : ∀ x ∈ e.txs, x.fore.length + 200 * (e.opens (w.2.toNat - 1)).many Tx.waits + slacks (.put (w.2.toNat - 1) (e.tx (w.2.toNat - 1)).want :: U) ≤ N ∧ x.aft.length + 200 * (e.opens (w.2.toNat - 1)).many Tx.waits + slacks (.put (w.2.toNat - 1) (e.tx (w.2.toNat - 1)).want :: U) ≤ N := by
   intro x hx; have := h.fits x hx; rw [hk]; omega
  exact Eng.upd_all (p := fun x => x.fore.length + 200 * (e.opens (w.2.toNat - 1)).many Tx.waits + slacks (.put (w.2.toNat - 1) (e.tx (w.2.toNat - 1)).want :: U) ≤ N ∧ x.aft.length + 200 * (e.opens (w.2.toNat - 1)).many Tx.waits + slacks (.put (w.2.toNat - 1) (e.tx (w.2.toNat - 1)).want :: U) ≤ N) this fun hi => this (e.tx _) (Eng.tx_mem hi)
 ·intro t ht
  rcases List.mem_cons.1 ht with rfl | ht
  ·refine ⟨by simpa [Task.who, Eng.opens, Eng.upd_len] using hlt, by simp, fun i' w' e1 => ?_, by simp⟩
   simp only [Task.put.injEq] at e1
   obtain ⟨rfl, rfl⟩ := e1
   refine ⟨by unfold Eng.opens; rw [Eng.upd_self hlt], (h.at hlt).want.1, (h.at hlt).want.2, ?_⟩
   rw [hw]; exact h3
  ·exact (h.ok t (List.mem_cons_of_mem _ ht)).upd (hne t ht) _
 ·exact h.apart
theorem foldl_drop_nodup : ∀ (ks : List Int) (s : Tbl × List (Int × Int)), (s.1.hold.map (·.1)).Nodup → ((ks.foldl dropStep s).1.hold.map (·.1)).Nodup
 | [], _, h => h
 | k :: ks, s, h => by
  refine foldl_drop_nodup ks _ ?_
  unfold dropStep
  split
  ·exact keys_del_nodup h k
  ·exact keys_put_nodup h k _
theorem tbDrop_nodup {t : Tbl} (h : (t.hold.map (·.1)).Nodup) (tx : Int) : ((tbDrop t tx).1.hold.map (·.1)).Nodup :=
 foldl_drop_nodup _ _ (by rw [strikeT_hold]; exact h)
theorem strikeQ_one {Q : Int → List Int} {tx k : Int} (h : (Q k).head? = some tx) : (strikeQ Q tx k).tail = strike (Q k) tx := by
 rw [← strikeQ_at, if_pos h]
theorem nexts_apart {tx : Int} {Q : Int → List Int} (h1 : ∀ k k' x, x ∈ (strikeQ Q tx k).tail → x ∈ (strikeQ Q tx k').tail → k = k') : ∀ (ks : List Int), ks.Nodup → ((nexts (strikeQ Q tx) ks).map (·.2)).Nodup
 | [], _ => by simp [nexts]
 | k :: ks, hn => by
  rw [List.nodup_cons] at hn
  have ih := nexts_apart h1 ks hn.2
  unfold nexts at ih ⊢
  rw [List.flatMap_cons, List.map_append, List.nodup_append]
  refine ⟨?_, ih, ?_⟩
  ·unfold firstL; split <;> simp
  ·intro a ha b hb e1
   subst e1
   have ha' : a ∈ (strikeQ Q tx k).tail := by
    cases hq : (strikeQ Q tx k).tail with
    | nil => rw [hq] at ha; simp [firstL] at ha
    | cons y l => rw [hq] at ha; simp [firstL] at ha; simp [ha]
   simp only [List.mem_map, List.mem_flatMap] at hb
   obtain ⟨p, ⟨k', hk', hp⟩, rfl⟩ := hb
   have hb' : p.2 ∈ (strikeQ Q tx k').tail := by
    cases hq : (strikeQ Q tx k').tail with
    | nil => rw [hq] at hp; simp [firstL] at hp
    | cons y l => rw [hq] at hp; simp [firstL] at hp; simp [hp]
   have := h1 k k' _ ha' hb'
   subst this; exact hn.1 hk'
structure Heir (Q : Int → List Int) (tx : Int) (p : Int × Int) : Prop where
 head : (Q p.1).head? = some tx
 next : ∃ m, strike (Q p.1) tx = p.2 :: m
theorem heir_iff {t : Tbl} {Q : Int → List Int} (h : TabR t Q) (hn : (t.hold.map (·.1)).Nodup) (tx : Int) (p : Int × Int) : p ∈ (tbDrop t tx).2 ↔ Heir Q tx p := by
 rw [(h.dropped hn tx).2]
 unfold nexts
 rw [List.mem_flatMap]
 constructor
 ·rintro ⟨k, hk, hp⟩
  rw [sortI_mem, holders_mem hn, h.hold k] at hk
  rw [strikeQ_one hk] at hp
  cases hs : strike (Q k) tx with
  | nil => rw [hs] at hp; simp [firstL] at hp
  | cons b m =>
   rw [hs] at hp
   simp only [firstL, List.mem_singleton] at hp
   subst hp
   exact ⟨hk, m, hs⟩
 ·rintro ⟨h1, m, h2⟩
  refine ⟨p.1, by rw [sortI_mem, holders_mem hn, h.hold]; exact h1, ?_⟩
  rw [strikeQ_one h1, h2]
  simp [firstL]
theorem Heir.waits {Q : Int → List Int} {tx : Int} {p : Int × Int} (hp : Heir Q tx p) : p.2 ∈ (Q p.1).tail ∧ p.2 ≠ tx := by
 obtain ⟨h1, m, h2⟩ := hp
 have h3 := strike_mem.1 (by rw [h2]; simp : p.2 ∈ strike (Q p.1) tx)
 refine ⟨?_, h3.2⟩
 cases hq : Q p.1 with
 | nil => rw [hq] at h3; simp at h3
 | cons a l =>
  rw [hq] at h1 h3
  simp only [List.head?_cons, Option.some.injEq] at h1
  rcases List.mem_cons.1 h3.1 with e1 | e1
  ·exact absurd (e1.trans h1) h3.2
  ·exact e1
theorem strike_tail_or {Q : Int → List Int} {tx x k : Int} (hx : x ∈ (Q k).tail) (hne : x ≠ tx) : x ∈ (strike (Q k) tx).tail ∨ Heir Q tx (k, x) := by
 cases hq : Q k with
 | nil => rw [hq] at hx; simp at hx
 | cons a l =>
  rw [hq] at hx
  simp only [List.tail_cons] at hx
  have hxs : x ∈ strike l tx := strike_mem.2 ⟨hx, hne⟩
  by_cases ea : a = tx
  ·subst ea
   cases hs : strike l a with
   | nil => rw [hs] at hxs; simp at hxs
   | cons b m =>
    rw [hs] at hxs
    rcases List.mem_cons.1 hxs with e1 | e1
    ·right; exact ⟨by rw [hq]; rfl, m, by rw [hq, strike_cons, if_pos rfl, hs, e1]⟩
    ·left; rw [strike_cons, if_pos rfl, hs]; exact e1
  ·left; rw [strike_cons, if_neg ea]; exact hxs
theorem OkT.tail {t : Task} (h : OkT N e (t :: U)) (ht : ∀ w, t ≠ .hand w) : OkT N e U := by
 refine ⟨h.few, h.v10, h.txs, h.wr, h.tab, fun j hj hs => ?_, h.six, h.cnt, h.rows, h.wrs, h.last, h.hist, h.reads, fun x hx => ?_, fun t ht => h.ok t (List.mem_cons_of_mem _ ht), ?_⟩
 ·rcases h.all j hj hs with g | ⟨w, g1, g2⟩
  ·exact .inl g
  ·rcases List.mem_cons.1 g1 with g1 | g1
   ·exact absurd g1.symm (ht w)
   ·exact .inr ⟨w, g1, g2⟩
 ·have := h.fits x hx
  simp only [slacks, List.map_cons, List.sum_cons] at this ⊢; omega
 ·have := h.apart
  rw [List.map_cons, List.nodup_cons] at this
  exact this.2
theorem OkT.skipped {key : Int} {l : List Nat} (h : OkT N e (.ask i key (j :: l) :: U)) : OkT N e (.ask i key l :: U) := by
 refine ⟨h.few, h.v10, h.txs, h.wr, h.tab, fun j hj hs => ?_, h.six, h.cnt, h.rows, h.wrs, h.last, h.hist, h.reads, fun x hx => ?_, fun t ht => ?_, h.apart⟩
 ·rcases h.all j hj hs with g | ⟨w, g1, g2⟩
  ·exact .inl g
  ·rcases List.mem_cons.1 g1 with g1 | g1
   ·cases g1
   ·exact .inr ⟨w, List.mem_cons_of_mem _ g1, g2⟩
 ·have := h.fits x hx
  simp only [slacks, List.map_cons, List.sum_cons, slack, List.length_cons] at this ⊢; omega
 ·rcases List.mem_cons.1 ht with rfl | ht
  ·have := h.ok _ (List.mem_cons_self ..)
   refine ⟨this.lt, by simp, by simp, fun i' k' l' e1 => ?_⟩
   simp only [Task.ask.injEq] at e1
   obtain ⟨rfl, rfl, rfl⟩ := e1
   obtain ⟨g1, g2, g3, g4, g5⟩ := this.ask _ _ _ rfl
   exact ⟨g1, g2, g3, fun j hj => g4 j (List.mem_cons_of_mem _ hj), g5⟩
  ·exact h.ok t (List.mem_cons_of_mem _ ht)
theorem OkT.left (h : OkT N e U) (hi : i < e.txs.length) (ha : (e.tx i).alive = true) (hne : ∀ u ∈ U, u.who ≠ i) (why : Int) : OkT N (e.left i why) ((e.heirs i).map .hand ++ U) ∧ (e.left i why).open_ + 1 = e.open_ := by
 obtain ⟨Q, hQ⟩ := h.tab
 obtain ⟨r, hr⟩ := hQ.rk
 have hd := (hQ.tab.dropped hQ.hold ((i : Int) + 1)).1
 have hh := heir_iff hQ.tab hQ.hold ((i : Int) + 1)
 have htx : ∀ j, j ≠ i → (e.left i why).tx j = e.tx j := fun j hj => by
  show (e.mark i why).tx j = _
  rw [Eng.mark_tx, if_neg (fun x => hj x.1.symm)]
 have hlen : (e.left i why).txs.length = e.txs.length := Eng.mark_len e i why
 have hm1 := Eng.many_upd hi Tx.alive (fun x => { x with state := 3, why := why, ended := e.count + 1 })
 have hm2 := Eng.many_upd hi Tx.waits (fun x => { x with state := 3, why := why, ended := e.count + 1 })
 rw [if_pos ha, if_neg (by simp [Tx.alive])] at hm1
 rw [if_neg (show ¬ Tx.waits { e.tx i with state := 3, why := why, ended := e.count + 1 } = true by simp [Tx.waits])] at hm2
 have hop : (e.left i why).open_ + 1 = e.open_ := hm1
 have hwt : (e.left i why).many Tx.waits ≤ e.many Tx.waits := by
  have : (e.left i why).many Tx.waits + (if (e.tx i).waits = true then 1 else 0) = e.many Tx.waits := hm2
  omega
 have hxi : ∀ k, ∀ x ∈ Q k, x ≠ (i : Int) + 1 → x.toNat - 1 ≠ i := fun k x hx hx1 => by have := (hQ.key k x hx).2.1; omega
 have hcnt := h.cnt
 have hwn : ∀ x, mget (e.left i why).t.wait x = none ∨ x ≠ (i : Int) + 1 ∧ ∃ k, x ∈ (Q k).tail := by
  intro x
  cases hg : mget (e.left i why).t.wait x with
  | none => exact .inl rfl
  | some k =>
   right
   have h1 := (hd.wait x k).1 hg
   exact ⟨(strike_mem.1 (List.mem_of_mem_tail h1)).2, k, strike_tail_sub h1⟩
 refine ⟨⟨by rw [hlen]; exact h.few, h.v10, ?_, fun k v hk => ?_, ⟨_, hd, Rk.drop hQ.tab hr _, tbDrop_nodup hQ.hold _, fun k x hx => ?_, fun k x hx => ?_, fun k x hx => ?_⟩, fun j hj hs => ?_, by have := h.six; omega, ?_, fun vs hv => ?_, ?_, h.last, ?_, ?_, ?_, ?_, ?_⟩, hop⟩
 ·rw [hlen]
  refine Eng.upd_all h.txs fun hi => ?_
  have := h.at hi
  exact ⟨by simp, this.refs, this.want, this.own, this.keys⟩
 ·obtain ⟨g1, g2, g3⟩ := h.wr k v hk
  rw [hlen, htx]
  ·exact ⟨g1, g2, g3⟩
  ·intro e1; rw [e1] at g3; simp [Tx.alive, g3] at ha
 ·have h1 := strike_mem.1 hx
  rw [hlen]; exact hQ.key k x h1.1
 ·have h1 := strike_mem.1 hx
  rw [htx _ (hxi k x h1.1 h1.2)]; exact hQ.alive k x h1.1
 ·have h1 := strike_mem.1 (List.mem_of_mem_tail hx)
  rw [htx _ (hxi k x h1.1 h1.2)]; exact hQ.waits k x (strike_tail_sub hx)
 ·have hji : j ≠ i := by
   intro e1; subst e1
   have : ((e.left j why).tx j).state = 3 := by show ((e.mark j why).tx j).state = 3; rw [Eng.mark_tx, if_pos ⟨rfl, hi⟩]
   omega
  rw [htx j hji] at hs
  rw [hlen] at hj
  rcases h.all j hj hs with g | ⟨w, g1, g2⟩
  ·cases hwj : mget e.t.wait ((j : Int) + 1) with
   | none => exact absurd hwj g
   | some k =>
    have h1 := (hQ.tab.wait _ k).1 hwj
    rcases strike_tail_or h1 (by omega : (j : Int) + 1 ≠ (i : Int) + 1) with h2 | h2
    ·left
     rw [show mget (e.left i why).t.wait ((j : Int) + 1) = some k from (hd.wait _ k).2 h2]; simp
    ·right
     exact ⟨(k, (j : Int) + 1), by simp only [List.mem_append, List.mem_map]; exact .inl ⟨_, (hh _).2 h2, rfl⟩, rfl⟩
  ·exact .inr ⟨w, List.mem_append_right _ g1, g2⟩
 ·have : (e.left i why).count = e.count + 1 := rfl
  rw [hlen, this]; omega
 ·have := h.rows vs hv
  show _ ≤ e.count + 1 + 1
  omega
 ·have := h.wrs
  show _ ≤ e.count + 1
  exact Int.le_trans this (by omega)
 ·have := h.hist
  show _ ≤ (e.count + 1) * ((N : Int) + 10)
  refine Int.le_trans this ?_
  rw [Int.add_mul]; omega
 ·exact Eng.upd_all (p := fun x => x.reads.length ≤ N) h.reads fun hi => h.reads (e.tx i) (Eng.tx_mem hi)
 ·have hsl : slacks ((e.heirs i).map .hand ++ U) = slacks U := by
   unfold slacks
   rw [List.map_append, List.sum_append, List.map_map]
   have : ((e.heirs i).map (slack ∘ Task.hand)).sum = 0 := by
    generalize e.heirs i = l
    induction l with
    | nil => rfl
    | cons p l ih => simpa [slack] using ih
   omega
  rw [hsl]
  have : ∀ x ∈ e.txs, x.fore.length + 200 * (e.left i why).many Tx.waits + slacks U ≤ N ∧ x.aft.length + 200 * (e.left i why).many Tx.waits + slacks U ≤ N := by
   intro x hx; have := h.fits x hx; omega
  exact Eng.upd_all (p := fun x => x.fore.length + 200 * (e.left i why).many Tx.waits + slacks U ≤ N ∧ x.aft.length + 200 * (e.left i why).many Tx.waits + slacks U ≤ N) this fun hi => this (e.tx i) (Eng.tx_mem hi)
 ·intro t ht
  rcases List.mem_append.1 ht with ht | ht
  ·simp only [List.mem_map] at ht
   obtain ⟨p, hp, rfl⟩ := ht
   have hp' := (hh p).1 hp
   obtain ⟨h1, h2⟩ := hp'.waits
   have hk := hQ.key _ _ (List.mem_of_mem_tail h1)
   have hs := hQ.waits _ _ h1
   have hx := hxi _ _ (List.mem_of_mem_tail h1) h2
   refine ⟨by rw [hlen]; simp only [Task.who]; omega, fun w hw => ?_, by simp, by simp⟩
   simp only [Task.hand.injEq] at hw
   subst hw
   refine ⟨hk.2.1, by simp only [Task.who]; rw [htx _ hx]; exact hs, ?_⟩
   cases hg : mget (e.left i why).t.wait p.2 with
   | none => rfl
   | some k =>
    exfalso
    have h3 := (hd.wait _ k).1 hg
    have := hQ.tab.one h1 (strike_tail_sub h3)
    subst this
    obtain ⟨m, hm⟩ := hp'.next
    have hnd := hd.nod p.1
    rw [hm] at h3 hnd
    rw [List.nodup_cons] at hnd
    exact hnd.1 h3
  ·have ho := h.ok t ht
   have hti := hne t ht
   refine ⟨by rw [hlen]; exact ho.lt, fun w hw => ?_, fun i' w hw => ?_, fun i' key l hw => ?_⟩
   ·obtain ⟨g1, g2, g3⟩ := ho.hand w hw
    refine ⟨g1, by rw [htx _ hti]; exact g2, ?_⟩
    rcases hwn w.2 with g | ⟨_, k, hk⟩
    ·exact g
    ·rw [(hQ.tab.wait _ k).2 hk] at g3; cases g3
   ·subst hw
    obtain ⟨g1, g2, g3, g4⟩ := ho.put i' w rfl
    have hti' : i' ≠ i := hti
    refine ⟨by rw [htx _ hti']; exact g1, g2, g3, ?_⟩
    rcases hwn ((i' : Int) + 1) with g | ⟨_, k, hk⟩
    ·exact g
    ·rw [(hQ.tab.wait _ k).2 hk] at g4; cases g4
   ·subst hw
    obtain ⟨g1, g2, g3, g4, g5⟩ := ho.ask i' key l rfl
    have hti' : i' ≠ i := hti
    refine ⟨by rw [htx _ hti']; exact g1, by rw [htx _ hti']; exact g2, g3, by rw [hlen]; exact g4, ?_⟩
    rcases hwn ((i' : Int) + 1) with g | ⟨_, k, hk⟩
    ·exact g
    ·rw [(hQ.tab.wait _ k).2 hk] at g5; cases g5
 ·rw [List.map_append, List.map_map, List.nodup_append]
  have h1 : ∀ p ∈ e.heirs i, p.2 ∈ (Q p.1).tail ∧ 1 ≤ p.2 := fun p hp => by
   have := ((hh p).1 hp).waits
   exact ⟨this.1, (hQ.key _ _ (List.mem_of_mem_tail this.1)).2.1⟩
  refine ⟨?_, h.apart, ?_⟩
  ·have hn : ((e.heirs i).map (·.2)).Nodup := by
    unfold Eng.heirs
    rw [(hQ.tab.dropped hQ.hold ((i : Int) + 1)).2]
    refine nexts_apart (fun k k' x hx hx' => ?_) _ ((sortI_perm _).nodup_iff.2 (holders_nodup hQ.hold))
    rw [strikeQ_tail] at hx hx'
    exact hQ.tab.one (strike_mem.1 hx).1 (strike_mem.1 hx').1
   have he : (e.heirs i).map (Task.who ∘ Task.hand) = ((e.heirs i).map (·.2)).map fun x : Int => x.toNat - 1 := by
    rw [List.map_map]; rfl
   rw [he]
   have hpos : ∀ x ∈ (e.heirs i).map (·.2), 1 ≤ x := fun x hx => by
    obtain ⟨p, hp, rfl⟩ := List.mem_map.1 hx
    exact (h1 p hp).2
   generalize (e.heirs i).map (·.2) = l at hn hpos
   induction l with
   | nil => simp
   | cons a l ih =>
    rw [List.nodup_cons] at hn
    rw [List.map_cons, List.nodup_cons]
    refine ⟨fun hm => ?_, ih hn.2 fun x hx => hpos x (List.mem_cons_of_mem _ hx)⟩
    obtain ⟨c, hc, e1⟩ := List.mem_map.1 hm
    have := hpos a (List.mem_cons_self ..)
    have := hpos c (List.mem_cons_of_mem _ hc)
    exact hn.1 (by rw [show a = c by omega]; exact hc)
  ·intro a ha c hc e1
   simp only [List.mem_map, Function.comp] at ha hc
   obtain ⟨p, hp, rfl⟩ := ha
   obtain ⟨u, hu, rfl⟩ := hc
   simp only [Task.who] at e1
   have hs := hQ.waits _ _ (h1 p hp).1
   have hp1 := (h1 p hp).2
   have ho := h.ok u hu
   cases u with
   | hand w =>
    obtain ⟨g1, g2, g3⟩ := ho.hand w rfl
    have e2 : p.2.toNat - 1 = w.2.toNat - 1 := e1
    have : p.2 = w.2 := by omega
    rw [← this, (hQ.tab.wait _ _).2 (h1 p hp).1] at g3; cases g3
   | put i' w => have := (ho.put i' w rfl).1; have e2 : p.2.toNat - 1 = i' := e1; rw [e2, this] at hs; omega
   | ask i' key l => have := (ho.ask i' key l rfl).1; have e2 : p.2.toNat - 1 = i' := e1; rw [e2, this] at hs; omega
theorem OkT.wput {w : Int × Int} (h : OkT N e (.put i w :: U)) : OkT N (e.wput i w) U ∧ ((e.tx i).level = 2 → OkT N (e.wput i w) (.ask i w.1 (List.range e.txs.length) :: U)) := by
 have ho := h.ok _ (List.mem_cons_self ..)
 obtain ⟨h1, h2, h3, h4⟩ := ho.put i w rfl
 have hlt : i < e.txs.length := ho.lt
 have hne := h.who_ne
 simp only [Task.who] at hne
 have ht := h.tail (by simp)
 obtain ⟨Q, hQ⟩ := h.tab
 have hlen : (e.wput i w).txs.length = e.txs.length := Eng.upd_len ..
 have hop : (e.wput i w).open_ = e.open_ := Eng.many_keep Tx.alive _ fun _ => rfl
 have hwt : (e.wput i w).many Tx.waits = e.many Tx.waits := Eng.many_keep Tx.waits _ fun _ => rfl
 have hst : ∀ j, ((e.wput i w).tx j).state = (e.tx j).state := Eng.upd_keep (·.state) _ fun _ => rfl
 have hlv : ∀ j, ((e.wput i w).tx j).level = (e.tx j).level := Eng.upd_keep (·.level) _ fun _ => rfl
 have hput : ∀ p ∈ mput (e.tx i).writes w.1 w.2, keyOk p.1 ∧ valOk p.2 := by
  intro p hp
  have g := (h.at hlt).own
  unfold mput at hp
  split at hp
  ·simp only [List.mem_map] at hp
   obtain ⟨q, hq, rfl⟩ := hp
   split
   ·exact ⟨h2, h3⟩
   ·exact g q hq
  ·rcases List.mem_append.1 hp with hp | hp
   ·exact g p hp
   ·simp only [List.mem_singleton] at hp; subst hp; exact ⟨h2, h3⟩
 have hok : ∀ t ∈ U, t.ok (e.wput i w) := fun t ht => (h.ok t (List.mem_cons_of_mem _ ht)).upd (hne t ht) _
 have key : ∀ T, (∀ j, j < e.txs.length → (e.tx j).state = 1 → mget e.t.wait ((j : Int) + 1) ≠ none ∨ ∃ w, .hand w ∈ T ∧ w.2 = (j : Int) + 1) → slacks T ≤ slacks (.put i w :: U) → (∀ t ∈ T, t.ok (e.wput i w)) → (T.map Task.who).Nodup → OkT N (e.wput i w) T := by
  intro T ha hsl hk hn
  refine ⟨by rw [hlen]; exact h.few, h.v10, ?_, fun k v hk => ?_, ⟨Q, hQ.upd _ (fun k x hx e1 => ?_) (fun k x hx e1 => ?_)⟩, fun j hj hs => ?_, by rw [hop]; exact h.six, by rw [hop, hlen]; exact h.cnt, h.rows, h.wrs, h.last, h.hist, ?_, ?_, hk, hn⟩
  ·rw [hlen]
   refine Eng.upd_all h.txs fun hi => ?_
   have := h.at hi
   exact ⟨this.state, this.refs, this.want, hput, keys_put_nodup this.keys _ _⟩
  ·rw [hlen, hst]; exact h.wr k v hk
  ·have := hQ.alive k x hx; rw [e1] at this; exact this
  ·have := hQ.waits k x hx; rw [e1] at this; exact this
  ·rw [hst] at hs; rw [hlen] at hj; exact ha j hj hs
  ·exact Eng.upd_all (p := fun x => x.reads.length ≤ N) h.reads fun hi => h.reads (e.tx i) (Eng.tx_mem hi)
  ·rw [hwt]
   have : ∀ x ∈ e.txs, x.fore.length + 200 * e.many Tx.waits + slacks T ≤ N ∧ x.aft.length + 200 * e.many Tx.waits + slacks T ≤ N := by
    intro x hx; have := h.fits x hx; omega
   exact Eng.upd_all (p := fun x => x.fore.length + 200 * e.many Tx.waits + slacks T ≤ N ∧ x.aft.length + 200 * e.many Tx.waits + slacks T ≤ N) this fun hi => this (e.tx i) (Eng.tx_mem hi)
 refine ⟨key U ht.all ?_ hok ht.apart, fun hl2 => key _ (fun j hj hs => ?_) ?_ (fun t ht => ?_) h.apart⟩
 ·simp only [slacks, List.map_cons, List.sum_cons]; omega
 ·rcases ht.all j hj hs with g | ⟨w, g1, g2⟩
  ·exact .inl g
  ·exact .inr ⟨w, List.mem_cons_of_mem _ g1, g2⟩
 ·have := h.few
  simp only [slacks, List.map_cons, List.sum_cons, slack, List.length_range]; omega
 ·rcases List.mem_cons.1 ht with rfl | ht
  ·refine ⟨by rw [hlen]; exact hlt, by simp, by simp, fun i' k' l' e1 => ?_⟩
   simp only [Task.ask.injEq] at e1
   obtain ⟨rfl, rfl, rfl⟩ := e1
   exact ⟨by rw [hst]; exact h1, by rw [hlv]; exact hl2, h2, fun j hj => by rw [hlen]; exact List.mem_range.1 hj, h4⟩
  ·exact hok t ht
theorem OkT.note_gen {U' : List Task} {M : Nat} (h : OkT N e U) (hj : j < e.txs.length) (hlt : i < e.txs.length) (hNM : N ≤ M) (hall : ∀ j, j < e.txs.length → (e.tx j).state = 1 → mget e.t.wait ((j : Int) + 1) ≠ none ∨ ∃ w, .hand w ∈ U' ∧ w.2 = (j : Int) + 1)
  (hsl : slacks U' + 1 + N ≤ slacks U + M) (hoks : ∀ t ∈ U', t.ok e) (hap : (U'.map Task.who).Nodup) : OkT M (e.note j i) U' := by
 obtain ⟨Q, hQ⟩ := h.tab
 have hlen : (e.note j i).txs.length = e.txs.length := Eng.note_len ..
 have hst : ∀ k, ((e.note j i).tx k).state = (e.tx k).state := Eng.note_keep (·.state) (fun _ _ => rfl) (fun _ _ => rfl) j i
 have hlv : ∀ k, ((e.note j i).tx k).level = (e.tx k).level := Eng.note_keep (·.level) (fun _ _ => rfl) (fun _ _ => rfl) j i
 have hal : ∀ k, ((e.note j i).tx k).alive = (e.tx k).alive := Eng.note_keep Tx.alive (fun _ _ => rfl) (fun _ _ => rfl) j i
 have hmany : ∀ p : Tx → Bool, (∀ x l, p { x with aft := l } = p x) → (∀ x l, p { x with fore := l } = p x) → (e.note j i).many p = e.many p := fun p h1 h2 => by
  unfold Eng.note
  rw [Eng.many_keep p _ (fun x => h2 x _), Eng.many_keep p _ (fun x => h1 x _)]
 have hop : (e.note j i).open_ = e.open_ := hmany Tx.alive (fun _ _ => rfl) (fun _ _ => rfl)
 have hwt : (e.note j i).many Tx.waits = e.many Tx.waits := hmany Tx.waits (fun _ _ => rfl) (fun _ _ => rfl)
 have hok : ∀ t : Task, t.ok e → t.ok (e.note j i) := fun t ht => by
  refine ⟨by rw [hlen]; exact ht.lt, fun w hw => ?_, fun i' w hw => ?_, fun i' key l hw => ?_⟩
  ·rw [hst]; exact ht.hand w hw
  ·rw [hst]; exact ht.put i' w hw
  ·rw [hst, hlv, hlen]; exact ht.ask i' key l hw
 refine ⟨by rw [hlen]; exact h.few, h.v10, ?_, fun k v hk => by rw [hlen, hst]; exact h.wr k v hk, ⟨Q, ⟨hQ.tab, hQ.rk, hQ.hold, by rw [hlen]; exact hQ.key, fun k x hx => by rw [hal]; exact hQ.alive k x hx, fun k x hx => by rw [hst]; exact hQ.waits k x hx⟩⟩, fun j hj hs' => by rw [hst] at hs'; rw [hlen] at hj; exact hall j hj hs', by rw [hop]; exact h.six, by rw [hop, hlen]; exact h.cnt, h.rows, h.wrs, h.last, ?_, ?_, ?_, fun t ht => hok t (hoks t ht), hap⟩
 ·rw [hlen]
  unfold Eng.note
  refine Eng.upd_all (Eng.upd_all h.txs fun hi => ?_) fun hi => ?_
  ·have := h.at hi
   refine ⟨this.state, fun k hk => ?_, this.want, this.own, this.keys⟩
   simp only [List.mem_append, List.mem_singleton] at hk
   rcases hk with hk | hk | rfl
   ·exact this.refs k (by simp [hk])
   ·exact this.refs k (by simp [hk])
   ·exact hlt
  ·have hx : TxOk e.txs.length ((e.upd j fun x => { x with aft := x.aft ++ [i] }).tx i) := by
    have hm := Eng.tx_mem (e := e.upd j fun x => { x with aft := x.aft ++ [i] }) hi
    refine Eng.upd_all h.txs (fun hj' => ?_) _ hm
    have := h.at hj'
    refine ⟨this.state, fun k hk => ?_, this.want, this.own, this.keys⟩
    simp only [List.mem_append, List.mem_singleton] at hk
    rcases hk with hk | hk | rfl
    ·exact this.refs k (by simp [hk])
    ·exact this.refs k (by simp [hk])
    ·exact hlt
   refine ⟨hx.state, fun k hk => ?_, hx.want, hx.own, hx.keys⟩
   simp only [List.mem_append, List.mem_singleton] at hk
   rcases hk with (hk | rfl) | hk
   ·exact hx.refs k (by simp [hk])
   ·exact hj
   ·exact hx.refs k (by simp [hk])
 ·refine Int.le_trans h.hist (Int.mul_le_mul_of_nonneg_left ?_ h.cnt.1)
  omega
 ·unfold Eng.note
  have hr : ∀ x ∈ e.txs, x.reads.length ≤ M := fun x hx => Nat.le_trans (h.reads x hx) hNM
  refine Eng.upd_all (p := fun x => x.reads.length ≤ M) (Eng.upd_all (p := fun x => x.reads.length ≤ M) hr fun hi => hr (e.tx j) (Eng.tx_mem hi)) fun hi => ?_
  have := Eng.upd_keep (e := e) (i := j) (fun x => x.reads.length) (fun x => { x with aft := x.aft ++ [i] }) (fun _ => rfl) i
  show ((e.upd j fun x => { x with aft := x.aft ++ [i] }).tx i).reads.length ≤ M
  rw [this]
  exact hr _ (Eng.tx_mem hlt)
 ·rw [hwt]
  intro x hx
  obtain ⟨m, hm, rfl⟩ := Eng.mem_tx hx
  rw [hlen] at hm
  have hf := h.fits _ (Eng.tx_mem hm)
  unfold Eng.note
  have e1 : ((e.upd j fun x => { x with aft := x.aft ++ [i] }).upd i fun x => { x with fore := x.fore ++ [j] }).txs.length = e.txs.length := by simp [Eng.upd]
  have hfl : (((e.upd j fun x => { x with aft := x.aft ++ [i] }).upd i fun x => { x with fore := x.fore ++ [j] }).tx m).fore.length ≤ (e.tx m).fore.length + 1 := by
   rw [Eng.upd_tx]
   split
   ·have := Eng.upd_keep (e := e) (i := j) (·.fore) (fun x => { x with aft := x.aft ++ [i] }) (fun _ => rfl) m
    simp only [List.length_append, List.length_singleton]
    rw [this]; omega
   ·have := Eng.upd_keep (e := e) (i := j) (·.fore) (fun x => { x with aft := x.aft ++ [i] }) (fun _ => rfl) m
    rw [this]; omega
  have hal : (((e.upd j fun x => { x with aft := x.aft ++ [i] }).upd i fun x => { x with fore := x.fore ++ [j] }).tx m).aft.length ≤ (e.tx m).aft.length + 1 := by
   have := Eng.upd_keep (e := e.upd j fun x => { x with aft := x.aft ++ [i] }) (i := i) (·.aft) (fun x => { x with fore := x.fore ++ [j] }) (fun _ => rfl) m
   rw [this, Eng.upd_tx]
   split
   ·simp
   ·omega
  omega
theorem OkT.noted {key : Int} {l : List Nat} (h : OkT N e (.ask i key (j :: l) :: U)) : OkT N (e.note j i) (.ask i key l :: U) := by
 have ho := h.ok _ (List.mem_cons_self ..)
 obtain ⟨h1, h2, h3, h4, h5⟩ := ho.ask i key _ rfl
 have hs := h.skipped
 refine h.note_gen (h4 j (List.mem_cons_self ..)) ho.lt (Nat.le_refl _) hs.all ?_ hs.ok hs.apart
 simp only [slacks, List.map_cons, List.sum_cons, slack, List.length_cons]; omega
theorem OkT.note1 (h : OkT N e U) (hj : j < e.txs.length) (hlt : i < e.txs.length) : OkT (N + 1) (e.note j i) U :=
 h.note_gen hj hlt (by omega) h.all (by omega) h.ok h.apart
theorem OkT.mono {M : Nat} (h : OkT N e U) (hM : N ≤ M) : OkT M e U := by
 refine ⟨h.few, h.v10, h.txs, h.wr, h.tab, h.all, h.six, h.cnt, h.rows, h.wrs, h.last, ?_, fun x hx => Nat.le_trans (h.reads x hx) hM, fun x hx => ?_, h.ok, h.apart⟩
 ·exact Int.le_trans h.hist (Int.mul_le_mul_of_nonneg_left (by omega) h.cnt.1)
 ·have := h.fits x hx; omega
theorem Eng.note_open (e : Eng) (a b : Nat) : (e.note a b).open_ = e.open_ := by
 unfold Eng.note
 exact (Eng.many_keep Tx.alive (fun x => { x with fore := x.fore ++ [a] }) fun _ => rfl).trans (Eng.many_keep Tx.alive (fun x => { x with aft := x.aft ++ [b] }) fun _ => rfl)
def GoesOk (n : Nat) : Prop := ∀ (N : Nat) (e : Eng) (i : Nat) (why : Int) (U : List Task), OkT N e U → i < e.txs.length → (e.tx i).alive = true → (∀ u ∈ U, u.who ≠ i) → e.open_ ≤ n →
 OkT N (goesN n e i why) U ∧ (goesN n e i why).open_ ≤ e.open_ ∧ ∀ e', Runs (goesN n e i why) U e' → Runs (e.left i why) ((e.heirs i).map .hand ++ U) e'
section
variable {n : Nat}
theorem putsL_ok (hg : GoesOk n) {key : Int} : ∀ (l : List Nat) (N : Nat) (e : Eng) (U : List Task), OkT N e (.ask i key l :: U) → e.open_ ≤ n →
  OkT N (putsL (goesN n) i key l e) U ∧ (putsL (goesN n) i key l e).open_ ≤ e.open_ ∧ ∀ e', Runs (putsL (goesN n) i key l e) U e' → Runs e (.ask i key l :: U) e'
 | [], N, e, U, h, ho => ⟨h.tail (by simp), Nat.le_refl _, fun e' hr => .asked hr⟩
 | j :: l, N, e, U, h, ho => by
  unfold putsL
  by_cases hs : skips e i key j = true
  ·rw [if_pos hs]
   obtain ⟨h1, h2, h3⟩ := putsL_ok hg l N e U h.skipped ho
   exact ⟨h1, h2, fun e' hr => .skip hs (h3 e' hr)⟩
  ·rw [if_neg hs]
   have hs' : skips e i key j = false := by simpa using hs
   have hn := h.noted
   have hop := Eng.note_open e j i
   by_cases hb : (e.note j i).bad j i = true
   ·simp only [hb, if_true]
    have hk := hn.ok _ (List.mem_cons_self ..)
    have hst := (hk.ask i key l rfl).1
    obtain ⟨h1, h2, h3⟩ := hg N (e.note j i) i 13 U (hn.tail (by simp)) hk.lt (by simp [Tx.alive, hst]) hn.who_ne (by omega)
    exact ⟨h1, by omega, fun e' hr => .wrong hs' hb (h3 e' hr)⟩
   ·have hb' : (e.note j i).bad j i = false := by simpa using hb
    simp only [hb', Bool.false_eq_true, if_false]
    obtain ⟨h1, h2, h3⟩ := putsL_ok hg l N (e.note j i) U hn (by omega)
    exact ⟨h1, by omega, fun e' hr => .note hs' hb' (h3 e' hr)⟩
theorem putsG_ok (hg : GoesOk n) {N : Nat} {e : Eng} {U : List Task} {w : Int × Int} (h : OkT N e (.put i w :: U)) (ho : e.open_ ≤ n) :
  OkT N (putsG (goesN n) e i w) U ∧ (putsG (goesN n) e i w).open_ ≤ e.open_ ∧ ∀ e', Runs (putsG (goesN n) e i w) U e' → Runs e (.put i w :: U) e' := by
 have hk := h.ok _ (List.mem_cons_self ..)
 have hst := (hk.put i w rfl).1
 unfold putsG
 by_cases hl : e.late i w.1
 ·rw [if_pos hl]
  obtain ⟨h1, h2, h3⟩ := hg N e i 10 U (h.tail (by simp)) hk.lt (by simp [Tx.alive, hst]) h.who_ne ho
  exact ⟨h1, h2, fun e' hr => .late hl (h3 e' hr)⟩
 ·rw [if_neg hl]
  obtain ⟨g1, g2⟩ := h.wput
  have hop : (e.wput i w).open_ = e.open_ := Eng.many_keep Tx.alive _ fun _ => rfl
  by_cases h2 : (e.tx i).level = 2
  ·rw [if_pos h2]
   obtain ⟨h3, h4, h5⟩ := putsL_ok hg _ N (e.wput i w) U (g2 h2) (by omega)
   exact ⟨h3, by rw [← hop]; exact h4, fun e' hr => .puts hl h2 (h5 e' hr)⟩
  ·rw [if_neg h2]
   exact ⟨g1, Nat.le_of_eq hop, fun e' hr => .put hl h2 hr⟩
theorem freesL_ok (hg : GoesOk n) : ∀ (l : List (Int × Int)) (N : Nat) (e : Eng) (U : List Task), OkT N e (l.map .hand ++ U) → e.open_ ≤ n →
  OkT N (freesL (goesN n) l e) U ∧ (freesL (goesN n) l e).open_ ≤ e.open_ ∧ ∀ e', Runs (freesL (goesN n) l e) U e' → Runs e (l.map .hand ++ U) e'
 | [], N, e, U, h, ho => ⟨h, Nat.le_refl _, fun e' hr => hr⟩
 | w :: l, N, e, U, h, ho => by
  have hh := OkT.hand (U := l.map .hand ++ U) h
  have hk := h.ok (.hand w) (by simp)
  have hop : (e.opens (w.2.toNat - 1)).open_ = e.open_ := by
   have hlt : w.2.toNat - 1 < e.txs.length := hk.lt
   have hs : (e.tx (w.2.toNat - 1)).state = 1 := (hk.hand w rfl).2.1
   have := Eng.many_upd hlt Tx.alive (fun x => { x with state := 0 })
   rw [if_pos (by simp [Tx.alive, hs]), if_pos (by simp [Tx.alive])] at this
   unfold Eng.opens Eng.open_; unfold Eng.many at this; omega
  have hwant : ((e.opens (w.2.toNat - 1)).tx (w.2.toNat - 1)).want = (e.tx (w.2.toNat - 1)).want := Eng.upd_keep (·.want) (fun x => { x with state := 0 }) (fun _ => rfl) _
  unfold freesL
  rw [hwant]
  obtain ⟨h1, h2, h3⟩ := putsG_ok hg hh (by omega)
  obtain ⟨h4, h5, h6⟩ := freesL_ok hg l N _ U h1 (by omega)
  exact ⟨h4, by omega, fun e' hr => .hand (h3 e' (h6 e' hr))⟩
end
theorem goesOk : ∀ n, GoesOk n
 | 0 => fun N e i why U h hi ha hne ho => by
  have : 1 ≤ e.open_ := Eng.many_pos hi ha
  omega
 | n + 1 => fun N e i why U h hi ha hne ho => by
  obtain ⟨h1, h2⟩ := h.left hi ha hne why
  obtain ⟨h3, h4, h5⟩ := freesL_ok (goesOk n) (e.heirs i) N (e.left i why) U h1 (by omega)
  exact ⟨h3, by show (freesL (goesN n) (e.heirs i) (e.left i why)).open_ ≤ _; omega, fun e' hr => h5 e' hr⟩
end Go.Proofs.YtdlkjppppdminaaGreatDoor
/- Owned slices: cut short, cut ahead, and wiped. No program in sight. -/
namespace Go.Sep
open Go Go.RowKit
variable {w w0 : World} {L : List HProp} {e : TypeId} {size n : Nat} {v : Value} {xs : List Value}
theorem S.sl_take {a : Option Addr} {cap : Nat} (h : S w0 w (sl e size (.slice a n cap) n xs :: L)) (i : Nat) (hi : i ≤ n) : S w0 w (sl e size (.slice a i cap) i (xs.take (i * size)) :: L) := by
 rcases h.sl_elim with ⟨hv, rfl, rfl, k⟩ | ⟨g, cap', pre, sp, post, hp, k⟩
 ·obtain rfl : i = 0 := by omega
  simp at hv
  obtain ⟨rfl, rfl⟩ := hv
  simpa using k.sl_nil (e := e) (size := size)
 ·have hv := hp.val
  simp at hv
  obtain ⟨rfl, rfl⟩ := hv
  have hl := hp.len
  have hle : i * size ≤ n * size := Nat.mul_le_mul_right _ hi
  refine .sl_intro (g := g) (cap := cap) (pre := pre) (sp := xs.drop (i * size) ++ sp) (post := post) ⟨rfl, by rw [List.length_take]; omega, ?_, Nat.le_trans hi hp.le, hp.max⟩ ?_
  ·have := hp.room
   simp only [List.length_take, List.length_append, List.length_drop]
   omega
  ·simpa [← List.append_assoc] using k
theorem S.sl_drop {g o cap : Nat} (h : S w0 w (sl e size (.slice (some ⟨g, o, none⟩) n cap) n xs :: L)) (i : Nat) (hi : i ≤ n) : S w0 w (sl e size (.slice (some ⟨g, o + i * size, none⟩) (n - i) (cap - i)) (n - i) (xs.drop (i * size)) :: L) := by
 rcases h.sl_elim with ⟨hv, rfl, rfl, k⟩ | ⟨g', cap', pre, sp, post, hp, k⟩
 ·simp at hv
 ·have hv := hp.val
  simp at hv
  obtain ⟨⟨rfl, rfl⟩, rfl⟩ := hv
  have hl := hp.len
  have hle : i * size ≤ n * size := Nat.mul_le_mul_right _ hi
  have hle2 : i * size ≤ cap * size := Nat.mul_le_mul_right _ (Nat.le_trans hi hp.le)
  have hr := hp.room
  refine .sl_intro (g := g) (cap := cap - i) (pre := pre ++ xs.take (i * size)) (sp := sp) (post := post) ⟨?_, ?_, ?_, by have := hp.le; omega, by have := hp.max; omega⟩ ?_
  ·rw [List.length_append, List.length_take, Nat.min_eq_left (by omega)]
  ·rw [List.length_drop, Nat.sub_mul]; omega
  ·rw [List.length_drop, Nat.sub_mul]; omega
  ·have e1 : pre ++ xs.take (i * size) ++ (xs.drop (i * size) ++ (sp ++ post)) = pre ++ (xs ++ (sp ++ post)) := by
    rw [List.append_assoc, ← List.append_assoc (xs.take _), List.take_append_drop]
   rw [e1]; exact k
theorem S.sl_setCells : ∀ (us : List Value) {w : World} {xs : List Value} {g o cap : Nat} (j : Nat), S w0 w (sl e size (.slice (some ⟨g, o, none⟩) n cap) n xs :: L) → j + us.length ≤ xs.length →
  S w0 (w.setCells g (o + j) us) (sl e size (.slice (some ⟨g, o, none⟩) n cap) n (xs.take j ++ us ++ xs.drop (j + us.length)) :: L)
 | [], w, xs, g, o, cap, j, h, hj => by simpa [World.setCells] using h
 | u :: us, w, xs, g, o, cap, j, h, hj => by
  simp only [List.length_cons] at hj
  have h1 := h.sl_set rfl j (by omega) u
  have h2 := S.sl_setCells us (j + 1) h1 (by simp; omega)
  rw [World.setCells]
  have e1 : (xs.set j u).take (j + 1) = xs.take j ++ [u] := by
   rw [List.take_set, List.set_eq_take_append_cons_drop]
   simp only [List.length_take, List.take_take, List.drop_take]
   rw [if_pos (by omega)]
   simp
  have e2 : (xs.set j u).drop (j + 1 + us.length) = xs.drop (j + (us.length + 1)) := by
   rw [List.drop_set, if_pos (by omega), show j + 1 + us.length = j + (us.length + 1) by omega]
  rw [e1, e2] at h2
  simpa [Nat.add_assoc] using h2
end Go.Sep
/- Assertions in whatever order. No program in sight. -/
namespace Go.Sep
open Go Go.RowKit
instance : Std.Associative sep := ⟨sep_assoc⟩
instance : Std.Commutative sep := ⟨sep_comm⟩
theorem S.sl_tail1 {w w0 : World} {L : List HProp} {e : TypeId} {g o n cap : Nat} {x : Value} {xs : List Value} (h : S w0 w (sl e 1 (.slice (some ⟨g, o, none⟩) (n + 1) cap) (n + 1) (x :: xs) :: L)) :
  S w0 w (sl e 1 (.slice (if cap = 1 then some ⟨g, o, none⟩ else some ⟨g, o + 1, none⟩) n (cap - 1)) n xs :: L) := by
 by_cases hc : cap = 1
 ·subst hc
  rcases h.sl_elim with ⟨hv, _⟩ | ⟨g', cap', pre, sp, post, hp, hb⟩
  ·simp at hv
  have hv := hp.val
  simp at hv
  obtain ⟨⟨rfl, rfl⟩, rfl⟩ := hv
  have h1 := hp.le
  obtain rfl : n = 0 := by omega
  have h2 := hp.len
  simp only [List.length_cons] at h2
  obtain rfl : xs = [] := List.eq_nil_of_length_eq_zero (by omega)
  exact .sl_intro (g := g) (cap := 0) (pre := pre) (sp := []) (post := x :: (sp ++ post)) ⟨rfl, rfl, rfl, Nat.le_refl _, by simp⟩ (by simpa using hb)
 ·rw [if_neg hc]
  have := h.sl_drop 1 (by omega)
  simpa using this
end Go.Sep
/- Lists of things of several cells each, in slices. No program in sight. -/
namespace Go.Sep
open Go Go.RowKit
section
variable {α : Type} {f : α → List Value} {n : Nat}
def fcells (f : α → List Value) (l : List α) : List Value := l.flatMap f
theorem fcells_length (hf : ∀ a, (f a).length = n) (l : List α) : (fcells f l).length = l.length * n := by
 induction l with
 | nil => simp [fcells]
 | cons p l ih => simp only [fcells, List.flatMap_cons, List.length_append, List.length_cons] at ih ⊢; rw [ih, hf, Nat.add_mul]; omega
theorem fcells_append (l m : List α) : fcells f (l ++ m) = fcells f l ++ fcells f m := by simp [fcells]
theorem fcells_one (a : α) : fcells f [a] = f a := by simp [fcells]
theorem fcells_nil : fcells f [] = [] := rfl
theorem fcells_at (hf : ∀ a, (f a).length = n) : ∀ {l : List α} {j : Nat} {a : α} {c : Nat} {u : Value}, l[j]? = some a → (f a)[c]? = some u → (fcells f l)[j * n + c]? = some u
 | [], _, _, _, _, h, _ => by simp at h
 | q :: l, 0, p, c, u, h, hu => by
  simp at h; subst h
  have hc := (List.getElem?_eq_some_iff.1 hu).1
  simp only [fcells, List.flatMap_cons, Nat.zero_mul, Nat.zero_add]
  rw [List.getElem?_append_left hc]; exact hu
 | q :: l, j + 1, p, c, u, h, hu => by
  have := fcells_at hf (l := l) (j := j) (a := p) (c := c) (u := u) (by simpa using h) hu
  simp only [fcells, List.flatMap_cons] at this ⊢
  rw [List.getElem?_append_right (by rw [hf, Nat.add_mul]; omega), hf, show (j + 1) * n + c - n = j * n + c by rw [Nat.add_mul]; omega]
  exact this
theorem RdK.fc {w0 w : World} {L : List HProp} {a : Option Addr} {cap m : Nat} {l : List α} (h : RdK w0 L (.slice a m cap) m (fcells f l)) (hf : ∀ a, (f a).length = n) (hs : S w0 w L) {i : Nat} {p : α} (hp : l[i]? = Option.some p) (hn : 0 < n) :
  ∃ b o, a = Option.some ⟨b, o, none⟩ ∧ ∀ w', S w0 w' L → ∀ c u, (f p)[c]? = some u → w'.cell? ⟨b, o + i * n + c, none⟩ = some u := by
 have hi := (List.getElem?_eq_some_iff.1 hp).1
 have hpos : 0 < (fcells f l).length := by rw [fcells_length hf]; exact Nat.mul_pos (by omega) hn
 obtain ⟨b, o, cap', hv, _, _, hrd⟩ := h.pos hs hpos
 simp only [Value.slice.injEq] at hv
 obtain ⟨rfl, -, rfl⟩ := hv
 refine ⟨b, o, rfl, fun w' hs' c u hu => ?_⟩
 rw [Nat.add_assoc]; exact hrd w' hs' _ _ (fcells_at hf hp hu)
end
end Go.Sep
/- Transactions at the same time: the memory of the program's engine. No walk in sight. -/
namespace Go.Proofs.YtdlkjppppdminaaGreatDoor
open Go Go.RowKit Go.Sep
structure TxV where
 rv : Value
 fv : Value
 av : Value
 mb : Nat
def TxV.none : TxV := ⟨.slice Option.none 0 0, .slice Option.none 0 0, .slice Option.none 0 0, 0⟩
def blkOf (bs : List Nat) (j : Nat) : Nat := (bs[j]?).getD 0
def ptr (bs : List Nat) (j : Nat) : Value := .pointer (some ⟨blkOf bs j, 0, none⟩)
def ptrs (bs : List Nat) (l : List Nat) : List Value := l.map (ptr bs)
def txF (v : TxV) (x : Tx) : List Value :=
 [.int .i64 x.level, .int .i64 x.state, .int .i64 x.start, .int .i64 x.begun, .int .i64 x.ended, v.rv, .map (some v.mb), .int .i64 x.want.1, .int .i64 x.want.2, v.fv, v.av, .int .i64 x.why]
def txR (bs : List Nat) (v : TxV) (x : Tx) : HProp :=
 sep (sl 181 2 v.rv x.reads.length (pcells x.reads)) (sep (mp encI (fun _ => True) v.mb (ienc x.writes)) (sep (sl 167 1 v.fv x.fore.length (ptrs bs x.fore)) (sl 167 1 v.av x.aft.length (ptrs bs x.aft))))
def txK (bs : List Nat) (b : Nat) (v : TxV) (x : Tx) : HProp := sep (blk b 172 (txF v x)) (txR bs v x)
def txPs (bs : List Nat) (tv : List TxV) (txs : List Tx) : List HProp := (List.range txs.length).map fun i => txK bs (blkOf bs i) ((tv[i]?).getD .none) ((txs[i]?).getD .zero)
def opc (o : Op1) : List Value := [.int .i64 o.tx, .int .i64 o.key, .bool o.wr, .int .i64 o.fr]
def engG (b : Nat) (bs : List Nat) (txv hv : Value) (wb : Nat) (n : Nat) (count : Int) (wr : List (Int × Int)) (hist : List Op1) (ps : List HProp) : HProp :=
 sep (pur (bs.length = n ∧ ps.length = n ∧ bs.Nodup)) (sep (shp b 108 18) (sep (cells b 14 [txv, .int .i64 count, .map (some wb), hv]) (sep (sl 167 1 txv n (ptrs bs (List.range n)))
  (sep (mp encI (fun _ => True) wb (ienc wr)) (sep (sl 121 4 hv hist.length (fcells opc hist)) (all ps))))))
structure EngV where
 tv : List TxV
 txv : Value
 hv : Value
 wb : Nat
def EngV.v (k : EngV) (i : Nat) : TxV := (k.tv[i]?).getD .none
def EngV.set (k : EngV) (i : Nat) (v : TxV) : EngV := { k with tv := k.tv.set i v }
def engO (b : Nat) (bs : List Nat) (k : EngV) (e : Eng) : HProp := sep (pur (k.tv.length = e.txs.length)) (engG b bs k.txv k.hv k.wb e.txs.length e.count e.wr e.hist (txPs bs k.tv e.txs))
def engX (b : Nat) (bs : List Nat) (k : EngV) (e : Eng) (i : Nat) : HProp := sep (pur (k.tv.length = e.txs.length)) (engG b bs k.txv k.hv k.wb e.txs.length e.count e.wr e.hist ((txPs bs k.tv e.txs).set i emp))
def engK (b : Nat) (bs : List Nat) (k : EngV) (e : Eng) : HProp := sep (storeP 99 b 0 e.V e.last) (sep (tabP 3 b 11 e.t) (engO b bs k e))
def engP (b : Nat) (bs : List Nat) (e : Eng) : HProp := ex fun k => engK b bs k e
variable {w w0 : World} {L : List HProp} {b : Nat} {bs : List Nat} {k : EngV} {e : Eng} {i : Nat}
variable {txv hv : Value} {wb n : Nat} {count : Int} {wr : List (Int × Int)} {hist : List Op1} {ps : List HProp}
theorem txPs_length (bs : List Nat) (tv : List TxV) (txs : List Tx) : (txPs bs tv txs).length = txs.length := by simp [txPs]
theorem txPs_get {bs : List Nat} {tv : List TxV} {txs : List Tx} {i : Nat} (h : i < (txPs bs tv txs).length) : (txPs bs tv txs)[i] = txK bs (blkOf bs i) ((tv[i]?).getD .none) ((txs[i]?).getD .zero) := by simp [txPs]
theorem txPs_set {bs : List Nat} {tv : List TxV} {txs : List Tx} {i : Nat} (hi : i < txs.length) (ht : i < tv.length) (v : TxV) (x : Tx) : (txPs bs tv txs).set i (txK bs (blkOf bs i) v x) = txPs bs (tv.set i v) (txs.set i x) := by
 apply List.ext_getElem (by simp [txPs])
 intro j h1 h2
 rw [List.getElem_set]
 simp only [txPs, List.getElem_map, List.getElem_range, List.length_set, List.getElem?_set]
 by_cases h : i = j
 ·subst h; simp [hi, ht]
 ·simp [h]
theorem _root_.Go.Sep.S.eng_open (h : S w0 w (engP b bs e :: L)) : ∃ k, S w0 w (storeP 99 b 0 e.V e.last :: tabP 3 b 11 e.t :: engO b bs k e :: L) := by
 obtain ⟨k, h⟩ := h.ex_elim
 exact ⟨k, h.conv (by simp only [engK, all]; ac_rfl)⟩
theorem _root_.Go.Sep.S.eng_shut (h : S w0 w (storeP 99 b 0 e.V e.last :: tabP 3 b 11 e.t :: engO b bs k e :: L)) : S w0 w (engP b bs e :: L) :=
 .ex_intro k (h.conv (by simp only [engK, all]; ac_rfl))
theorem _root_.Go.Sep.S.engG_parts (h : S w0 w (engG b bs txv hv wb n count wr hist ps :: L)) : (bs.length = n ∧ ps.length = n ∧ bs.Nodup) ∧
  S w0 w (cells b 14 [txv, .int .i64 count, .map (some wb), hv] :: sl 167 1 txv n (ptrs bs (List.range n)) :: mp encI (fun _ => True) wb (ienc wr) :: sl 121 4 hv hist.length (fcells opc hist) :: all ps :: shp b 108 18 :: L) := by
 obtain ⟨hp, h⟩ := h.sep_elim.pur_elim
 exact ⟨hp, h.conv (by simp only [all]; ac_rfl)⟩
theorem _root_.Go.Sep.S.engG_join (hp : bs.length = n ∧ ps.length = n ∧ bs.Nodup)
  (h : S w0 w (cells b 14 [txv, .int .i64 count, .map (some wb), hv] :: sl 167 1 txv n (ptrs bs (List.range n)) :: mp encI (fun _ => True) wb (ienc wr) :: sl 121 4 hv hist.length (fcells opc hist) :: all ps :: shp b 108 18 :: L)) :
  S w0 w (engG b bs txv hv wb n count wr hist ps :: L) :=
 .sep_intro (.pur_intro hp (h.conv (by simp only [all]; ac_rfl)))
theorem _root_.Go.Sep.S.engG_out (h : S w0 w (engG b bs txv hv wb n count wr hist ps :: L)) (i : Nat) (hi : i < ps.length) : S w0 w (ps[i] :: engG b bs txv hv wb n count wr hist (ps.set i emp) :: L) := by
 obtain ⟨⟨h1, h2, h3⟩, h⟩ := h.engG_parts
 have h4 : S w0 w (cells b 14 [txv, .int .i64 count, .map (some wb), hv] :: sl 167 1 txv n (ptrs bs (List.range n)) :: mp encI (fun _ => True) wb (ienc wr) :: sl 121 4 hv hist.length (fcells opc hist) :: all (ps.set i emp) :: shp b 108 18 :: ps[i] :: L) := by
  refine h.conv ?_
  simp only [all]
  rw [all_set ps i hi emp, emp_sep, all_pick ps i hi]
  ac_rfl
 exact (S.engG_join ⟨h1, by simpa using h2, h3⟩ h4).swap
theorem _root_.Go.Sep.S.engG_in {P : HProp} (hi : i < ps.length) (h : S w0 w (P :: engG b bs txv hv wb n count wr hist (ps.set i emp) :: L)) : S w0 w (engG b bs txv hv wb n count wr hist (ps.set i P) :: L) := by
 obtain ⟨⟨h1, h2, h3⟩, h⟩ := h.swap.engG_parts
 refine S.engG_join ⟨h1, by simpa using h2, h3⟩ (h.conv ?_)
 simp only [all]
 rw [all_set ps i hi emp, emp_sep, all_set ps i hi P]
 ac_rfl
theorem _root_.Go.Sep.S.engG_see (h : S w0 w (engG b bs txv hv wb n count wr hist ps :: L)) : w0.heap.size ≤ b ∧ (∀ j u, [txv, Value.int .i64 count, .map (some wb), hv][j]? = some u → w.cell? ⟨b, 14 + j, none⟩ = some u ∧ w.frozen? ⟨b, 14 + j, none⟩ = false) ∧
  (∃ a cap, txv = .slice a n cap ∧ n ≤ cap ∧ cap ≤ maxLen ∧ ∀ j, j < n → ∃ g o, a = some ⟨g, o, none⟩ ∧ w.cell? ⟨g, o + j, none⟩ = some (ptr bs j)) ∧ Go.Sep.MapAt encI (fun _ => True) w wb (ienc wr) ∧ (wr.map (·.1)).Nodup := by
 obtain ⟨_, h⟩ := h.engG_parts
 have h2 := h.swap.sl_val
 have h3 := h.rot3.mapAt
 have h4 := h.rot3.nodup
 refine ⟨h.cells_new (by simp), fun j u hj => ⟨h.cells_cell j hj, h.cells_free j hj⟩, ?_, h3, by simpa [ienc, List.map_map, Function.comp_def] using h4⟩
 obtain ⟨a, cap, h5, h6, h7, h8⟩ := h2
 refine ⟨a, cap, h5, h6, h7, fun j hj => ?_⟩
 obtain ⟨g, o, h9, h10, _⟩ := h8 j (ptr bs j) (by simp [ptrs, hj])
 exact ⟨g, o, h9, h10⟩
theorem _root_.Go.Sep.S.tx_see {bi : Nat} {v : TxV} {x : Tx} (h : S w0 w (txK bs bi v x :: L)) : w0.heap.size ≤ bi ∧ bi < w.heap.size ∧ (∀ j u, (txF v x)[j]? = some u → w.cell? ⟨bi, j, none⟩ = some u) ∧ (∀ j, w.frozen? ⟨bi, j, none⟩ = false) ∧
  Go.Sep.MapAt encI (fun _ => True) w v.mb (ienc x.writes) ∧ (x.writes.map (·.1)).Nodup ∧
  (∃ a cap, v.rv = .slice a x.reads.length cap ∧ x.reads.length ≤ cap ∧ cap ≤ maxLen ∧ ∀ j p, x.reads[j]? = some p → ∃ g o, a = some ⟨g, o, none⟩ ∧ w.cell? ⟨g, o + j * 2, none⟩ = some (.int .i64 p.1) ∧ w.cell? ⟨g, o + j * 2 + 1, none⟩ = some (.int .i64 p.2)) ∧
  (∃ a cap, v.fv = .slice a x.fore.length cap ∧ x.fore.length ≤ cap ∧ cap ≤ maxLen ∧ ∀ j p, x.fore[j]? = some p → ∃ g o, a = some ⟨g, o, none⟩ ∧ w.cell? ⟨g, o + j, none⟩ = some (ptr bs p)) ∧
  (∃ a cap, v.av = .slice a x.aft.length cap ∧ x.aft.length ≤ cap ∧ cap ≤ maxLen ∧ ∀ j p, x.aft[j]? = some p → ∃ g o, a = some ⟨g, o, none⟩ ∧ w.cell? ⟨g, o + j, none⟩ = some (ptr bs p)) := by
 have h0 : S w0 w (blk bi 172 (txF v x) :: sl 181 2 v.rv x.reads.length (pcells x.reads) :: mp encI (fun _ => True) v.mb (ienc x.writes) :: sl 167 1 v.fv x.fore.length (ptrs bs x.fore) :: sl 167 1 v.av x.aft.length (ptrs bs x.aft) :: L) :=
  h.conv (by simp only [all, txK, txR]; ac_rfl)
 have h1 := h0.swap
 have h2 := h0.tail.tail
 have h3 := h2.tail
 have h4 := h3.tail
 refine ⟨h0.blk_new, h0.blk_lt, fun j u hj => h0.blk_cell j hj, fun j => h0.blk_free j, h2.mapAt, by simpa [ienc, List.map_map, Function.comp_def] using h2.nodup, ?_, ?_, ?_⟩
 ·obtain ⟨a, cap, h5, h6, h7, _⟩ := h1.sl_val
  refine ⟨a, cap, h5, h6, h7, fun j p hj => ?_⟩
  rw [h5] at h1
  obtain ⟨g, o, h8, _, h9, h10⟩ := h1.sl_pair hj
  exact ⟨g, o, h8, h9, h10⟩
 ·obtain ⟨a, cap, h5, h6, h7, h8⟩ := h3.sl_val
  refine ⟨a, cap, h5, h6, h7, fun j p hj => ?_⟩
  obtain ⟨g, o, h9, h10, _⟩ := h8 j (ptr bs p) (by simp [ptrs, hj])
  exact ⟨g, o, h9, h10⟩
 ·obtain ⟨a, cap, h5, h6, h7, h8⟩ := h4.sl_val
  refine ⟨a, cap, h5, h6, h7, fun j p hj => ?_⟩
  obtain ⟨g, o, h9, h10, _⟩ := h8 j (ptr bs p) (by simp [ptrs, hj])
  exact ⟨g, o, h9, h10⟩
theorem _root_.Go.Sep.S.eng_tx (h : S w0 w (engO b bs k e :: L)) (hi : i < e.txs.length) : S w0 w (txK bs (blkOf bs i) (k.v i) (e.tx i) :: engX b bs k e i :: L) := by
 obtain ⟨hp, h⟩ := h.sep_elim.pur_elim
 have hl : i < (txPs bs k.tv e.txs).length := by rw [txPs_length]; exact hi
 have h1 := h.engG_out i hl
 rw [txPs_get hl] at h1
 exact S.swap (.sep_intro (.pur_intro hp h1.swap))
theorem _root_.Go.Sep.S.eng_back {v : TxV} {x : Tx} (hi : i < e.txs.length) (h : S w0 w (txK bs (blkOf bs i) v x :: engX b bs k e i :: L)) : S w0 w (engO b bs (k.set i v) { e with txs := e.txs.set i x } :: L) := by
 obtain ⟨hp, h⟩ := h.swap.sep_elim.pur_elim
 have hl : i < (txPs bs k.tv e.txs).length := by rw [txPs_length]; exact hi
 have h1 := h.swap.engG_in hl
 rw [txPs_set hi (by omega)] at h1
 refine .sep_intro (.pur_intro (by simpa [EngV.set] using hp) ?_)
 simp only [EngV.set, List.length_set] at h1 ⊢
 exact h1
structure TxC (w : World) (bs : List Nat) (p : Nat) (v : TxV) (x : Tx) : Prop where
 lt : p < w.heap.size
 free : ∀ j, w.frozen? ⟨p, j, Option.none⟩ = false
 level : w.cell? ⟨p, 0, Option.none⟩ = some (.int .i64 x.level)
 state : w.cell? ⟨p, 1, Option.none⟩ = some (.int .i64 x.state)
 start : w.cell? ⟨p, 2, Option.none⟩ = some (.int .i64 x.start)
 begun : w.cell? ⟨p, 3, Option.none⟩ = some (.int .i64 x.begun)
 ended : w.cell? ⟨p, 4, Option.none⟩ = some (.int .i64 x.ended)
 reads : w.cell? ⟨p, 5, Option.none⟩ = some v.rv
 writes : w.cell? ⟨p, 6, Option.none⟩ = some (.map (some v.mb))
 want1 : w.cell? ⟨p, 7, Option.none⟩ = some (.int .i64 x.want.1)
 want2 : w.cell? ⟨p, 8, Option.none⟩ = some (.int .i64 x.want.2)
 fore : w.cell? ⟨p, 9, Option.none⟩ = some v.fv
 aft : w.cell? ⟨p, 10, Option.none⟩ = some v.av
 why : w.cell? ⟨p, 11, Option.none⟩ = some (.int .i64 x.why)
 map : Go.Sep.MapAt encI (fun _ => True) w v.mb (ienc x.writes)
 keys : (x.writes.map (·.1)).Nodup
 rs : ∃ a cap, v.rv = .slice a x.reads.length cap ∧ x.reads.length ≤ cap ∧ cap ≤ maxLen ∧ ∀ j p, x.reads[j]? = some p → ∃ g o, a = some ⟨g, o, Option.none⟩ ∧ w.cell? ⟨g, o + j * 2, Option.none⟩ = some (.int .i64 p.1) ∧ w.cell? ⟨g, o + j * 2 + 1, Option.none⟩ = some (.int .i64 p.2)
 fs : ∃ a cap, v.fv = .slice a x.fore.length cap ∧ x.fore.length ≤ cap ∧ cap ≤ maxLen ∧ ∀ j p, x.fore[j]? = some p → ∃ g o, a = some ⟨g, o, Option.none⟩ ∧ w.cell? ⟨g, o + j, Option.none⟩ = some (ptr bs p)
 as_ : ∃ a cap, v.av = .slice a x.aft.length cap ∧ x.aft.length ≤ cap ∧ cap ≤ maxLen ∧ ∀ j p, x.aft[j]? = some p → ∃ g o, a = some ⟨g, o, Option.none⟩ ∧ w.cell? ⟨g, o + j, Option.none⟩ = some (ptr bs p)
theorem _root_.Go.Sep.S.eng_txc (h : S w0 w (engO b bs k e :: L)) (hi : i < e.txs.length) : w0.heap.size ≤ blkOf bs i ∧ TxC w bs (blkOf bs i) (k.v i) (e.tx i) := by
 obtain ⟨h1, h2, h3, h4, h5, h6, h7, h8, h9⟩ := (h.eng_tx hi).tx_see
 exact ⟨h1, h2, h4, h3 0 _ rfl, h3 1 _ rfl, h3 2 _ rfl, h3 3 _ rfl, h3 4 _ rfl, h3 5 _ rfl, h3 6 _ rfl, h3 7 _ rfl, h3 8 _ rfl, h3 9 _ rfl, h3 10 _ rfl, h3 11 _ rfl, h5, h6, h7, h8, h9⟩
structure EngC (w : World) (b : Nat) (bs : List Nat) (k : EngV) (e : Eng) : Prop where
 txs : w.cell? ⟨b, 14, Option.none⟩ = some k.txv
 count : w.cell? ⟨b, 15, Option.none⟩ = some (.int .i64 e.count)
 wr : w.cell? ⟨b, 16, Option.none⟩ = some (.map (some k.wb))
 hist : w.cell? ⟨b, 17, Option.none⟩ = some k.hv
 free : ∀ j, 14 ≤ j → j ≤ 17 → w.frozen? ⟨b, j, Option.none⟩ = false
 row : ∃ a cap, k.txv = .slice a e.txs.length cap ∧ e.txs.length ≤ cap ∧ cap ≤ maxLen ∧ ∀ j, j < e.txs.length → ∃ g o, a = some ⟨g, o, Option.none⟩ ∧ w.cell? ⟨g, o + j, Option.none⟩ = some (ptr bs j)
 map : Go.Sep.MapAt encI (fun _ => True) w k.wb (ienc e.wr)
 keys : (e.wr.map (·.1)).Nodup
 len : bs.length = e.txs.length ∧ bs.Nodup
theorem _root_.Go.Sep.S.eng_c (h : S w0 w (engO b bs k e :: L)) : w0.heap.size ≤ b ∧ EngC w b bs k e := by
 obtain ⟨_, h⟩ := h.sep_elim.pur_elim
 obtain ⟨h1, h2, h3, h4, h5⟩ := h.engG_see
 obtain ⟨h6, _⟩ := h.engG_parts
 refine ⟨h1, (h2 0 _ rfl).1, (h2 1 _ rfl).1, (h2 2 _ rfl).1, (h2 3 _ rfl).1, fun j h7 h8 => ?_, h3, h4, h5, h6.1, h6.2.2⟩
 have : j = 14 + 0 ∨ j = 14 + 1 ∨ j = 14 + 2 ∨ j = 14 + 3 := by omega
 rcases this with rfl | rfl | rfl | rfl
 ·exact (h2 0 _ rfl).2
 ·exact (h2 1 _ rfl).2
 ·exact (h2 2 _ rfl).2
 ·exact (h2 3 _ rfl).2
theorem _root_.Go.Sep.S.eng_set {j : Nat} {u : Value} (h : S w0 w (engO b bs k e :: L)) (hi : i < e.txs.length) (f : Tx → Tx) (hj : j < 12) (hF : txF (k.v i) (f (e.tx i)) = (txF (k.v i) (e.tx i)).set j u)
  (h1 : (f (e.tx i)).reads = (e.tx i).reads) (h2 : (f (e.tx i)).writes = (e.tx i).writes) (h3 : (f (e.tx i)).fore = (e.tx i).fore) (h4 : (f (e.tx i)).aft = (e.tx i).aft) :
  S w0 (w.setCell ⟨blkOf bs i, j, Option.none⟩ u) (engO b bs k (e.upd i f) :: L) := by
 have g1 := (h.eng_tx hi).sep_elim.blk_set j (by simpa [txF] using hj) u
 rw [← hF] at g1
 have hR : txR bs (k.v i) (f (e.tx i)) = txR bs (k.v i) (e.tx i) := by unfold txR; rw [h1, h2, h3, h4]
 have g2 : S w0 (w.setCell ⟨blkOf bs i, j, Option.none⟩ u) (txK bs (blkOf bs i) (k.v i) (f (e.tx i)) :: engX b bs k e i :: L) := by
  refine .sep_intro ?_
  rw [hR]; exact g1
 have g3 := S.eng_back hi g2
 have hp := h.sep_elim.pur_elim.1
 have e1 : k.set i (k.v i) = k := by
  unfold EngV.set EngV.v
  have : k.tv.set i ((k.tv[i]?).getD .none) = k.tv := by simp [show i < k.tv.length by omega]
  rw [this]
 rw [e1] at g3
 have e2 : { e with txs := e.txs.set i (f (e.tx i)) } = e.upd i f := by
  have := Eng.upd_set hi f
  unfold Eng.upd at this ⊢
  simp only at this
  rw [this]
 rwa [e2] at g3
end Go.Proofs.YtdlkjppppdminaaGreatDoor
/- Maps of whole numbers, and of slices: what a lookup gives. -/
namespace Go.Proofs.YtdlkjppppdminaaGreatDoor
open Go Go.RowKit Go.Sep
theorem Tryz.zero_int (w : World) : (zeroValue 3).run Tryz.prog w = .ok (.int .i64 0) w := by kernel_rfl
theorem Tryz.zero_ints (w : World) : (zeroValue 47).run Tryz.prog w = .ok (.slice none 0 0) w := by kernel_rfl
theorem Tryz.keyInt : KeyOk Tryz.prog 3 encI (fun _ => True) := keyOk_int Tryz.underlying3
theorem getD_ienc (o : Option Int) : (o.map encI).getD (.int .i64 0) = .int .i64 (o.getD 0) := by cases o <;> rfl
theorem Tryz.look2 {w : World} {b : Nat} {D : List (Int × Int)} (h : Go.Sep.MapAt encI (fun _ => True) w b (ienc D)) (k : Int) :
  (Instr.lookup 101 (.map (some b)) (.int .i64 k) true).run Tryz.prog w = .ok (.tuple #[.int .i64 ((mget D k).getD 0), .bool (mget D k).isSome]) w := by
 have := run_lookup_at Tryz.keyInt Tryz.underlying101 (Tryz.zero_int w) h k trivial true
 rw [ienc_get, getD_ienc] at this
 simpa [encI] using this
theorem Tryz.look1 {w : World} {b : Nat} {D : List (Int × Int)} (h : Go.Sep.MapAt encI (fun _ => True) w b (ienc D)) (k : Int) :
  (Instr.lookup 101 (.map (some b)) (.int .i64 k) false).run Tryz.prog w = .ok (.int .i64 ((mget D k).getD 0)) w := by
 have := run_lookup_at Tryz.keyInt Tryz.underlying101 (Tryz.zero_int w) h k trivial false
 rw [ienc_get, getD_ienc] at this
 simpa [encI] using this
theorem Tryz.look2n (w : World) (k : Int) : (Instr.lookup 101 (.map none) (.int .i64 k) true).run Tryz.prog w = .ok (.tuple #[.int .i64 0, .bool false]) w := by
 have := run_lookup_nil Tryz.keyInt Tryz.underlying101 (Tryz.zero_int w) k trivial true
 simpa [encI] using this
theorem Tryz.look1n (w : World) (k : Int) : (Instr.lookup 101 (.map none) (.int .i64 k) false).run Tryz.prog w = .ok (.int .i64 0) w := by
 have := run_lookup_nil Tryz.keyInt Tryz.underlying101 (Tryz.zero_int w) k trivial false
 simpa [encI] using this
theorem Tryz.lookL {w : World} {b : Nat} {E : List (Int × (Value × List Int))} (h : Go.Sep.MapAt encI (fun _ => True) w b (E.map fun p => (p.1, p.2.1))) (k : Int) :
  (Instr.lookup 102 (.map (some b)) (.int .i64 k) false).run Tryz.prog w = .ok (lineOf E k).1 w := by
 have := run_lookup_at Tryz.keyInt Tryz.underlying102 (Tryz.zero_ints w) h k trivial false
 rw [mget_map (fun x : Value × List Int => x.1)] at this
 have e : ((mget E k).map fun x => x.1).getD (.slice none 0 0) = (lineOf E k).1 := by unfold lineOf; cases mget E k <;> rfl
 rw [e] at this
 simpa [encI] using this
theorem ienc_perm {a b : List (Int × Int)} (h : (ienc a).Perm (ienc b)) : a.Perm b := by
 have := h.map fun p : Int × Value => (p.1, match p.2 with | .int _ n => n | _ => 0)
 simpa [ienc, List.map_map, Function.comp_def, Sep.encI] using this
theorem ienc_snoc (a : List (Int × Int)) (p : Int × Int) : ienc a ++ [(p.1, Sep.encI p.2)] = ienc (a ++ [p]) := by simp [ienc]
theorem ienc_mem {D : List (Int × Int)} {d : Int × Value} (h : d ∈ ienc D) : ∃ p ∈ D, d = (p.1, Sep.encI p.2) := by
 obtain ⟨p, hp, rfl⟩ := List.mem_map.1 h; exact ⟨p, hp, rfl⟩
end Go.Proofs.YtdlkjppppdminaaGreatDoor
/- The program's table of locks: the readers' walks. -/
namespace Go.Proofs.YtdlkjppppdminaaGreatDoor
open Go Go.RowKit Go.Sep
theorem tholds_any (w0 w : World) (T b o : Nat) (t : Tbl) (key : Int) (L : List HProp) (hs : S w0 w (tabP T b o t :: L)) :
  Calls Tryz.prog 117 #[.pointer (some ⟨b, o, none⟩), .int .i64 key] w fun e w' => e = .returned (.int .i64 ((mget t.hold key).getD 0)) ∧ w = w' := by
 rcases hs.tab_cases with h0 | ⟨bh, bl, bb, E, h⟩
 ·obtain ⟨rfl, h1⟩ := h0.tab0_cells
  have hc : w.cell? ⟨b, o + 0, none⟩ = some (.map none) := S.cells_cell (vs := [.map none, .map none, .map none]) h1 0 rfl
  rw [Nat.add_zero] at hc
  have hl := Tryz.look1n w key
  clear hs h0 h1
  go_enter Tryz.func117, Tryz.ntmps117
  go_wp2
  go_ret
  exact ⟨rfl, rfl⟩
 ·obtain ⟨hc, _, _, hm, _, _⟩ := h.tab_see
  have hl := Tryz.look1 hm key
  clear hs h hm
  go_enter Tryz.func117, Tryz.ntmps117
  go_wp2
  go_ret
  exact ⟨rfl, rfl⟩
theorem twaits_any (w0 w : World) (T b o : Nat) (t : Tbl) (x : Int) (L : List HProp) (hs : S w0 w (tabP T b o t :: L)) :
  Calls Tryz.prog 116 #[.pointer (some ⟨b, o, none⟩), .int .i64 x] w fun e w' => e = .returned (.int .i64 ((mget t.wait x).getD (-1))) ∧ w = w' := by
 rcases hs.tab_cases with h0 | ⟨bh, bl, bb, E, h⟩
 ·obtain ⟨rfl, h1⟩ := h0.tab0_cells
  have hc : w.cell? ⟨b, o + 2, none⟩ = some (.map none) := S.cells_cell (vs := [.map none, .map none, .map none]) h1 2 rfl
  have hl := Tryz.look2n w x
  clear hs h0 h1
  go_enter Tryz.func116, Tryz.ntmps116
  go_wp2
  go_ret
  exact ⟨rfl, rfl⟩
 ·obtain ⟨_, _, hc, _, hm, _⟩ := h.tab_see
  have hl := Tryz.look2 hm x
  clear hs h hm
  cases hg : mget t.wait x with
  | none =>
   rw [hg] at hl
   simp only [Option.getD_none, Option.isSome_none] at hl
   go_enter Tryz.func116, Tryz.ntmps116
   go_wp2
   go_ret
   exact ⟨rfl, rfl⟩
  | some y =>
   rw [hg] at hl
   simp only [Option.getD_some, Option.isSome_some] at hl
   go_enter Tryz.func116, Tryz.ntmps116
   go_wp2
   go_ret
   exact ⟨rfl, rfl⟩
set_option maxRecDepth 20000 in
set_option maxHeartbeats 4000000 in
theorem tbegin_any (w0 w : World) (T b o : Nat) (t : Tbl) (L : List HProp) (hs : S w0 w (tabP T b o t :: L)) :
  Calls Tryz.prog 153 #[.pointer (some ⟨b, o, none⟩)] w fun e w' => e = .returned (.tuple #[]) ∧ ∃ bh bl bb E, S w0 w' (tabM T b o bh bl bb E t :: L) := by
 have heq := fun w r => run_eql_map_nil (P := Tryz.prog) w 101 3 3 r Tryz.underlying101
 rcases hs.tab_cases with h0 | ⟨bh, bl, bb, E, h⟩
 ·obtain ⟨rfl, h1⟩ := h0.tab0_cells
  have s3 := (((h1.made (κ := Int) (enc := encI) (ok := fun _ => True)).made (κ := Int) (enc := encI) (ok := fun _ => True)).made (κ := Int) (enc := encI) (ok := fun _ => True)).rot4
  have c0 : w.cell? ⟨b, o + 0, none⟩ = some (.map none) := S.cells_cell (vs := [.map none, .map none, .map none]) h1 0 rfl
  have e : ∀ j < 3, ([.map none, .map none, .map none] : List Value)[j]? = some (.map none) := fun j hj => by match j, hj with | 0, _ => rfl | 1, _ => rfl | 2, _ => rfl
  have hc0 := And.intro (S.cells_cell (vs := [.map none, .map none, .map none]) s3 0 (e 0 (by omega))) (S.cells_free (vs := [.map none, .map none, .map none]) s3 0 (e 0 (by omega)))
  have hc1 := And.intro (S.cells_cell (vs := [.map none, .map none, .map none]) s3 1 (e 1 (by omega))) (S.cells_free (vs := [.map none, .map none, .map none]) s3 1 (e 1 (by omega)))
  have hc2 := And.intro (S.cells_cell (vs := [.map none, .map none, .map none]) s3 2 (e 2 (by omega))) (S.cells_free (vs := [.map none, .map none, .map none]) s3 2 (e 2 (by omega)))
  rw [Nat.add_zero] at hc0 c0
  obtain ⟨d0, f0⟩ := hc0
  obtain ⟨d1, f1⟩ := hc1
  obtain ⟨d2, f2⟩ := hc2
  have hmm := @run_makeMap Tryz.prog
  have hfs := World.frozen?_setCell
  have H := hid s3
  clear hs h0 h1 e s3
  go_enter Tryz.func153, Tryz.ntmps153
  go_wp2
  go_end0
  refine ⟨rfl, w.heap.size, w.heap.size + 1, w.heap.size + 1 + 1, [], ?_⟩
  have s4 := ((H.out.set 0 (by simp) (.map (some w.heap.size))).set 1 (by simp) (.map (some (w.heap.size + 1)))).set 2 (by simp) (.map (some (w.heap.size + 1 + 1)))
  simp only [List.set_cons_zero, List.set_cons_succ, Nat.add_zero, World.size_alloc] at s4
  refine S.tab_join rfl (s4.conv ?_)
  simp only [ienc, List.map_nil, all, emp_sep]
  rw [sep_left_comm (mp _ _ (w.heap.size + 1) _) (mp _ _ w.heap.size _), sep_left_comm (mp _ _ (w.heap.size + 1 + 1) _) (mp _ _ w.heap.size _)]
 ·obtain ⟨hc, _, _, _, _, _⟩ := h.tab_see
  clear hs
  have H := hid h
  clear h
  go_enter Tryz.func153, Tryz.ntmps153
  go_wp2
  go_end0
  exact ⟨rfl, bh, bl, bb, E, H.out⟩
theorem line_of {E : List (Int × (Value × List Int))} {t : Tbl} (h : E.map (fun p => (p.1, p.2.2)) = t.line) (k : Int) : (lineOf E k).2 = (mget t.line k).getD [] := by
 rw [← h, mget_map (fun x : Value × List Int => x.2)]
 unfold lineOf
 cases mget E k <;> rfl
end Go.Proofs.YtdlkjppppdminaaGreatDoor
/- The program's table of locks: who asks. -/
namespace Go.Proofs.YtdlkjppppdminaaGreatDoor
open Go Go.RowKit Go.Sep
def errV (e : Int) : Value := if e = 0 then .nilIface else .iface 54 (.int .i64 e)
def AskPost (w0 : World) (b o : Nat) (t : Tbl) (tx key : Int) (c : Bool) (L : List HProp) (e : Ending) (w' : World) : Prop :=
 e = .returned (.tuple #[.bool (tbAsk t tx key c).2.1, errV (tbAsk t tx key c).2.2]) ∧ S w0 w' (tabP 3 b o (tbAsk t tx key c).1 :: L)
set_option maxRecDepth 20000 in
set_option maxHeartbeats 4000000 in
theorem task_any (w0 w : World) (b o : Nat) (t : Tbl) (tx key : Int) (r : Int → Nat) (c : Bool) (L : List HProp) (hs : S w0 w (tabP 3 b o t :: L)) (hr : Ranked t r)
  (hch : ∀ h, mget t.hold key = some h → ∃ n, chase t tx n h = some c) (hb : (lineAt t key).length ≤ 1000000) :
  Calls Tryz.prog 118 #[.pointer (some ⟨b, o, none⟩), .int .i64 tx, .int .i64 key] w (AskPost w0 b o t tx key c L) := by
 by_cases h1 : key < 0
 ·have H := hid hs; clear hs hr hch hb
  go_enter Tryz.func118, Tryz.ntmps118
  go_wp2_with fail
  go_ret2
  have ha : tbAsk t tx key c = (t, false, 2) := if_pos (by omega)
  exact ⟨by rw [ha]; rfl, by rw [ha]; exact H.out⟩
 by_cases h2 : 10 ≤ key
 ·have H := hid hs; clear hs hr hch hb
  go_enter Tryz.func118, Tryz.ntmps118
  go_wp2_with fail
  go_ret2
  have ha : tbAsk t tx key c = (t, false, 2) := if_pos (by omega)
  exact ⟨by rw [ha]; rfl, by rw [ha]; exact H.out⟩
 by_cases h3 : tx < 1
 ·have H := hid hs; clear hs hr hch hb
  go_enter Tryz.func118, Tryz.ntmps118
  go_wp2_with fail
  go_ret2
  have ha : tbAsk t tx key c = (t, false, 2) := if_pos (by omega)
  exact ⟨by rw [ha]; rfl, by rw [ha]; exact H.out⟩
 have hno : ¬ (key < 0 ∨ 10 ≤ key ∨ tx < 1) := by omega
 have HN := hid hno
 clear hno
 have H := hid hs; have HR := hid hr; have HC := hid hch
 clear hs hr hch
 go_enter Tryz.func118, Tryz.ntmps118
 go_wp2_with fail
 with_reducible refine (tbegin_any w0 _ _ b o t L H.out).mono ?_
 rintro e w1 ⟨rfl, bh, bl, bb, E, hs1⟩
 have H1 := hid hs1
 obtain ⟨c0, c1, c2, m0, m2, _⟩ := hs1.tab_see
 have l2 := Tryz.look2 m2 tx
 clear H
 cases hw : mget t.wait tx with
 | some kk =>
  rw [hw] at l2
  simp only [Option.getD_some, Option.isSome_some] at l2
  clear hs1 m0 m2 c0 c1 HR HC
  go_wp2_with fail
  go_ret2
  have ha : tbAsk t tx key c = (t, false, 6) := by unfold tbAsk; rw [if_neg HN.out, hw]; rfl
  exact ⟨by rw [ha]; rfl, by rw [ha]; exact H1.out.tab_made⟩
 | none =>
  rw [hw] at l2
  simp only [Option.getD_none, Option.isSome_none] at l2
  have l0 := Tryz.look2 m0 key
  cases hh : mget t.hold key with
  | none =>
   rw [hh] at l0
   simp only [Option.getD_none, Option.isSome_none] at l0
   obtain ⟨w2, u2, hs2⟩ := hs1.tab_hold_put Tryz.keyInt Tryz.underlying101 key tx
   simp only [encI] at u2
   have H2 := hid hs2
   clear hs1 hs2 m0 m2 c1 HR HC
   go_wp2_with fail
   go_ret2
   have ha : tbAsk t tx key c = ({ t with hold := mput t.hold key tx }, true, 0) := by unfold tbAsk; rw [if_neg HN.out, hw, hh]; rfl
   exact ⟨by rw [ha]; rfl, by rw [ha]; exact H2.out.tab_made⟩
  | some h =>
   rw [hh] at l0
   simp only [Option.getD_some, Option.isSome_some] at l0
   by_cases hx : h = tx
   ·subst hx
    clear hs1 m0 m2 c1 HR HC
    go_wp2_with fail
    go_ret2
    have ha : tbAsk t h key c = (t, true, 0) := by unfold tbAsk; rw [if_neg HN.out, hw, hh]; exact if_pos rfl
    exact ⟨by rw [ha]; rfl, by rw [ha]; exact H1.out.tab_made⟩
   ·obtain ⟨n0, hn0⟩ := HC.out h hh
    have lk2 := fun x => Tryz.look2 m2 x
    have lk0 := fun k => Tryz.look1 m0 k
    have HN0 := hid hn0
    clear hs1 m0 m2 HC hn0
    go_wp2_with fail
    go_loopw [12] (fun x wr => ∃ (n : Nat) (y : Int), x = .int .i64 y ∧ Hid (chase t tx n y = some c) ∧ wr = w1) (fun x _ => r (intOf x))
    case atStart => exact ⟨n0, h, rfl, HN0, rfl⟩
    case round =>
     obtain ⟨n, y, rfl, hn, rfl⟩ := hrel
     cases n with
     | zero => exact absurd hn.out (by simp [chase])
     | succ n =>
      by_cases hy : y = tx
      ·subst hy
       have hc : c = true := by have := hn.out; unfold chase at this; rw [if_pos rfl] at this; exact (Option.some.inj this).symm
       subst hc
       go_wp2_with fail
       go_ret2
       have ha : tbAsk t y key true = (t, false, 11) := by unfold tbAsk; rw [if_neg HN.out, hw, hh]; show (if h = y then _ else _) = _; rw [if_neg hx]; rfl
       exact ⟨by rw [ha]; rfl, by rw [ha]; exact H1.out.tab_made⟩
      ·cases hwy : mget t.wait y with
       | some k =>
        have hn2 : chase t tx n ((mget t.hold k).getD 0) = some c := by have := hn.out; unfold chase at this; rw [if_neg hy, hwy] at this; exact this
        have hrk := HR.out y k hwy
        have hl := lk2 y
        rw [hwy] at hl
        simp only [Option.getD_some, Option.isSome_some] at hl
        have hl0 := lk0 k
        have HN2 := hid hn2
        clear hn2 hn lk2 lk0 hwy
        go_wp2_with fail
        go_roundw
        case rel => exact ⟨n, _, rfl, HN2, trivial⟩
        case measure => simpa [intOf] using hrk
       | none =>
        have hc : c = false := by have := hn.out; unfold chase at this; rw [if_neg hy, hwy] at this; exact (Option.some.inj this).symm
        subst hc
        have hl := lk2 y
        rw [hwy] at hl
        simp only [Option.getD_none, Option.isSome_none] at hl
        obtain ⟨w2, u2, hs2⟩ := H1.out.tab_wait_put Tryz.keyInt Tryz.underlying101 tx key
        simp only [encI] at u2
        obtain ⟨hp, _⟩ := hs2.tab_parts
        have hx3 := line_of hp key
        have hk := hs2.tab_line key
        rw [hx3] at hk
        have hsee := hk.drew.swap.tabX_see
        have d1 := hk.swap.tabX_see.2.1
        have hlt := World.block_lt_of_cell? w2 _ d1
        have lA := Tryz.lookL hsee.2.2.2.2.2 key
        obtain ⟨i0, hi0, hz0, hz1, hz2⟩ := info_parts Tryz.info3
        have hs3 : S w0 (w2.alloc (.cells #[.int .i64 tx] 3)).drew (blk w2.heap.size 3 [.int .i64 tx] :: sl 3 1 (lineOf E key).1 (lineAt t key).length (icells (lineAt t key)) :: tabX 3 b o bh bl bb E key { t with wait := mput t.wait tx key } :: L) := by
         have h5 := (hk.alloc #[.int .i64 tx] 3).drew
         simpa [lineAt] using h5
        have hn3 := news_blk hs3
        have hs4 := hs3.tail
        have hsee2 := hs4.swap.tabX_see
        have lA2 := Tryz.lookL hsee2.2.2.2.2.2 key
        have H3 := hid hs4; have H4 := hid hn3
        have hil := icells_length (lineAt t key)
        have HL := hid hil
        clear hs2 hk hsee hp HR HN0 lk2 lk0 l0 l2 c0 hs3 hs4 hn3 hsee2 hil
        go_wp2_with fail
        clear c1 c2 hl u2
        go_region_law (refine step_append rfl (.tmp 99) (.tmp 101) 47 rfl 3 i0 _ 1 8 Tryz.underlying47 hi0 hz0 hz1 hz2 rfl (by decide) H3.out rfl (some ⟨w2.heap.size, 0, none⟩) 1 1 [.int .i64 tx] rfl rfl H4.out (by simp [Value.oneCell']) (by unfold maxLen; omega) (by omega) ?_; intro v1 w1 hs1; obtain ⟨_, c9, _⟩ := hs1.swap.tabX_see; obtain ⟨w3, u3, hs5⟩ := S.tabX_put Tryz.keyInt Tryz.underlying102 (k := key) (v := v1) (l := lineAt t key ++ [tx]) (by simpa [icells] using hs1); simp only [encI] at u3; have HS := hid hs5; clear hs1 hs5)
        all_goals
         go_wp2_with fail
         go_ret2
         have ha : tbAsk t tx key false = ({ t with wait := mput t.wait tx key, line := mput t.line key (lineAt t key ++ [tx]) }, false, 0) := by unfold tbAsk; rw [if_neg HN.out, hw, hh]; show (if h = tx then _ else _) = _; rw [if_neg hx]; rfl
         exact ⟨by rw [ha]; rfl, by rw [ha]; exact HS.out.tab_made⟩
end Go.Proofs.YtdlkjppppdminaaGreatDoor
namespace Go.Proofs.YtdlkjppppdminaaGreatDoor
open Go Go.RowKit Go.Sep
theorem drop1_any (x tx : Int) (bx : Nat) (w : World) (hc : w.cell? ⟨bx, 0, none⟩ = some (.int .i64 tx)) :
  Calls Tryz.prog 173 #[.int .i64 x, .pointer (some ⟨bx, 0, none⟩)] w fun e w' => e = .returned (.bool (x == tx)) ∧ w = w' := by
 go_enter Tryz.func173, Tryz.ntmps173
 go_wp2
 go_ret
 exact ⟨rfl, rfl⟩
abbrev dropF (bx : Nat) : Value := .func (.func 173) #[] #[.pointer (some ⟨bx, 0, none⟩)]
def ixOf (l : List Int) (tx : Int) : Int := match l.findIdx? (fun x => x == tx) with | some i => (i : Int) | none => -1
set_option maxRecDepth 20000 in
theorem index1_any (w0 w : World) (a : Option Addr) (cap : Nat) (l : List Int) (tx : Int) (bx : Nat) (L : List HProp) (hs : S w0 w (sl 3 1 (.slice a l.length cap) l.length (icells l) :: L)) (hc : w.cell? ⟨bx, 0, none⟩ = some (.int .i64 tx)) (hb : l.length ≤ 1000000) :
  Calls Tryz.prog 186 #[.slice a l.length cap, dropF bx] w fun e w' => e = .returned (.int .i64 (ixOf l tx)) ∧ w = w' := by
 have H := hid hs
 clear hs
 go_enter Tryz.func186, Tryz.ntmps186
 go_wp2_with fail
 go_loopw [8] (fun x wr => ∃ i : Nat, i ≤ l.length ∧ x = .int .i64 i ∧ (∀ j < i, l[j]? ≠ some tx) ∧ wr = w) (fun x _ => l.length - (intOf x).toNat)
 case atStart => exact ⟨0, Nat.zero_le _, rfl, fun _ h => absurd h (Nat.not_lt_zero _), rfl⟩
 case round =>
  obtain ⟨i, hi, rfl, hno, rfl⟩ := hrel
  by_cases hlt : i < l.length
  ·have hp : l[i]? = some l[i] := by simp [hlt]
   generalize l[i] = p at hp
   obtain ⟨g, og, rfl, hg, c1⟩ := H.out.sl_int hp
   have HP := hid hp
   have HN := hid hno
   clear hp hno
   by_cases hx : p = tx
   ·subst hx
    have hbe : (p == p) = true := by simp
    go_wp2_with (go_at_call 173; refine (drop1_any _ _ _ _ hc).mono ?_; rintro e w' ⟨rfl, rfl⟩)
    go_ret
    have hi2 : ixOf l p = i := by
     unfold ixOf
     have : l.findIdx? (fun x => x == p) = some i := by
      rw [List.findIdx?_eq_some_iff_getElem]
      refine ⟨hlt, ?_, fun j hj => ?_⟩
      ·have := HP.out; rw [List.getElem?_eq_some_iff] at this; obtain ⟨_, h2⟩ := this; simp [h2]
      ·have := HN.out j hj; simp only [ne_eq, beq_iff_eq]; intro h3; exact this (by rw [← h3]; simp)
     rw [this]
    exact ⟨by rw [hi2]; rfl, rfl⟩
   ·have hbe : (p == tx) = false := by simp [hx]
    go_wp2_with (go_at_call 173; refine (drop1_any _ _ _ _ hc).mono ?_; rintro e w' ⟨rfl, rfl⟩)
    go_roundw
    case rel => exact ⟨i + 1, by omega, by go_num, fun j hj => by
     rcases Nat.lt_succ_iff_lt_or_eq.1 hj with h | h
     ·exact HN.out j h
     ·subst h; rw [HP.out]; intro h; exact hx (Option.some.inj h), trivial⟩
    case measure => simp [intOf]; omega
  ·have hi2 : ixOf l tx = -1 := by
    unfold ixOf
    have : l.findIdx? (fun x => x == tx) = none := by
     rw [List.findIdx?_eq_none_iff]
     intro x hx
     obtain ⟨j, hj⟩ := List.getElem?_of_mem hx
     have hjl := (List.getElem?_eq_some_iff.1 hj).1
     have := hno j (by omega)
     simp only [beq_eq_false_iff_ne, ne_eq]
     intro h; subst h; exact this hj
    rw [this]
   have HI := hid hi2
   clear hi2 hno
   go_wp2_with fail
   go_ret
   exact ⟨by rw [HI.out]; rfl, rfl⟩
set_option maxRecDepth 40000 in
set_option maxHeartbeats 4000000 in
theorem delete1_any (w0 w : World) (a : Option Addr) (cap : Nat) (l : List Int) (tx : Int) (bx : Nat) (L : List HProp)
  (hs : S w0 w (sl 3 1 (.slice a l.length cap) l.length (icells l) :: blk bx 3 [.int .i64 tx] :: L)) (hb : l.length ≤ 1000000) :
  Calls Tryz.prog 172 #[.slice a l.length cap, dropF bx] w fun e w' => ∃ v', e = .returned v' ∧
   S w0 w' (sl 3 1 v' (strike l tx).length (icells (strike l tx)) :: blk bx 3 [.int .i64 tx] :: L) := by
 have hc := hs.swap.blk_cell 0 rfl
 have H := hid hs
 clear hs
 cases hx : l.findIdx? (fun x => x == tx) with
 | none =>
  have hix : ixOf l tx = -1 := by unfold ixOf; rw [hx]
  have hst : strike l tx = l := by
   apply strike_none
   rw [List.findIdx?_eq_none_iff] at hx
   intro x h; simpa using hx x h
  rw [hst]
  clear hx hst
  go_enter Tryz.func172, Tryz.ntmps172
  go_wp2_with (go_at_call 186; refine (index1_any w0 _ a cap l tx bx _ H.out hc hb).mono ?_; rw [hix]; rintro e w' ⟨rfl, rfl⟩)
  go_ret
  exact ⟨_, rfl, H.out⟩
 | some i0 =>
  have hix : ixOf l tx = (i0 : Int) := by unfold ixOf; rw [hx]
  rw [List.findIdx?_eq_some_iff_getElem] at hx
  obtain ⟨hi0, hat, hbef⟩ := hx
  have hst : strike (l.take (i0 + 1)) tx = l.take i0 := by
   rw [take_succ_get (show l[i0]? = some l[i0] by simp [hi0]), strike_snoc, if_pos (by simpa using hat)]
   apply strike_none
   intro x h
   obtain ⟨j, hj⟩ := List.getElem?_of_mem h
   rw [List.getElem?_take] at hj
   split at hj
   ·rename_i hji
    have hjl := (List.getElem?_eq_some_iff.1 hj)
    obtain ⟨h1, h2⟩ := hjl
    have := hbef j hji
    rw [h2] at this
    simpa using this
   ·cases hj
  obtain ⟨g, og, rfl, hg, _⟩ := H.out.sl_int (show l[i0]? = some l[i0] by simp [hi0])
  clear hat
  have HS := hid hst
  clear hst hbef
  have hb0 : ((i0 : Int) == -1) = false := by simp
  go_enter Tryz.func172, Tryz.ntmps172
  go_wp2_with (go_at_call 186; refine (index1_any w0 _ _ cap l tx bx _ H.out hc hb).mono ?_; rw [hix]; rintro e w' ⟨rfl, rfl⟩)
  go_loopw [5, 6, 7] (fun u c _ wr => ∃ (i j : Nat) (cur : List Int), u = .int .i64 i ∧ c = .int .i64 j ∧ i < j ∧ j ≤ l.length ∧ cur.length = l.length ∧ Hid (cur.take i = strike (l.take j) tx ∧ cur.drop j = l.drop j) ∧
   S w0 wr (sl 3 1 (.slice (some ⟨g, og, none⟩) l.length cap) l.length (icells cur) :: blk bx 3 [.int .i64 tx] :: L)) (fun _ c _ _ => l.length - (intOf c).toNat)
  case atStart => exact ⟨i0, i0 + 1, l, rfl, by go_num, by omega, by omega, rfl, ⟨HS.out.symm, rfl⟩, H.out⟩
  case round =>
   obtain ⟨i, j, cur, rfl, rfl, hij, hj, hlen, hcur, hsr⟩ := hrel
   clear hc
   have hc := hsr.swap.blk_cell 0 rfl
   by_cases hlt : j < l.length
   ·have hp : l[j]? = some l[j] := by simp [hlt]
    generalize l[j] = p at hp
    have hpc : cur[j]? = some p := by
     have := congrArg (fun x => x[0]?) hcur.out.2
     simpa [hp] using this
    have hnth := take_succ_get hp
    obtain ⟨hc1, hc2⟩ := hcur.out
    have hstk : strike (l.take (j + 1)) tx = if p = tx then strike (l.take j) tx else strike (l.take j) tx ++ [p] := by rw [hnth, strike_snoc]
    have hdrop : cur.drop (j + 1) = l.drop (j + 1) := by
     have := congrArg (fun x => x.drop 1) hc2
     simpa [List.drop_drop] using this
    obtain ⟨gx, ox, hg0, _, d1⟩ := hsr.sl_int (a := some ⟨g, og, none⟩) hpc
    obtain ⟨rfl, rfl⟩ : g = gx ∧ og = ox := by simpa using hg0
    have hlen2 : (icells cur).length = l.length := by rw [icells_length]; exact hlen
    by_cases hx : p = tx
    ·subst hx
     have hbe : (p == p) = true := by simp
     have hfin : cur.take i = strike (l.take (j + 1)) p ∧ cur.drop (j + 1) = l.drop (j + 1) := ⟨by rw [hstk, if_pos rfl]; exact hc1, hdrop⟩
     have HF := hid hfin; have HR := hid hsr
     have HL := hid hlen
     clear hfin hsr hc1 hc2 hdrop hstk hlen2 hnth hpc hp hcur hlen hg0
     go_wp2_with (go_at_call 173; refine (drop1_any _ _ _ _ hc).mono ?_; rintro e w' ⟨rfl, rfl⟩)
     go_roundw
     case rel => exact ⟨i, j + 1, cur, rfl, by go_num, by omega, by omega, HL.out, HF, HR.out⟩
     case measure => simp [intOf]; omega
    ·have hbe : (p == tx) = false := by simp [hx]
     have hfin : (cur.set i p).take (i + 1) = strike (l.take (j + 1)) tx ∧ (cur.set i p).drop (j + 1) = l.drop (j + 1) := by
      refine ⟨?_, ?_⟩
      ·rw [hstk, if_neg hx, ← hc1, take_succ_get (show (cur.set i p)[i]? = some p from List.getElem?_set_self (by omega)), List.take_set_of_le (by omega)]
      ·rw [List.drop_set_of_lt (by omega)]; exact hdrop
     have hset := hsr.sl_set rfl i (by omega) (.int .i64 p)
     have hset2 : (icells cur).set i (.int .i64 p) = icells (cur.set i p) := by simp [icells, List.map_set]
     rw [hset2] at hset
     obtain ⟨gy, oy, _, hg1, _, _, _, _, hd0, hf0⟩ := hsr.sl_some (by omega)
     obtain ⟨⟨rfl, rfl⟩, -⟩ : (g = gy ∧ og = oy) ∧ _ := by simpa using hg1
     have c0 := hd0 i _ (List.getElem?_eq_getElem (by omega))
     have f0 := hf0 (og + i)
     generalize (icells cur)[i]'(by omega) = u0 at c0
     have HF := hid hfin; have HR := hid hset
     have HL : Hid ((cur.set i p).length = l.length) := hid (by rw [List.length_set]; exact hlen)
     clear hfin hset hset2 hsr hc1 hc2 hdrop hstk hlen2 hnth hpc hp hcur hlen hg0 hg1 hd0 hf0
     go_wp2_with (go_at_call 173; refine (drop1_any _ _ _ _ hc).mono ?_; rintro e w' ⟨rfl, rfl⟩)
     go_roundw
     case rel => exact ⟨i + 1, j + 1, cur.set i p, by go_num, by go_num, by omega, by omega, HL.out, HF, HR.out⟩
     case measure => simp [intOf]; omega
   ·have hjl : j = l.length := by omega
    subst hjl
    obtain ⟨hc1, _⟩ := hcur.out
    rw [List.take_length] at hc1
    have hil : i ≤ l.length := by omega
    have hcl : ∀ ty, (Builtin.clear_ #[47] ty #[.slice (some ⟨g, og + i, none⟩) (l.length - i) (cap - i)]).run Tryz.prog wr = .ok (.tuple #[]) (wr.setCells g (og + i) (List.replicate (l.length - i) (.int .i64 0))) := by
     intro ty
     obtain ⟨gy, oy, _, hg1, _, _, _, _, hd0, hf0⟩ := hsr.sl_some (by rw [icells_length]; omega)
     obtain ⟨⟨rfl, rfl⟩, -⟩ : (g = gy ∧ og = oy) ∧ _ := by simpa using hg1
     refine Lib.run_clear_slice wr _ _ ty _ Tryz.underlying47 Tryz.zero_int rfl rfl g (og + i) _ _ (by omega) (fun j hj => ?_) (fun j hj => hf0 _)
     have : i + j < (icells cur).length := by rw [icells_length]; omega
     rw [Nat.add_assoc, hd0 (i + j) _ (List.getElem?_eq_getElem this)]
     rfl
    have hfin : S w0 (wr.setCells g (og + i) (List.replicate (l.length - i) (.int .i64 0))) (sl 3 1 (.slice (some ⟨g, og, none⟩) i cap) i (icells (strike l tx)) :: blk bx 3 [.int .i64 tx] :: L) := by
     have h1 := hsr.sl_setCells (List.replicate (l.length - i) (.int .i64 0)) i (by rw [icells_length, List.length_replicate]; omega)
     have h2 := h1.sl_take i hil
     rw [← hc1]
     rw [Nat.mul_one, List.append_assoc, List.take_left' (by rw [List.length_take, icells_length]; omega)] at h2
     have e : icells (cur.take i) = (icells cur).take i := by simp [icells, List.map_take]
     rw [e]; exact h2
    have hsl : (strike l tx).length = i := by rw [← hc1, List.length_take]; omega
    have HF := hid hfin; have HS2 := hid hsl
    have hcp := hsr.sl_val
    obtain ⟨_, _, hv, hcap, hcap2, _⟩ := hcp
    obtain ⟨-, rfl⟩ : _ ∧ cap = _ := by simpa using hv
    unfold maxLen at hcap2
    clear hfin hsl hsr hc1 hcur hlen hv
    go_wp2_with fail
    go_ret
    exact ⟨_, rfl, by rw [HS2.out]; exact HF.out⟩
end Go.Proofs.YtdlkjppppdminaaGreatDoor
