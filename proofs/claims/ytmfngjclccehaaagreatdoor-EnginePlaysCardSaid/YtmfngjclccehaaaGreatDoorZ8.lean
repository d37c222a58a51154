/- Transactions at the same time: what holds of an engine is kept by all that is asked of it. No walk in sight. -/
import Derived.Test.YtmfngjclccehaaaGreatDoorZ0
import Derived.Test.YtmfngjclccehaaaGreatDoorZ7
namespace Go.Proofs.YtmfngjclccehaaaGreatDoor
open Go Go.RowKit Go.Sep
variable {e : Eng} {i j : Nat} {N M : Nat} {U : List Task}
theorem TxOk.mono {n m : Nat} {x : Tx} (h : TxOk n x) (hn : n ≤ m) : TxOk m x := ⟨h.state, fun j hj => Nat.lt_of_lt_of_le (h.refs j hj) hn, h.want, h.own, h.keys⟩
def Eng.grown (e : Eng) (x : Tx) : Eng := { e with count := e.count + 1, txs := e.txs ++ [x] }
theorem Eng.grown_tx {x : Tx} (hj : j < e.txs.length) : (e.grown x).tx j = e.tx j := by unfold Eng.grown Eng.tx; simp [List.getElem?_append_left hj]
theorem Eng.grown_last (x : Tx) : (e.grown x).tx e.txs.length = x := by unfold Eng.grown Eng.tx; simp
theorem Eng.grown_len (x : Tx) : (e.grown x).txs.length = e.txs.length + 1 := by simp [Eng.grown]
theorem OkT.few_waits (h : OkT N e U) : 200 * e.many Tx.waits + slacks U ≤ N ∨ (e.many Tx.waits = 0 ∧ e.txs = []) := by
 cases ht : e.txs with
 | nil => right; exact ⟨by simp [Eng.many, ht], rfl⟩
 | cons x l => left; have := (h.fits x (by rw [ht]; simp)).1; omega
theorem OkT.grown (h : OkT N e []) {x : Tx} (h1 : e.txs.length < 200) (h2 : e.open_ < 6) (hs : x.state = 0) (hr : x.reads = []) (hw : x.writes = []) (hwant : x.want = (0, 0)) (hf : x.fore = []) (ha : x.aft = []) : OkT N (e.grown x) [] := by
 obtain ⟨Q, hQ⟩ := h.tab
 have hlen := Eng.grown_len (e := e) x
 have hal : x.alive = true := by simp [Tx.alive, hs]
 have hop : (e.grown x).open_ = e.open_ + 1 := by simp [Eng.open_, Eng.grown, List.countP_append, hal]
 have hwt : (e.grown x).many Tx.waits = e.many Tx.waits := by simp [Eng.many, Eng.grown, List.countP_append, Tx.waits, hs]
 have hcnt := h.cnt
 have htx : ∀ k, ∀ y ∈ Q k, (e.grown x).tx (y.toNat - 1) = e.tx (y.toNat - 1) := fun k y hy => by
  have := hQ.key k y hy
  exact Eng.grown_tx (by omega)
 refine ⟨by omega, h.v10, ?_, fun k v hk => ?_, ⟨Q, hQ.tab, hQ.rk, hQ.hold, fun k y hy => ?_, fun k y hy => by rw [htx k y hy]; exact hQ.alive k y hy, fun k y hy => by rw [htx k y (List.mem_of_mem_tail hy)]; exact hQ.waits k y hy⟩, fun j hj hs' => ?_, by omega, ?_, fun vs hv => ?_, ?_, h.last, ?_, ?_, ?_, by simp, by simp⟩
 ·intro y hy
  rw [hlen]
  rcases List.mem_append.1 hy with hy | hy
  ·exact (h.txs y hy).mono (by omega)
  ·simp only [List.mem_singleton] at hy; subst hy
   exact ⟨by omega, by simp [hf, ha], by rw [hwant]; decide, by simp [hw], by simp [hw]⟩
 ·obtain ⟨g1, g2, g3⟩ := h.wr k v hk
  rw [hlen, Eng.grown_tx (by omega)]
  exact ⟨g1, by omega, g3⟩
 ·rw [hlen]; have := hQ.key k y hy; exact ⟨this.1, this.2.1, by omega⟩
 ·rw [hlen] at hj
  rcases Nat.lt_or_ge j e.txs.length with hl | hl
  ·rw [Eng.grown_tx hl] at hs'
   exact h.all j hl hs'
  ·obtain rfl : j = e.txs.length := by omega
   rw [Eng.grown_last, hs] at hs'; cases hs'
 ·have : (e.grown x).count = e.count + 1 := rfl
  rw [hlen, this]; omega
 ·have := h.rows vs hv
  show _ ≤ e.count + 1 + 1; omega
 ·show _ ≤ e.count + 1; exact Int.le_trans h.wrs (by omega)
 ·have := h.hist
  show _ ≤ (e.count + 1) * ((N : Int) + 10)
  refine Int.le_trans this ?_
  rw [Int.add_mul]; omega
 ·intro y hy
  rcases List.mem_append.1 hy with hy | hy
  ·exact h.reads y hy
  ·simp only [List.mem_singleton] at hy; subst hy; simp [hr]
 ·intro y hy
  rw [hwt]
  rcases List.mem_append.1 hy with hy | hy
  ·exact h.fits y hy
  ·simp only [List.mem_singleton] at hy; subst hy
   rcases h.few_waits with g | ⟨g, _⟩
   ·simp only [hf, ha, List.length_nil]; omega
   ·simp [hf, ha, g, slacks]
theorem OkT.begun (h : OkT N e []) (level : Int) : OkT N (e.begin_ level).1 [] := by
 unfold Eng.begin_
 split
 ·exact h
 split
 ·exact h
 split
 ·exact h
 ·rename_i h1 h2 h3
  exact h.grown (by omega) (by omega) rfl rfl rfl rfl rfl rfl
theorem OkT.field (h : OkT N e U) (hM : N ≤ M) (f : Tx → Tx) (hs : ∀ x, (f x).state = x.state) (hl : ∀ x, (f x).level = x.level) (hf : ∀ x, (f x).fore = x.fore) (ha : ∀ x, (f x).aft = x.aft) (hw : ∀ x, (f x).writes = x.writes)
  (hwant : keyOk (f (e.tx i)).want.1 ∧ valOk (f (e.tx i)).want.2) (hr : (f (e.tx i)).reads.length ≤ M) : OkT M (e.upd i f) U := by
 obtain ⟨Q, hQ⟩ := h.tab
 have hlen : (e.upd i f).txs.length = e.txs.length := Eng.upd_len ..
 have hal : ∀ x, (f x).alive = x.alive := fun x => by simp [Tx.alive, hs]
 have hwa : ∀ x, (f x).waits = x.waits := fun x => by simp [Tx.waits, hs]
 have hop : (e.upd i f).open_ = e.open_ := Eng.many_keep Tx.alive _ hal
 have hwt : (e.upd i f).many Tx.waits = e.many Tx.waits := Eng.many_keep Tx.waits _ hwa
 have hst : ∀ j, ((e.upd i f).tx j).state = (e.tx j).state := Eng.upd_keep (·.state) _ hs
 have hlv : ∀ j, ((e.upd i f).tx j).level = (e.tx j).level := Eng.upd_keep (·.level) _ hl
 refine ⟨by rw [hlen]; exact h.few, h.v10, ?_, fun k v hk => by rw [hlen, hst]; exact h.wr k v hk, ⟨Q, hQ.upd _ (fun k x hx e1 => by have := hQ.alive k x hx; rw [e1] at this; rw [hal]; exact this) (fun k x hx e1 => by have := hQ.waits k x hx; rw [e1] at this; rw [hs]; exact this)⟩, fun j hj hs' => by rw [hst] at hs'; rw [hlen] at hj; exact h.all j hj hs', by rw [hop]; exact h.six, by rw [hop, hlen]; exact h.cnt, h.rows, h.wrs, h.last, ?_, ?_, ?_, fun t ht => ?_, h.apart⟩
 ·rw [hlen]
  refine Eng.upd_all h.txs fun hi => ?_
  have := h.at hi
  exact ⟨by rw [hs]; exact this.state, by rw [hf, ha]; exact this.refs, hwant, by rw [hw]; exact this.own, by rw [hw]; exact this.keys⟩
 ·exact Int.le_trans h.hist (Int.mul_le_mul_of_nonneg_left (by omega) h.cnt.1)
 ·exact Eng.upd_all (p := fun x => x.reads.length ≤ M) (fun x hx => Nat.le_trans (h.reads x hx) hM) fun _ => hr
 ·rw [hwt]
  have : ∀ x ∈ e.txs, x.fore.length + 200 * e.many Tx.waits + slacks U ≤ M ∧ x.aft.length + 200 * e.many Tx.waits + slacks U ≤ M := fun x hx => by have := h.fits x hx; omega
  exact Eng.upd_all (p := fun x => x.fore.length + 200 * e.many Tx.waits + slacks U ≤ M ∧ x.aft.length + 200 * e.many Tx.waits + slacks U ≤ M) this fun hi => by rw [hf, ha]; exact this (e.tx i) (Eng.tx_mem hi)
 ·have ht' := h.ok t ht
  refine ⟨by rw [hlen]; exact ht'.lt, fun w hw => ?_, fun i' w hw => ?_, fun i' key l hw => ?_⟩
  ·rw [hst]; exact ht'.hand w hw
  ·rw [hst]; exact ht'.put i' w hw
  ·rw [hst, hlv, hlen]; exact ht'.ask i' key l hw
theorem Eng.tx_far (h : ¬ j < e.txs.length) : e.tx j = .zero := by unfold Eng.tx; rw [List.getElem?_eq_none (by omega)]; rfl
theorem strict_lt (h : (e.tx j).strict = true) : j < e.txs.length := by
 apply Classical.byContradiction
 intro hj
 rw [Eng.tx_far hj] at h
 simp [Tx.strict, Tx.zero] at h
theorem Eng.note_state (e : Eng) (a b k : Nat) : ((e.note a b).tx k).state = (e.tx k).state := Eng.note_keep (·.state) (fun _ _ => rfl) (fun _ _ => rfl) a b k
theorem sawNew_ok : ∀ (l : List Int) (N : Nat) (e : Eng), OkT N e U → i < e.txs.length → OkT (N + l.length) (sawNew i l e).1 U ∧ (sawNew i l e).1.txs.length = e.txs.length ∧ (∀ k, ((sawNew i l e).1.tx k).state = (e.tx k).state) ∧ (sawNew i l e).1.open_ = e.open_
 | [], N, e, h, hi => ⟨h, rfl, fun _ => rfl, rfl⟩
 | a :: l, N, e, h, hi => by
  unfold sawNew
  simp only
  by_cases hc : 0 < (mget e.wr a).getD 0 ∧ (e.tx (((mget e.wr a).getD 0).toNat - 1)).strict = true
  ·rw [if_pos hc]
   have hj := strict_lt hc.2
   have h1 := h.note1 hi hj
   have e1 := Eng.note_len e i (((mget e.wr a).getD 0).toNat - 1)
   have e2 := Eng.note_state e i (((mget e.wr a).getD 0).toNat - 1)
   have e3 := Eng.note_open e i (((mget e.wr a).getD 0).toNat - 1)
   generalize e.note i (((mget e.wr a).getD 0).toNat - 1) = e' at *
   split
   ·exact ⟨h1.mono (by simp only [List.length_cons]; omega), e1, e2, e3⟩
   ·obtain ⟨g1, g2, g3, g4⟩ := sawNew_ok l (N + 1) e' h1 (by omega)
    exact ⟨g1.mono (by simp only [List.length_cons]; omega), by rw [g2, e1], fun k => by rw [g3, e2], by rw [g4, e3]⟩
  ·rw [if_neg hc]
   obtain ⟨g1, g2, g3, g4⟩ := sawNew_ok l N e h hi
   exact ⟨g1.mono (by simp only [List.length_cons]; omega), g2, g3, g4⟩
theorem sawOpen_ok {key : Int} : ∀ (l : List Nat) (N : Nat) (e : Eng), OkT N e U → i < e.txs.length → OkT (N + l.length) (sawOpen i key l e) U ∧ (sawOpen i key l e).txs.length = e.txs.length ∧ (∀ k, ((sawOpen i key l e).tx k).state = (e.tx k).state) ∧ (sawOpen i key l e).open_ = e.open_
 | [], N, e, h, hi => ⟨h, rfl, fun _ => rfl, rfl⟩
 | a :: l, N, e, h, hi => by
  unfold sawOpen
  by_cases hc : ((e.tx a).wrote key && decide (a ≠ i) && (e.tx a).strict && (e.tx a).alive) = true
  ·rw [if_pos hc]
   simp only [Bool.and_eq_true] at hc
   have hj := strict_lt hc.1.2
   have h1 := h.note1 hi hj
   have e1 := Eng.note_len e i a
   have e2 := Eng.note_state e i a
   have e3 := Eng.note_open e i a
   generalize e.note i a = e' at *
   obtain ⟨g1, g2, g3, g4⟩ := sawOpen_ok (key := key) l (N + 1) e' h1 (by omega)
   exact ⟨g1.mono (by simp only [List.length_cons]; omega), by rw [g2, e1], fun k => by rw [g3, e2], by rw [g4, e3]⟩
  ·rw [if_neg hc]
   obtain ⟨g1, g2, g3, g4⟩ := sawOpen_ok (key := key) l N e h hi
   exact ⟨g1.mono (by simp only [List.length_cons]; omega), g2, g3, g4⟩
theorem OkT.row_len (h : OkT N e U) (k : Int) : (e.row k).length ≤ 401 := by
 unfold Eng.row
 cases hg : e.V[k.toNat]? with
 | none => simp
 | some vs => exact h.row_le vs (List.mem_of_getElem? hg)
theorem sees_ok (h : OkT N e U) (hi : i < e.txs.length) (key : Int) : OkT (N + 601) (e.sees i key).1 U ∧ (e.sees i key).1.txs.length = e.txs.length ∧ (∀ k, ((e.sees i key).1.tx k).state = (e.tx k).state) ∧ (e.sees i key).1.open_ = e.open_ := by
 obtain ⟨g1, g2, g3, g4⟩ := sawNew_ok (newerL (e.row key) (e.tx i).start) N e h hi
 have hn := newerL_le (e.row key) (e.tx i).start
 have hr := h.row_len key
 have hf := h.few
 unfold Eng.sees
 simp only
 split
 ·obtain ⟨k1, k2, k3, k4⟩ := sawOpen_ok (key := key) (List.range (sawNew i (newerL (e.row key) (e.tx i).start) e).1.txs.length) _ _ g1 (by rw [g2]; exact hi)
  rw [List.length_range] at k1
  have k5 : OkT (N + 601) _ U := k1.mono (by omega)
  exact ⟨k5, by rw [k2, g2], fun k => by rw [k3, g3], by rw [k4, g4]⟩
 ·have k5 : OkT (N + 601) _ U := g1.mono (by omega)
  exact ⟨k5, g2, g3, g4⟩
theorem goes_kept (h : OkT N e []) (hi : i < e.txs.length) (ha : (e.tx i).alive = true) (why : Int) : OkT N (e.goes i why) [] :=
 (goesOk e.open_ N e i why [] h hi ha (by simp) (Nat.le_refl _)).1
theorem OkT.reads_in (h : OkT N e U) (hi : i < e.txs.length) (r : Int × Int) : OkT (N + 1) (e.upd i fun x => { x with reads := x.reads ++ [r] }) U :=
 h.field (by omega) _ (fun _ => rfl) (fun _ => rfl) (fun _ => rfl) (fun _ => rfl) (fun _ => rfl) (h.at hi).want (by have := h.reads _ (Eng.tx_mem hi); simp only [List.length_append, List.length_singleton]; omega)
theorem err_num {n : Int} {op : Bool} (h : e.err n op = 0) : ∃ i : Nat, n = (i : Int) + 1 ∧ i < e.txs.length ∧ (op = true → (e.tx i).state = 0) := by
 rcases e.err_cases n op with ⟨h1, _⟩ | ⟨j, hj, hlt, ⟨h1, _⟩ | ⟨_, h2⟩⟩
 ·omega
 ·omega
 ·exact ⟨j, hj, hlt, h2⟩
theorem OkT.red (h : OkT N e []) (n key : Int) : OkT (N + 1000) (e.read n key).1 [] := by
 have hm := h.mono (M := N + 1000) (by omega)
 unfold Eng.read
 split
 ·exact hm
 ·rename_i herr
  obtain ⟨i, rfl, hi, hst⟩ := err_num (Decidable.not_not.1 herr)
  have hi2 : ((i : Int) + 1).toNat - 1 = i := by omega
  simp only [hi2]
  cases mget (e.tx i).writes key with
  | some v => exact hm
  | none =>
   simp only
   split
   ·exact hm
   ·have h1 := h.reads_in hi (key, (mget e.wr (((readV (e.row key) (e.asOf i)).map (·.1)).getD 0)).getD 0)
    have hlen := Eng.upd_len e i fun x => { x with reads := x.reads ++ [(key, (mget e.wr (((readV (e.row key) (e.asOf i)).map (·.1)).getD 0)).getD 0)] }
    have hs1 := Eng.upd_keep (e := e) (i := i) (·.state) (fun x => { x with reads := x.reads ++ [(key, (mget e.wr (((readV (e.row key) (e.asOf i)).map (·.1)).getD 0)).getD 0)] }) (fun _ => rfl) i
    generalize (e.upd i fun x => { x with reads := x.reads ++ [(key, (mget e.wr (((readV (e.row key) (e.asOf i)).map (·.1)).getD 0)).getD 0)] }) = e1 at *
    have hi1 : i < e1.txs.length := by omega
    split
    ·obtain ⟨g1, g2, g3, _⟩ := sees_ok h1 hi1 key
     split
     ·exact g1.mono (by omega)
     ·exact (goes_kept g1 (by omega) (by simp only [Tx.alive, decide_eq_true_eq]; rw [g3, hs1, hst rfl]; decide) 13).mono (by omega)
    ·exact h1.mono (by omega)
theorem OkT.wait_none (h : OkT N e U) (hs : (e.tx i).state ≠ 1) : mget e.t.wait ((i : Int) + 1) = none := by
 obtain ⟨Q, hQ⟩ := h.tab
 exact hQ.not_wait (by rw [show ((i : Int) + 1).toNat - 1 = i by omega]; exact hs)
theorem OkT.got (h : OkT N e []) (hi : i < e.txs.length) (hs : (e.tx i).state = 0) {key : Int} (hk : keyOk key) (hh : mget e.t.hold key = none) : OkT N { e with t := { e.t with hold := mput e.t.hold key ((i : Int) + 1) } } [] := by
 obtain ⟨Q, hQ⟩ := h.tab
 obtain ⟨r, hr⟩ := hQ.rk
 have hq : Q key = [] := by
  have := hQ.tab.hold key
  rw [hh] at this
  cases hq : Q key with
  | nil => rfl
  | cons a l => rw [hq] at this; cases this
 have hat : ∀ k, askQ Q ((i : Int) + 1) key k = if k = key then Q key ++ [(i : Int) + 1] else Q k := fun k => by unfold askQ updQ; rfl
 have hmem : ∀ k, ∀ x ∈ askQ Q ((i : Int) + 1) key k, x ∈ Q k ∨ (k = key ∧ x = (i : Int) + 1) := fun k x hx => by
  rw [hat] at hx
  split at hx
  ·rename_i hk'; subst hk'
   rcases List.mem_append.1 hx with g | g
   ·exact .inl g
   ·exact .inr ⟨rfl, by simpa using g⟩
  ·exact .inl hx
 have htail : ∀ k, ∀ x ∈ (askQ Q ((i : Int) + 1) key k).tail, x ∈ (Q k).tail := fun k x hx => by
  rw [hat] at hx
  split at hx
  ·rw [hq] at hx; simp at hx
  ·exact hx
 refine ⟨h.few, h.v10, h.txs, h.wr, ⟨askQ Q ((i : Int) + 1) key, hQ.tab.ask_free hh, ⟨r, hr.free hq⟩, keys_put_nodup hQ.hold _ _, fun k x hx => ?_, fun k x hx => ?_, fun k x hx => hQ.waits k x (htail k x hx)⟩, h.all, h.six, h.cnt, h.rows, h.wrs, h.last, h.hist, h.reads, h.fits, by simp, by simp⟩
 ·rcases hmem k x hx with g | ⟨rfl, rfl⟩
  ·exact hQ.key k x g
  ·refine ⟨hk, by omega, ?_⟩
   show (i : Int) + 1 ≤ e.txs.length; omega
 ·rcases hmem k x hx with g | ⟨rfl, rfl⟩
  ·exact hQ.alive k x g
  ·rw [show ((i : Int) + 1).toNat - 1 = i by omega]
   show (e.tx i).alive = true
   simp [Tx.alive, hs]
theorem OkT.stands (h : OkT N e []) (hi : i < e.txs.length) (hs : (e.tx i).state = 0) {key a : Int} {n : Nat} (hk : keyOk key) (hh : mget e.t.hold key = some a) (ha : a ≠ (i : Int) + 1) (hc : chase e.t ((i : Int) + 1) n a = some false) :
  OkT (N + 200) ({ e with t := { e.t with wait := mput e.t.wait ((i : Int) + 1) key, line := mput e.t.line key (lineAt e.t key ++ [(i : Int) + 1]) } }.upd i fun x => { x with state := 1 }) [] := by
 obtain ⟨Q, hQ⟩ := h.tab
 obtain ⟨r, hr⟩ := hQ.rk
 have hw := h.wait_none (i := i) (by omega)
 have hq0 : ∀ k, ((i : Int) + 1) ∉ (Q k).tail := hQ.tab.none_wait.1 hw
 have hat : ∀ k, askQ Q ((i : Int) + 1) key k = if k = key then Q key ++ [(i : Int) + 1] else Q k := fun k => by unfold askQ updQ; rfl
 have hmem : ∀ k, ∀ x ∈ askQ Q ((i : Int) + 1) key k, x ∈ Q k ∨ (k = key ∧ x = (i : Int) + 1) := fun k x hx => by
  rw [hat] at hx
  split at hx
  ·rename_i hk'; subst hk'
   rcases List.mem_append.1 hx with g | g
   ·exact .inl g
   ·exact .inr ⟨rfl, by simpa using g⟩
  ·exact .inl hx
 have htail : ∀ k, ∀ x ∈ (askQ Q ((i : Int) + 1) key k).tail, x ∈ (Q k).tail ∨ x = (i : Int) + 1 := fun k x hx => by
  rw [hat] at hx
  split at hx
  ·rename_i hk'; subst hk'
   cases hq : Q k with
   | nil => rw [hq] at hx; simp at hx
   | cons b l =>
    rw [hq] at hx
    simp only [List.cons_append, List.tail_cons, List.mem_append, List.mem_singleton] at hx
    exact hx
  ·exact .inl hx
 generalize he1 : ({ e with t := { e.t with wait := mput e.t.wait ((i : Int) + 1) key, line := mput e.t.line key (lineAt e.t key ++ [(i : Int) + 1]) } } : Eng) = e1
 have htab : TabOk e1 (askQ Q ((i : Int) + 1) key) → TabOk e1 (askQ Q ((i : Int) + 1) key) := id
 have hlen : (e1.upd i fun x => { x with state := 1 }).txs.length = e.txs.length := by rw [Eng.upd_len, ← he1]
 have hi1 : i < e1.txs.length := by rw [← he1]; exact hi
 have htxe : ∀ j, e1.tx j = e.tx j := fun j => by rw [← he1]; rfl
 have hne : ∀ j, j ≠ i → (e1.upd i fun x => { x with state := 1 }).tx j = e.tx j := fun j hj => by rw [Eng.upd_ne (Ne.symm hj), htxe]
 have hself : (e1.upd i fun x => { x with state := 1 }).tx i = { e.tx i with state := 1 } := by rw [Eng.upd_self hi1, htxe]
 have hm1 := Eng.many_upd hi1 Tx.alive (fun x => { x with state := 1 })
 have hm2 := Eng.many_upd hi1 Tx.waits (fun x => { x with state := 1 })
 rw [if_pos (by rw [htxe]; simp [Tx.alive, hs]), if_pos (by simp [Tx.alive])] at hm1
 rw [if_neg (by rw [htxe]; simp [Tx.waits, hs]), if_pos (by simp [Tx.waits])] at hm2
 have hop : (e1.upd i fun x => { x with state := 1 }).open_ = e.open_ := by
  have : e1.many Tx.alive = e.open_ := by rw [← he1]; rfl
  unfold Eng.many at hm1 this; unfold Eng.open_ at *; omega
 have hwt : (e1.upd i fun x => { x with state := 1 }).many Tx.waits = e.many Tx.waits + 1 := by
  have : e1.many Tx.waits = e.many Tx.waits := by rw [← he1]; rfl
  omega
 have hx1 : ∀ x, 1 ≤ x → x ≠ (i : Int) + 1 → x.toNat - 1 ≠ i := fun x _ _ => by omega
 refine ⟨by rw [hlen]; exact h.few, by rw [← he1]; exact h.v10, ?_, fun k v hk => ?_, ⟨askQ Q ((i : Int) + 1) key, ?_, ?_, ?_, fun k x hx => ?_, fun k x hx => ?_, fun k x hx => ?_⟩, fun j hj hs' => ?_, by rw [hop]; exact h.six, ?_, by rw [← he1]; exact h.rows, by rw [← he1]; exact h.wrs, by rw [← he1]; exact h.last, ?_, ?_, ?_, by simp, by simp⟩
 ·rw [hlen]
  refine Eng.upd_all (by rw [← he1]; exact h.txs) fun _ => ?_
  have := h.at hi
  rw [htxe]
  exact ⟨by simp, this.refs, this.want, this.own, this.keys⟩
 ·have hk' : mget e.wr k = some v := by rw [← he1] at hk; exact hk
  obtain ⟨g1, g2, g3⟩ := h.wr k v hk'
  rw [hlen, hne]
  ·exact ⟨g1, g2, g3⟩
  ·intro e2; rw [e2] at g3; omega
 ·rw [← he1]; exact hQ.tab.ask_line hw hh ha
 ·exact Rk.ask hQ.tab hr hw hh hc
 ·rw [← he1]; exact hQ.hold
 ·rw [hlen]
  rcases hmem k x hx with g | ⟨rfl, rfl⟩
  ·exact hQ.key k x g
  ·exact ⟨hk, by omega, by omega⟩
 ·rcases hmem k x hx with g | ⟨rfl, rfl⟩
  ·by_cases hxi : x = (i : Int) + 1
   ·rw [hxi, show ((i : Int) + 1).toNat - 1 = i by omega, hself]; simp [Tx.alive]
   ·rw [hne _ (hx1 x (hQ.key k x g).2.1 hxi)]; exact hQ.alive k x g
  ·rw [show ((i : Int) + 1).toNat - 1 = i by omega, hself]; simp [Tx.alive]
 ·rcases htail k x hx with g | rfl
  ·by_cases hxi : x = (i : Int) + 1
   ·rw [hxi, show ((i : Int) + 1).toNat - 1 = i by omega, hself]
   ·rw [hne _ (hx1 x (hQ.key k x (List.mem_of_mem_tail g)).2.1 hxi)]; exact hQ.waits k x g
  ·rw [show ((i : Int) + 1).toNat - 1 = i by omega, hself]
 ·left
  have hwe : (e1.upd i fun x => { x with state := 1 }).t.wait = mput e.t.wait ((i : Int) + 1) key := by rw [← he1]; rfl
  rw [hwe, mget_put]
  split
  ·simp
  ·rename_i hji
   have hji' : j ≠ i := fun e2 => hji (by rw [e2])
   rw [hne j hji'] at hs'
   rw [hlen] at hj
   rcases h.all j hj hs' with g | ⟨w, g, _⟩
   ·exact g
   ·cases g
 ·rw [hop, hlen, ← he1]; exact h.cnt
 ·rw [← he1]
  exact Int.le_trans h.hist (Int.mul_le_mul_of_nonneg_left (by omega) h.cnt.1)
 ·refine Eng.upd_all (p := fun x => x.reads.length ≤ N + 200) (fun x hx => ?_) fun _ => ?_
  ·have : x ∈ e.txs := by rw [← he1] at hx; exact hx
   have := h.reads x this; omega
  ·rw [htxe]; have := h.reads _ (Eng.tx_mem hi); simp only; omega
 ·rw [hwt]
  have : ∀ x ∈ e.txs, x.fore.length + 200 * (e.many Tx.waits + 1) + slacks [] ≤ N + 200 ∧ x.aft.length + 200 * (e.many Tx.waits + 1) + slacks [] ≤ N + 200 := fun x hx => by
   have := h.fits x hx; omega
  refine Eng.upd_all (p := fun x => x.fore.length + 200 * (e.many Tx.waits + 1) + slacks [] ≤ N + 200 ∧ x.aft.length + 200 * (e.many Tx.waits + 1) + slacks [] ≤ N + 200) (fun x hx => this x (by rw [← he1] at hx; exact hx)) fun _ => ?_
  rw [htxe]; exact this (e.tx i) (Eng.tx_mem hi)
theorem OkT.to_put (h : OkT N e []) (hi : i < e.txs.length) (hs : (e.tx i).state = 0) {w : Int × Int} (hk : keyOk w.1) (hv : valOk w.2) : OkT (N + 200) e [.put i w] := by
 have h' := h.mono (M := N + 200) (by omega)
 refine ⟨h'.few, h'.v10, h'.txs, h'.wr, h'.tab, fun j hj hs' => ?_, h'.six, h'.cnt, h'.rows, h'.wrs, h'.last, h'.hist, h'.reads, fun x hx => ?_, fun t ht => ?_, by simp⟩
 ·rcases h'.all j hj hs' with g | ⟨w, g, _⟩
  ·exact .inl g
  ·cases g
 ·have := h.fits x hx
  simp only [slacks, List.map_cons, List.map_nil, List.sum_cons, List.sum_nil, slack] at this ⊢; omega
 ·simp only [List.mem_singleton] at ht; subst ht
  refine ⟨hi, by simp, fun i' w' e1 => ?_, by simp⟩
  simp only [Task.put.injEq] at e1
  obtain ⟨rfl, rfl⟩ := e1
  exact ⟨hs, hk, hv, h.wait_none (by omega)⟩
end Go.Proofs.YtmfngjclccehaaaGreatDoor
