/- Transactions at the same time: what holds of an engine is kept by Commit, Abort, Sweep. No walk in sight. -/
import Derived.Test.YtaghjcdlghcjeaaGreatDoorZ7
import Derived.Test.YtaghjcdlghcjeaaGreatDoorZ8
import Derived.Shelf.SlIterI.Nil
import Derived.Shelf.SortM.Plain
import Derived.Shelf.SortM.SortNone
import Derived.Ground.GgzProg
import Derived.Ground.SlgmProg
import Derived.Test.YtaghjcdlghcjeaaGreatDoorProg
import Derived.Test.YtaghjcdlghcjeaaGreatDoorZ3
import Derived.Test.YtaghjcdlghcjeaaGreatDoorZ4
import Derived.Lib.SlKeysI
import Derived.Maps.OwnSet
/- Transactions at the same time: what holds of an engine is kept by all that is asked of it. No walk in sight. -/
namespace Go.Proofs.YtaghjcdlghcjeaaGreatDoor
open Go Go.RowKit Go.Sep

variable {e : Eng} {i j : Nat} {N M : Nat} {U : List Task}
theorem TxOk.mono {n m : Nat} {x : Tx} (h : TxOk n x) (hn : n ≤ m) : TxOk m x := ⟨h.state, fun j hj => Nat.lt_of_lt_of_le (h.refs j hj) hn, h.want, h.own, h.keys⟩
/-! ### Begin -/
def Eng.grown (e : Eng) (x : Tx) : Eng := { e with count := e.count + 1, txs := e.txs ++ [x] }
theorem Eng.grown_tx {x : Tx} (hj : j < e.txs.length) : (e.grown x).tx j = e.tx j := by unfold Eng.grown Eng.tx; simp [List.getElem?_append_left hj]
theorem Eng.grown_last (x : Tx) : (e.grown x).tx e.txs.length = x := by unfold Eng.grown Eng.tx; simp
theorem Eng.grown_len (x : Tx) : (e.grown x).txs.length = e.txs.length + 1 := by simp [Eng.grown]
theorem OkT.few_waits (h : OkT N e U) : 200 * e.many Tx.waits + slacks U ≤ N ∨ (e.many Tx.waits = 0 ∧ e.txs = []) := by
  cases ht : e.txs with
  | nil => right; exact ⟨by simp [Eng.many, ht], rfl⟩
  | cons x l => left; have := (h.fits x (by rw [ht]; simp)).1; omega
theorem OkT.grown (h : OkT N e []) {x : Tx} (h1 : e.txs.length < 200) (h2 : e.open_ < 6) (hs : x.state = 0) (hr : x.reads = []) (hw : x.writes = []) (hwant : x.want = (0, 0)) (hf : x.fore = []) (ha : x.aft = []) : OkT N (e.grown x) [] := by
  obtain ⟨Q, hQ⟩ := h.tab
  have hlen := Eng.grown_len (e := e) x
  have hal : x.alive = true := by simp [Tx.alive, hs]
  have hop : (e.grown x).open_ = e.open_ + 1 := by simp [Eng.open_, Eng.grown, List.countP_append, hal]
  have hwt : (e.grown x).many Tx.waits = e.many Tx.waits := by simp [Eng.many, Eng.grown, List.countP_append, Tx.waits, hs]
  have hcnt := h.cnt
  have htx : ∀ k, ∀ y ∈ Q k, (e.grown x).tx (y.toNat - 1) = e.tx (y.toNat - 1) := fun k y hy => by
    have := hQ.key k y hy
    exact Eng.grown_tx (by omega)
  refine ⟨by omega, h.v10, ?_, fun k v hk => ?_, ⟨Q, hQ.tab, hQ.rk, hQ.hold, fun k y hy => ?_, fun k y hy => by rw [htx k y hy]; exact hQ.alive k y hy, fun k y hy => by rw [htx k y (List.mem_of_mem_tail hy)]; exact hQ.waits k y hy⟩, fun j hj hs' => ?_, by omega, ?_, fun vs hv => ?_, ?_, h.last, ?_, ?_, ?_, by simp, by simp⟩
  · intro y hy
    rw [hlen]
    rcases List.mem_append.1 hy with hy | hy
    · exact (h.txs y hy).mono (by omega)
    · simp only [List.mem_singleton] at hy; subst hy
      exact ⟨by omega, by simp [hf, ha], by rw [hwant]; decide, by simp [hw], by simp [hw]⟩
  · obtain ⟨g1, g2, g3⟩ := h.wr k v hk
    rw [hlen, Eng.grown_tx (by omega)]
    exact ⟨g1, by omega, g3⟩
  · rw [hlen]; have := hQ.key k y hy; exact ⟨this.1, this.2.1, by omega⟩
  · rw [hlen] at hj
    rcases Nat.lt_or_ge j e.txs.length with hl | hl
    · rw [Eng.grown_tx hl] at hs'
      exact h.all j hl hs'
    · obtain rfl : j = e.txs.length := by omega
      rw [Eng.grown_last, hs] at hs'; cases hs'
  · have : (e.grown x).count = e.count + 1 := rfl
    rw [hlen, this]; omega
  · have := h.rows vs hv
    show _ ≤ e.count + 1 + 1; omega
  · show _ ≤ e.count + 1; exact Int.le_trans h.wrs (by omega)
  · have := h.hist
    show _ ≤ (e.count + 1) * ((N : Int) + 10)
    refine Int.le_trans this ?_
    rw [Int.add_mul]; omega
  · intro y hy
    rcases List.mem_append.1 hy with hy | hy
    · exact h.reads y hy
    · simp only [List.mem_singleton] at hy; subst hy; simp [hr]
  · intro y hy
    rw [hwt]
    rcases List.mem_append.1 hy with hy | hy
    · exact h.fits y hy
    · simp only [List.mem_singleton] at hy; subst hy
      rcases h.few_waits with g | ⟨g, _⟩
      · simp only [hf, ha, List.length_nil]; omega
      · simp [hf, ha, g, slacks]
theorem OkT.begun (h : OkT N e []) (level : Int) : OkT N (e.begin_ level).1 [] := by
  unfold Eng.begin_
  split
  · exact h
  split
  · exact h
  split
  · exact h
  · rename_i h1 h2 h3
    exact h.grown (by omega) (by omega) rfl rfl rfl rfl rfl rfl

/-! ### A field that counts for nothing -/
theorem OkT.field (h : OkT N e U) (hM : N ≤ M) (f : Tx → Tx) (hs : ∀ x, (f x).state = x.state) (hl : ∀ x, (f x).level = x.level) (hf : ∀ x, (f x).fore = x.fore) (ha : ∀ x, (f x).aft = x.aft) (hw : ∀ x, (f x).writes = x.writes)
    (hwant : keyOk (f (e.tx i)).want.1 ∧ valOk (f (e.tx i)).want.2) (hr : (f (e.tx i)).reads.length ≤ M) : OkT M (e.upd i f) U := by
  obtain ⟨Q, hQ⟩ := h.tab
  have hlen : (e.upd i f).txs.length = e.txs.length := Eng.upd_len ..
  have hal : ∀ x, (f x).alive = x.alive := fun x => by simp [Tx.alive, hs]
  have hwa : ∀ x, (f x).waits = x.waits := fun x => by simp [Tx.waits, hs]
  have hop : (e.upd i f).open_ = e.open_ := Eng.many_keep Tx.alive _ hal
  have hwt : (e.upd i f).many Tx.waits = e.many Tx.waits := Eng.many_keep Tx.waits _ hwa
  have hst : ∀ j, ((e.upd i f).tx j).state = (e.tx j).state := Eng.upd_keep (·.state) _ hs
  have hlv : ∀ j, ((e.upd i f).tx j).level = (e.tx j).level := Eng.upd_keep (·.level) _ hl
  refine ⟨by rw [hlen]; exact h.few, h.v10, ?_, fun k v hk => by rw [hlen, hst]; exact h.wr k v hk, ⟨Q, hQ.upd _ (fun k x hx e1 => by have := hQ.alive k x hx; rw [e1] at this; rw [hal]; exact this) (fun k x hx e1 => by have := hQ.waits k x hx; rw [e1] at this; rw [hs]; exact this)⟩, fun j hj hs' => by rw [hst] at hs'; rw [hlen] at hj; exact h.all j hj hs', by rw [hop]; exact h.six, by rw [hop, hlen]; exact h.cnt, h.rows, h.wrs, h.last, ?_, ?_, ?_, fun t ht => ?_, h.apart⟩
  · rw [hlen]
    refine Eng.upd_all h.txs fun hi => ?_
    have := h.at hi
    exact ⟨by rw [hs]; exact this.state, by rw [hf, ha]; exact this.refs, hwant, by rw [hw]; exact this.own, by rw [hw]; exact this.keys⟩
  · exact Int.le_trans h.hist (Int.mul_le_mul_of_nonneg_left (by omega) h.cnt.1)
  · exact Eng.upd_all (p := fun x => x.reads.length ≤ M) (fun x hx => Nat.le_trans (h.reads x hx) hM) fun _ => hr
  · rw [hwt]
    have : ∀ x ∈ e.txs, x.fore.length + 200 * e.many Tx.waits + slacks U ≤ M ∧ x.aft.length + 200 * e.many Tx.waits + slacks U ≤ M := fun x hx => by have := h.fits x hx; omega
    exact Eng.upd_all (p := fun x => x.fore.length + 200 * e.many Tx.waits + slacks U ≤ M ∧ x.aft.length + 200 * e.many Tx.waits + slacks U ≤ M) this fun hi => by rw [hf, ha]; exact this (e.tx i) (Eng.tx_mem hi)
  · have ht' := h.ok t ht
    refine ⟨by rw [hlen]; exact ht'.lt, fun w hw => ?_, fun i' w hw => ?_, fun i' key l hw => ?_⟩
    · rw [hst]; exact ht'.hand w hw
    · rw [hst]; exact ht'.put i' w hw
    · rw [hst, hlv, hlen]; exact ht'.ask i' key l hw

/-! ### Read -/
theorem Eng.tx_far (h : ¬ j < e.txs.length) : e.tx j = .zero := by unfold Eng.tx; rw [List.getElem?_eq_none (by omega)]; rfl
theorem strict_lt (h : (e.tx j).strict = true) : j < e.txs.length := by
  apply Classical.byContradiction
  intro hj
  rw [Eng.tx_far hj] at h
  simp [Tx.strict, Tx.zero] at h
theorem Eng.note_state (e : Eng) (a b k : Nat) : ((e.note a b).tx k).state = (e.tx k).state := Eng.note_keep (·.state) (fun _ _ => rfl) (fun _ _ => rfl) a b k
theorem sawNew_ok : ∀ (l : List Int) (N : Nat) (e : Eng), OkT N e U → i < e.txs.length → OkT (N + l.length) (sawNew i l e).1 U ∧ (sawNew i l e).1.txs.length = e.txs.length ∧ (∀ k, ((sawNew i l e).1.tx k).state = (e.tx k).state) ∧ (sawNew i l e).1.open_ = e.open_
  | [], N, e, h, hi => ⟨h, rfl, fun _ => rfl, rfl⟩
  | a :: l, N, e, h, hi => by
    unfold sawNew
    simp only
    by_cases hc : 0 < (mget e.wr a).getD 0 ∧ (e.tx (((mget e.wr a).getD 0).toNat - 1)).strict = true
    · rw [if_pos hc]
      have hj := strict_lt hc.2
      have h1 := h.note1 hi hj
      have e1 := Eng.note_len e i (((mget e.wr a).getD 0).toNat - 1)
      have e2 := Eng.note_state e i (((mget e.wr a).getD 0).toNat - 1)
      have e3 := Eng.note_open e i (((mget e.wr a).getD 0).toNat - 1)
      generalize e.note i (((mget e.wr a).getD 0).toNat - 1) = e' at *
      split
      · exact ⟨h1.mono (by simp only [List.length_cons]; omega), e1, e2, e3⟩
      · obtain ⟨g1, g2, g3, g4⟩ := sawNew_ok l (N + 1) e' h1 (by omega)
        exact ⟨g1.mono (by simp only [List.length_cons]; omega), by rw [g2, e1], fun k => by rw [g3, e2], by rw [g4, e3]⟩
    · rw [if_neg hc]
      obtain ⟨g1, g2, g3, g4⟩ := sawNew_ok l N e h hi
      exact ⟨g1.mono (by simp only [List.length_cons]; omega), g2, g3, g4⟩
theorem sawOpen_ok {key : Int} : ∀ (l : List Nat) (N : Nat) (e : Eng), OkT N e U → i < e.txs.length → OkT (N + l.length) (sawOpen i key l e) U ∧ (sawOpen i key l e).txs.length = e.txs.length ∧ (∀ k, ((sawOpen i key l e).tx k).state = (e.tx k).state) ∧ (sawOpen i key l e).open_ = e.open_
  | [], N, e, h, hi => ⟨h, rfl, fun _ => rfl, rfl⟩
  | a :: l, N, e, h, hi => by
    unfold sawOpen
    by_cases hc : ((e.tx a).wrote key && decide (a ≠ i) && (e.tx a).strict && (e.tx a).alive) = true
    · rw [if_pos hc]
      simp only [Bool.and_eq_true] at hc
      have hj := strict_lt hc.1.2
      have h1 := h.note1 hi hj
      have e1 := Eng.note_len e i a
      have e2 := Eng.note_state e i a
      have e3 := Eng.note_open e i a
      generalize e.note i a = e' at *
      obtain ⟨g1, g2, g3, g4⟩ := sawOpen_ok (key := key) l (N + 1) e' h1 (by omega)
      exact ⟨g1.mono (by simp only [List.length_cons]; omega), by rw [g2, e1], fun k => by rw [g3, e2], by rw [g4, e3]⟩
    · rw [if_neg hc]
      obtain ⟨g1, g2, g3, g4⟩ := sawOpen_ok (key := key) l N e h hi
      exact ⟨g1.mono (by simp only [List.length_cons]; omega), g2, g3, g4⟩
theorem OkT.row_len (h : OkT N e U) (k : Int) : (e.row k).length ≤ 401 := by
  unfold Eng.row
  cases hg : e.V[k.toNat]? with
  | none => simp
  | some vs => exact h.row_le vs (List.mem_of_getElem? hg)
theorem sees_ok (h : OkT N e U) (hi : i < e.txs.length) (key : Int) : OkT (N + 601) (e.sees i key).1 U ∧ (e.sees i key).1.txs.length = e.txs.length ∧ (∀ k, ((e.sees i key).1.tx k).state = (e.tx k).state) ∧ (e.sees i key).1.open_ = e.open_ := by
  obtain ⟨g1, g2, g3, g4⟩ := sawNew_ok (newerL (e.row key) (e.tx i).start) N e h hi
  have hn := newerL_le (e.row key) (e.tx i).start
  have hr := h.row_len key
  have hf := h.few
  unfold Eng.sees
  simp only
  split
  · obtain ⟨k1, k2, k3, k4⟩ := sawOpen_ok (key := key) (List.range (sawNew i (newerL (e.row key) (e.tx i).start) e).1.txs.length) _ _ g1 (by rw [g2]; exact hi)
    rw [List.length_range] at k1
    have k5 : OkT (N + 601) _ U := k1.mono (by omega)
    exact ⟨k5, by rw [k2, g2], fun k => by rw [k3, g3], by rw [k4, g4]⟩
  · have k5 : OkT (N + 601) _ U := g1.mono (by omega)
    exact ⟨k5, g2, g3, g4⟩
theorem goes_kept (h : OkT N e []) (hi : i < e.txs.length) (ha : (e.tx i).alive = true) (why : Int) : OkT N (e.goes i why) [] :=
  (goesOk e.open_ N e i why [] h hi ha (by simp) (Nat.le_refl _)).1
theorem OkT.reads_in (h : OkT N e U) (hi : i < e.txs.length) (r : Int × Int) : OkT (N + 1) (e.upd i fun x => { x with reads := x.reads ++ [r] }) U :=
  h.field (by omega) _ (fun _ => rfl) (fun _ => rfl) (fun _ => rfl) (fun _ => rfl) (fun _ => rfl) (h.at hi).want (by have := h.reads _ (Eng.tx_mem hi); simp only [List.length_append, List.length_singleton]; omega)
theorem err_at (h : e.err ((i : Int) + 1) true = 0) : i < e.txs.length ∧ (e.tx i).state = 0 := by
  rcases e.err_cases ((i : Int) + 1) true with ⟨h1, _⟩ | ⟨j, hj, hlt, ⟨h1, _⟩ | ⟨_, h2⟩⟩
  · omega
  · omega
  · obtain rfl : i = j := by omega
    exact ⟨hlt, h2 rfl⟩
theorem err_num {n : Int} {op : Bool} (h : e.err n op = 0) : ∃ i : Nat, n = (i : Int) + 1 ∧ i < e.txs.length ∧ (op = true → (e.tx i).state = 0) := by
  rcases e.err_cases n op with ⟨h1, _⟩ | ⟨j, hj, hlt, ⟨h1, _⟩ | ⟨_, h2⟩⟩
  · omega
  · omega
  · exact ⟨j, hj, hlt, h2⟩
theorem OkT.red (h : OkT N e []) (n key : Int) : OkT (N + 1000) (e.read n key).1 [] := by
  have hm := h.mono (M := N + 1000) (by omega)
  unfold Eng.read
  split
  · exact hm
  · rename_i herr
    obtain ⟨i, rfl, hi, hst⟩ := err_num (Decidable.not_not.1 herr)
    have hi2 : ((i : Int) + 1).toNat - 1 = i := by omega
    simp only [hi2]
    cases mget (e.tx i).writes key with
    | some v => exact hm
    | none =>
      simp only
      split
      · exact hm
      · have h1 := h.reads_in hi (key, (mget e.wr (((readV (e.row key) (e.asOf i)).map (·.1)).getD 0)).getD 0)
        have hlen := Eng.upd_len e i fun x => { x with reads := x.reads ++ [(key, (mget e.wr (((readV (e.row key) (e.asOf i)).map (·.1)).getD 0)).getD 0)] }
        have hs1 := Eng.upd_keep (e := e) (i := i) (·.state) (fun x => { x with reads := x.reads ++ [(key, (mget e.wr (((readV (e.row key) (e.asOf i)).map (·.1)).getD 0)).getD 0)] }) (fun _ => rfl) i
        generalize (e.upd i fun x => { x with reads := x.reads ++ [(key, (mget e.wr (((readV (e.row key) (e.asOf i)).map (·.1)).getD 0)).getD 0)] }) = e1 at *
        have hi1 : i < e1.txs.length := by omega
        split
        · obtain ⟨g1, g2, g3, _⟩ := sees_ok h1 hi1 key
          split
          · exact g1.mono (by omega)
          · exact (goes_kept g1 (by omega) (by simp only [Tx.alive, decide_eq_true_eq]; rw [g3, hs1, hst rfl]; decide) 13).mono (by omega)
        · exact h1.mono (by omega)

/-! ### Write -/
theorem OkT.wait_none (h : OkT N e U) (hs : (e.tx i).state ≠ 1) : mget e.t.wait ((i : Int) + 1) = none := by
  obtain ⟨Q, hQ⟩ := h.tab
  exact hQ.not_wait (by rw [show ((i : Int) + 1).toNat - 1 = i by omega]; exact hs)
/-- It gets a key that nobody holds. -/
theorem OkT.got (h : OkT N e []) (hi : i < e.txs.length) (hs : (e.tx i).state = 0) {key : Int} (hk : keyOk key) (hh : mget e.t.hold key = none) : OkT N { e with t := { e.t with hold := mput e.t.hold key ((i : Int) + 1) } } [] := by
  obtain ⟨Q, hQ⟩ := h.tab
  obtain ⟨r, hr⟩ := hQ.rk
  have hq : Q key = [] := by
    have := hQ.tab.hold key
    rw [hh] at this
    cases hq : Q key with
    | nil => rfl
    | cons a l => rw [hq] at this; cases this
  have hat : ∀ k, askQ Q ((i : Int) + 1) key k = if k = key then Q key ++ [(i : Int) + 1] else Q k := fun k => by unfold askQ updQ; rfl
  have hmem : ∀ k, ∀ x ∈ askQ Q ((i : Int) + 1) key k, x ∈ Q k ∨ (k = key ∧ x = (i : Int) + 1) := fun k x hx => by
    rw [hat] at hx
    split at hx
    · rename_i hk'; subst hk'
      rcases List.mem_append.1 hx with g | g
      · exact .inl g
      · exact .inr ⟨rfl, by simpa using g⟩
    · exact .inl hx
  have htail : ∀ k, ∀ x ∈ (askQ Q ((i : Int) + 1) key k).tail, x ∈ (Q k).tail := fun k x hx => by
    rw [hat] at hx
    split at hx
    · rw [hq] at hx; simp at hx
    · exact hx
  refine ⟨h.few, h.v10, h.txs, h.wr, ⟨askQ Q ((i : Int) + 1) key, hQ.tab.ask_free hh, ⟨r, hr.free hq⟩, keys_put_nodup hQ.hold _ _, fun k x hx => ?_, fun k x hx => ?_, fun k x hx => hQ.waits k x (htail k x hx)⟩, h.all, h.six, h.cnt, h.rows, h.wrs, h.last, h.hist, h.reads, h.fits, by simp, by simp⟩
  · rcases hmem k x hx with g | ⟨rfl, rfl⟩
    · exact hQ.key k x g
    · refine ⟨hk, by omega, ?_⟩
      show (i : Int) + 1 ≤ e.txs.length; omega
  · rcases hmem k x hx with g | ⟨rfl, rfl⟩
    · exact hQ.alive k x g
    · rw [show ((i : Int) + 1).toNat - 1 = i by omega]
      show (e.tx i).alive = true
      simp [Tx.alive, hs]
/-- It waits. -/
theorem OkT.stands (h : OkT N e []) (hi : i < e.txs.length) (hs : (e.tx i).state = 0) {key a : Int} {n : Nat} (hk : keyOk key) (hh : mget e.t.hold key = some a) (ha : a ≠ (i : Int) + 1) (hc : chase e.t ((i : Int) + 1) n a = some false) :
    OkT (N + 200) ({ e with t := { e.t with wait := mput e.t.wait ((i : Int) + 1) key, line := mput e.t.line key (lineAt e.t key ++ [(i : Int) + 1]) } }.upd i fun x => { x with state := 1 }) [] := by
  obtain ⟨Q, hQ⟩ := h.tab
  obtain ⟨r, hr⟩ := hQ.rk
  have hw := h.wait_none (i := i) (by omega)
  have hq0 : ∀ k, ((i : Int) + 1) ∉ (Q k).tail := hQ.tab.none_wait.1 hw
  have hat : ∀ k, askQ Q ((i : Int) + 1) key k = if k = key then Q key ++ [(i : Int) + 1] else Q k := fun k => by unfold askQ updQ; rfl
  have hmem : ∀ k, ∀ x ∈ askQ Q ((i : Int) + 1) key k, x ∈ Q k ∨ (k = key ∧ x = (i : Int) + 1) := fun k x hx => by
    rw [hat] at hx
    split at hx
    · rename_i hk'; subst hk'
      rcases List.mem_append.1 hx with g | g
      · exact .inl g
      · exact .inr ⟨rfl, by simpa using g⟩
    · exact .inl hx
  have htail : ∀ k, ∀ x ∈ (askQ Q ((i : Int) + 1) key k).tail, x ∈ (Q k).tail ∨ x = (i : Int) + 1 := fun k x hx => by
    rw [hat] at hx
    split at hx
    · rename_i hk'; subst hk'
      cases hq : Q k with
      | nil => rw [hq] at hx; simp at hx
      | cons b l =>
        rw [hq] at hx
        simp only [List.cons_append, List.tail_cons, List.mem_append, List.mem_singleton] at hx
        exact hx
    · exact .inl hx
  generalize he1 : ({ e with t := { e.t with wait := mput e.t.wait ((i : Int) + 1) key, line := mput e.t.line key (lineAt e.t key ++ [(i : Int) + 1]) } } : Eng) = e1
  have htab : TabOk e1 (askQ Q ((i : Int) + 1) key) → TabOk e1 (askQ Q ((i : Int) + 1) key) := id
  have hlen : (e1.upd i fun x => { x with state := 1 }).txs.length = e.txs.length := by rw [Eng.upd_len, ← he1]
  have hi1 : i < e1.txs.length := by rw [← he1]; exact hi
  have htxe : ∀ j, e1.tx j = e.tx j := fun j => by rw [← he1]; rfl
  have hne : ∀ j, j ≠ i → (e1.upd i fun x => { x with state := 1 }).tx j = e.tx j := fun j hj => by rw [Eng.upd_ne (Ne.symm hj), htxe]
  have hself : (e1.upd i fun x => { x with state := 1 }).tx i = { e.tx i with state := 1 } := by rw [Eng.upd_self hi1, htxe]
  have hm1 := Eng.many_upd hi1 Tx.alive (fun x => { x with state := 1 })
  have hm2 := Eng.many_upd hi1 Tx.waits (fun x => { x with state := 1 })
  rw [if_pos (by rw [htxe]; simp [Tx.alive, hs]), if_pos (by simp [Tx.alive])] at hm1
  rw [if_neg (by rw [htxe]; simp [Tx.waits, hs]), if_pos (by simp [Tx.waits])] at hm2
  have hop : (e1.upd i fun x => { x with state := 1 }).open_ = e.open_ := by
    have : e1.many Tx.alive = e.open_ := by rw [← he1]; rfl
    unfold Eng.many at hm1 this; unfold Eng.open_ at *; omega
  have hwt : (e1.upd i fun x => { x with state := 1 }).many Tx.waits = e.many Tx.waits + 1 := by
    have : e1.many Tx.waits = e.many Tx.waits := by rw [← he1]; rfl
    omega
  have hx1 : ∀ x, 1 ≤ x → x ≠ (i : Int) + 1 → x.toNat - 1 ≠ i := fun x _ _ => by omega
  refine ⟨by rw [hlen]; exact h.few, by rw [← he1]; exact h.v10, ?_, fun k v hk => ?_, ⟨askQ Q ((i : Int) + 1) key, ?_, ?_, ?_, fun k x hx => ?_, fun k x hx => ?_, fun k x hx => ?_⟩, fun j hj hs' => ?_, by rw [hop]; exact h.six, ?_, by rw [← he1]; exact h.rows, by rw [← he1]; exact h.wrs, by rw [← he1]; exact h.last, ?_, ?_, ?_, by simp, by simp⟩
  · rw [hlen]
    refine Eng.upd_all (by rw [← he1]; exact h.txs) fun _ => ?_
    have := h.at hi
    rw [htxe]
    exact ⟨by simp, this.refs, this.want, this.own, this.keys⟩
  · have hk' : mget e.wr k = some v := by rw [← he1] at hk; exact hk
    obtain ⟨g1, g2, g3⟩ := h.wr k v hk'
    rw [hlen, hne]
    · exact ⟨g1, g2, g3⟩
    · intro e2; rw [e2] at g3; omega
  · rw [← he1]; exact hQ.tab.ask_line hw hh ha
  · exact Rk.ask hQ.tab hr hw hh hc
  · rw [← he1]; exact hQ.hold
  · rw [hlen]
    rcases hmem k x hx with g | ⟨rfl, rfl⟩
    · exact hQ.key k x g
    · exact ⟨hk, by omega, by omega⟩
  · rcases hmem k x hx with g | ⟨rfl, rfl⟩
    · by_cases hxi : x = (i : Int) + 1
      · rw [hxi, show ((i : Int) + 1).toNat - 1 = i by omega, hself]; simp [Tx.alive]
      · rw [hne _ (hx1 x (hQ.key k x g).2.1 hxi)]; exact hQ.alive k x g
    · rw [show ((i : Int) + 1).toNat - 1 = i by omega, hself]; simp [Tx.alive]
  · rcases htail k x hx with g | rfl
    · by_cases hxi : x = (i : Int) + 1
      · rw [hxi, show ((i : Int) + 1).toNat - 1 = i by omega, hself]
      · rw [hne _ (hx1 x (hQ.key k x (List.mem_of_mem_tail g)).2.1 hxi)]; exact hQ.waits k x g
    · rw [show ((i : Int) + 1).toNat - 1 = i by omega, hself]
  · left
    have hwe : (e1.upd i fun x => { x with state := 1 }).t.wait = mput e.t.wait ((i : Int) + 1) key := by rw [← he1]; rfl
    rw [hwe, mget_put]
    split
    · simp
    · rename_i hji
      have hji' : j ≠ i := fun e2 => hji (by rw [e2])
      rw [hne j hji'] at hs'
      rw [hlen] at hj
      rcases h.all j hj hs' with g | ⟨w, g, _⟩
      · exact g
      · cases g
  · rw [hop, hlen, ← he1]; exact h.cnt
  · rw [← he1]
    exact Int.le_trans h.hist (Int.mul_le_mul_of_nonneg_left (by omega) h.cnt.1)
  · refine Eng.upd_all (p := fun x => x.reads.length ≤ N + 200) (fun x hx => ?_) fun _ => ?_
    · have : x ∈ e.txs := by rw [← he1] at hx; exact hx
      have := h.reads x this; omega
    · rw [htxe]; have := h.reads _ (Eng.tx_mem hi); simp only; omega
  · rw [hwt]
    have : ∀ x ∈ e.txs, x.fore.length + 200 * (e.many Tx.waits + 1) + slacks [] ≤ N + 200 ∧ x.aft.length + 200 * (e.many Tx.waits + 1) + slacks [] ≤ N + 200 := fun x hx => by
      have := h.fits x hx; omega
    refine Eng.upd_all (p := fun x => x.fore.length + 200 * (e.many Tx.waits + 1) + slacks [] ≤ N + 200 ∧ x.aft.length + 200 * (e.many Tx.waits + 1) + slacks [] ≤ N + 200) (fun x hx => this x (by rw [← he1] at hx; exact hx)) fun _ => ?_
    rw [htxe]; exact this (e.tx i) (Eng.tx_mem hi)
/-- It has the key, and is to write. -/
theorem OkT.to_put (h : OkT N e []) (hi : i < e.txs.length) (hs : (e.tx i).state = 0) {w : Int × Int} (hk : keyOk w.1) (hv : valOk w.2) : OkT (N + 200) e [.put i w] := by
  have h' := h.mono (M := N + 200) (by omega)
  refine ⟨h'.few, h'.v10, h'.txs, h'.wr, h'.tab, fun j hj hs' => ?_, h'.six, h'.cnt, h'.rows, h'.wrs, h'.last, h'.hist, h'.reads, fun x hx => ?_, fun t ht => ?_, by simp⟩
  · rcases h'.all j hj hs' with g | ⟨w, g, _⟩
    · exact .inl g
    · cases g
  · have := h.fits x hx
    simp only [slacks, List.map_cons, List.map_nil, List.sum_cons, List.sum_nil, slack] at this ⊢; omega
  · simp only [List.mem_singleton] at ht; subst ht
    refine ⟨hi, by simp, fun i' w' e1 => ?_, by simp⟩
    simp only [Task.put.injEq] at e1
    obtain ⟨rfl, rfl⟩ := e1
    exact ⟨hs, hk, hv, h.wait_none (by omega)⟩
end Go.Proofs.YtaghjcdlghcjeaaGreatDoor
/- Transactions at the same time: what a write brings about. No walk in sight. -/
namespace Go.Proofs.YtaghjcdlghcjeaaGreatDoor
open Go Go.RowKit Go.Sep

variable {e : Eng} {i j : Nat} {N M : Nat} {U : List Task}
/-! ### Something of each that all this keeps -/
structure Keeps (R : Eng → Eng → Prop) : Prop where
  refl : ∀ e, R e e
  trans : ∀ e f g, R e f → R f g → R e g
  note : ∀ e a b, R e (e.note a b)
  opens : ∀ e i, R e (e.opens i)
  wput : ∀ e i w, R e (e.wput i w)
  lets : ∀ e i, R e (e.lets i)
section
variable {R : Eng → Eng → Prop} {g : Eng → Nat → Int → Eng}
theorem putsL_keep (hR : Keeps R) (hg : ∀ e i why, why ≠ 0 → R e (g e i why)) {i : Nat} {key : Int} : ∀ (l : List Nat) (e : Eng), R e (putsL g i key l e)
  | [], e => hR.refl e
  | j :: l, e => by
    unfold putsL
    split
    · exact putsL_keep hR hg l e
    · simp only
      split
      · exact hR.trans _ _ _ (hR.note e j i) (hg _ i 13 (by decide))
      · exact hR.trans _ _ _ (hR.note e j i) (putsL_keep hR hg l _)
theorem putsG_keep (hR : Keeps R) (hg : ∀ e i why, why ≠ 0 → R e (g e i why)) (e : Eng) (i : Nat) (w : Int × Int) : R e (putsG g e i w) := by
  unfold putsG
  split
  · exact hg e i 10 (by decide)
  · split
    · exact hR.trans _ _ _ (hR.wput e i w) (putsL_keep hR hg _ _)
    · exact hR.wput e i w
theorem freesL_keep (hR : Keeps R) (hg : ∀ e i why, why ≠ 0 → R e (g e i why)) : ∀ (l : List (Int × Int)) (e : Eng), R e (freesL g l e)
  | [], e => hR.refl e
  | w :: l, e => by
    unfold freesL
    exact hR.trans _ _ _ (hR.opens e _) (hR.trans _ _ _ (putsG_keep hR hg _ _ _) (freesL_keep hR hg l _))
theorem goesN_keep (hR : Keeps R) (ok : Nat → Int → Prop) (hok : ∀ i why, why ≠ 0 → ok i why) (hm : ∀ e i why, ok i why → R e (e.mark i why)) : ∀ (n : Nat) (e : Eng) (i : Nat) (why : Int), ok i why → R e (goesN n e i why)
  | 0, e, i, why, _ => hR.refl e
  | n + 1, e, i, why, h => by
    unfold goesN freesG
    exact hR.trans _ _ _ (hm e i why h) (hR.trans _ _ _ (hR.lets _ i) (freesL_keep hR (fun e i why hw => goesN_keep hR ok hok hm n e i why (hok i why hw)) _ _))
end
/-! ### How many there are -/
theorem keeps_len : Keeps fun e f => f.txs.length = e.txs.length where
  refl _ := rfl
  trans _ _ _ h1 h2 := h2.trans h1
  note e a b := Eng.note_len e a b
  opens _ _ := Eng.upd_len ..
  wput _ _ _ := Eng.upd_len ..
  lets _ _ := rfl
theorem goesN_len (n : Nat) (e : Eng) (i : Nat) (why : Int) : (goesN n e i why).txs.length = e.txs.length :=
  goesN_keep keeps_len (fun _ _ => True) (fun _ _ _ => trivial) (fun e i why _ => Eng.mark_len e i why) n e i why trivial
theorem goes_len (e : Eng) (i : Nat) (why : Int) : (e.goes i why).txs.length = e.txs.length := goesN_len _ e i why
theorem puts_len (e : Eng) (i : Nat) (w : Int × Int) : (e.puts i w).txs.length = e.txs.length := putsG_keep keeps_len (fun e i why _ => goesN_len _ e i why) e i w
theorem frees_len (e : Eng) (i : Nat) : (e.frees i).txs.length = e.txs.length := by
  unfold Eng.frees freesG
  exact freesL_keep keeps_len (fun e i why _ => goesN_len _ e i why) _ _
/-! ### Who is gone by itself has a reason -/
def WhyOk (i : Nat) (e : Eng) : Prop := (e.tx i).state = 3 → (e.tx i).why ≠ 0
theorem keeps_why (i : Nat) : Keeps fun e f => WhyOk i e → WhyOk i f where
  refl _ := id
  trans _ _ _ h1 h2 := h2 ∘ h1
  note e a b h := by
    unfold WhyOk
    rw [Eng.note_state, Eng.note_keep (·.why) (fun _ _ => rfl) (fun _ _ => rfl)]
    exact h
  opens e j h := by
    unfold WhyOk Eng.opens
    rw [Eng.upd_tx]
    split
    · intro h2; cases h2
    · exact h
  wput e j w h := by
    unfold WhyOk Eng.wput
    rw [Eng.upd_keep (·.state) (fun x => { x with writes := mput x.writes w.1 w.2 }) (fun _ => rfl), Eng.upd_keep (·.why) (fun x => { x with writes := mput x.writes w.1 w.2 }) (fun _ => rfl)]
    exact h
  lets e j h := h
theorem goesN_why (n : Nat) (e : Eng) (j i : Nat) (why : Int) (hw : i = j → why ≠ 0) : WhyOk j e → WhyOk j (goesN n e i why) :=
  goesN_keep (keeps_why j) (fun i why => i = j → why ≠ 0) (fun _ _ h _ => h) (fun e i why h he => by
    unfold WhyOk
    rw [Eng.mark_tx]
    split
    · rename_i hc; intro _; exact h hc.1
    · exact he) n e i why hw
theorem puts_why (e : Eng) (j i : Nat) (w : Int × Int) (h : WhyOk j e) : WhyOk j (e.puts i w) :=
  putsG_keep (keeps_why j) (fun e i why hw he => goesN_why _ e j i why (fun _ => hw) he) e i w h

/-! ### Who asks -/
theorem OkT.chased (h : OkT N e U) (n key : Int) : ∀ a, mget e.t.hold key = some a → ∃ m, chase e.t n m a = some (comesRound e.t n key) := by
  intro a ha
  obtain ⟨Q, hQ⟩ := h.tab
  obtain ⟨r, hr⟩ := hQ.rk
  obtain ⟨c, hc⟩ := chase_ends (hr.ranked hQ.tab) n (r a + 1) a (by omega)
  refine ⟨r a + 1, ?_⟩
  rw [hc]
  congr 1
  cases c with
  | true =>
    symm
    simp only [comesRound, decide_eq_true_eq]
    exact ⟨a, ha, r a + 1, hc⟩
  | false =>
    symm
    simp only [comesRound, decide_eq_false_iff_not]
    rintro ⟨a', ha', m, hm⟩
    rw [ha] at ha'; cases ha'
    exact absurd (chase_one hc hm) (by decide)
theorem asked_cases (h : OkT N e []) (hi : i < e.txs.length) (hs : (e.tx i).state = 0) {key : Int} (hk : keyOk key) :
    (tbAsk e.t ((i : Int) + 1) key (comesRound e.t ((i : Int) + 1) key) = (e.t, false, 11)) ∨
    (∃ t', tbAsk e.t ((i : Int) + 1) key (comesRound e.t ((i : Int) + 1) key) = (t', true, 0) ∧ OkT N { e with t := t' } []) ∨
    (∃ t', tbAsk e.t ((i : Int) + 1) key (comesRound e.t ((i : Int) + 1) key) = (t', false, 0) ∧ OkT (N + 200) ({ e with t := t' }.upd i fun x => { x with state := 1 }) []) := by
  have hw := h.wait_none (i := i) (by omega)
  have h0 : ¬ (key < 0 ∨ 10 ≤ key ∨ (i : Int) + 1 < 1) := by have := hk.1; have := hk.2; omega
  have hch := h.chased ((i : Int) + 1) key
  generalize comesRound e.t ((i : Int) + 1) key = c at *
  unfold tbAsk
  rw [if_neg h0, hw]
  simp only [Option.isSome_none, Bool.false_eq_true, if_false]
  cases hh : mget e.t.hold key with
  | none => exact .inr (.inl ⟨_, rfl, h.got hi hs hk hh⟩)
  | some a =>
    simp only
    by_cases ha : a = (i : Int) + 1
    · rw [if_pos ha]; exact .inr (.inl ⟨_, rfl, h⟩)
    · rw [if_neg ha]
      obtain ⟨m, hm⟩ := hch a hh
      cases c with
      | true => exact .inl rfl
      | false => exact .inr (.inr ⟨_, rfl, h.stands hi hs hk hh ha hm⟩)
theorem OkT.wanted (h : OkT N e U) (hi : i < e.txs.length) {w : Int × Int} (hk : keyOk w.1) (hv : valOk w.2) : OkT N (e.upd i fun x => { x with want := w }) U :=
  h.field (Nat.le_refl _) _ (fun _ => rfl) (fun _ => rfl) (fun _ => rfl) (fun _ => rfl) (fun _ => rfl) ⟨hk, hv⟩ (h.reads (e.tx i) (Eng.tx_mem hi))
theorem OkT.puts (h : OkT N e []) (hi : i < e.txs.length) (hs : (e.tx i).state = 0) {w : Int × Int} (hk : keyOk w.1) (hv : valOk w.2) : OkT (N + 200) (e.puts i w) [] :=
  (putsG_ok (goesOk e.open_) (h.to_put hi hs hk hv) (Nat.le_refl _)).1
theorem OkT.wrote (h : OkT N e []) (n key value : Int) : OkT (N + 1000) (e.write n key value).1 [] := by
  have hm := h.mono (M := N + 1000) (by omega)
  unfold Eng.write
  split
  · exact hm
  · rename_i herr
    obtain ⟨i, rfl, hi, hst⟩ := err_num (Decidable.not_not.1 herr)
    have hi2 : ((i : Int) + 1).toNat - 1 = i := by omega
    split
    · exact hm
    · rename_i hk
      split
      · exact hm
      · rename_i hv
        have hk := Decidable.not_not.1 hk
        have hv := Decidable.not_not.1 hv
        simp only [hi2]
        have h1 := h.wanted hi (w := (key, value)) hk hv
        have hlen : (e.upd i fun x => { x with want := (key, value) }).txs.length = e.txs.length := Eng.upd_len ..
        have hs1 : ((e.upd i fun x => { x with want := (key, value) }).tx i).state = 0 := (Eng.upd_keep (·.state) (fun x => { x with want := (key, value) }) (fun _ => rfl) i).trans (hst rfl)
        have ht : (e.upd i fun x => { x with want := (key, value) }).t = e.t := rfl
        generalize (e.upd i fun x => { x with want := (key, value) }) = e1 at *
        have hi1 : i < e1.txs.length := by omega
        have hc := asked_cases h1 hi1 hs1 hk
        rw [ht] at hc
        rcases hc with hc | ⟨t', hc, h2⟩ | ⟨t', hc, h2⟩ <;> rw [hc]
        · simp only
          rw [if_pos (by decide)]
          have h2 : OkT N ({ e1 with t := e.t } : Eng) [] := by rw [← ht]; exact h1
          exact (goes_kept h2 hi1 (by simp only [Tx.alive, decide_eq_true_eq]; show (e1.tx i).state ≤ 1; omega) 11).mono (by omega)
        · simp only
          rw [if_neg (by decide), if_neg (by decide)]
          have h3 := h2.puts hi1 hs1 (w := (key, value)) hk hv
          split
          · exact h3.mono (by omega)
          · exact h3.mono (by omega)
        · simp only
          rw [if_neg (by decide), if_pos trivial]
          exact h2.mono (by omega)
end Go.Proofs.YtaghjcdlghcjeaaGreatDoor
/- The program's engine: Write. -/
namespace Go.Proofs.YtaghjcdlghcjeaaGreatDoor
open Go Go.RowKit Go.Sep

theorem want_eq (e : Eng) (i : Nat) (a c : Int) : (e.upd i fun x => { x with want := (a, x.want.2) }).upd i (fun x => { x with want := (x.want.1, c) }) = e.upd i fun x => { x with want := (a, c) } := by
  unfold Eng.upd
  simp only [Eng.mk.injEq, and_true, true_and]
  apply List.ext_getElem?
  intro j
  simp only [List.getElem?_modify]
  by_cases h : i = j
  · subst h; cases e.txs[i]? <;> simp
  · simp [h]
theorem OkT.lines {e : Eng} {N : Nat} {U : List Task} (h : OkT N e U) (k : Int) : (lineAt e.t k).length ≤ 1000000 := by
  obtain ⟨Q, hQ⟩ := h.tab
  have hf := h.few
  unfold lineAt
  rw [hQ.tab.line k]
  have := Go.Sep.few (S := (List.range e.txs.length).map fun m : Nat => (m : Int) + 1) (hQ.tab.nod k) (fun x hx => by
    have := hQ.key k x hx
    simp only [List.mem_map, List.mem_range]
    exact ⟨(x - 1).toNat, by omega, by omega⟩)
  simp only [List.length_map, List.length_range] at this
  rw [List.length_tail]; omega
set_option linter.unusedSimpArgs false in
set_option maxRecDepth 100000 in
set_option maxHeartbeats 8000000 in
theorem ewrite_any (w0 w : World) (b : Nat) (bs : List Nat) (e : Eng) (n key value : Int) (L : List HProp) (N : Nat) (hok : OkT N e []) (hN : N ≤ 90000000) (hs : S w0 w (engP b bs e :: L)) :
    Calls Tryz.prog 11 #[.pointer (some ⟨b, 0, none⟩), .int .i64 n, .int .i64 key, .int .i64 value] w fun r w' => r = .returned (.tuple #[.bool (e.write n key value).2.1, errV (e.write n key value).2.2]) ∧ S w0 w' (engP b bs (e.write n key value).1 :: L) := by
  have HS := hid hs
  obtain ⟨k, hs⟩ := hs.eng_open
  have hO : S w0 w (engO b bs k e :: storeP 84 b 0 e.V e.last :: tabP 3 b 11 e.t :: L) := hs.conv (by simp only [all]; ac_rfl)
  rcases e.err_cases n true with ⟨h1, h2⟩ | ⟨i, rfl, hi, ⟨h1, h2, h3⟩ | ⟨h1, h2⟩⟩
  · have hf : e.write n key value = (e, false, 7) := by unfold Eng.write; rw [if_pos (by rw [h1]; decide), h1]
    have HF := hid hf; have HC := hid (of_miss w0 w b bs k e n true _ hO h2)
    clear hs hO h1 h2 hf hok
    go_enter Tryz.func11, Tryz.ntmps11
    go_wp2_with fail
    with_reducible refine HC.out.mono ?_
    rintro r w' ⟨rfl, rfl⟩
    go_wp2_with fail
    go_ret2
    exact ⟨by rw [HF.out]; rfl, by rw [HF.out]; exact HS.out⟩
  · have hf : e.write ((i : Int) + 1) key value = (e, false, 6) := by unfold Eng.write; rw [if_pos (by rw [h1]; decide), h1]
    have HF := hid hf; have HC := hid (of_shut w0 w b bs k e i _ hO hi h3)
    clear hs hO h1 h2 h3 hf hok
    go_enter Tryz.func11, Tryz.ntmps11
    go_wp2_with fail
    with_reducible refine HC.out.mono ?_
    rintro r w' ⟨rfl, rfl⟩
    go_wp2_with fail
    go_ret2
    exact ⟨by rw [HF.out]; rfl, by rw [HF.out]; exact HS.out⟩
  · have hi2 : ((i : Int) + 1).toNat - 1 = i := by omega
    have hc := of_ok w0 w b bs k e i true _ hO hi h2
    unfold ptr at hc
    have HC := hid hc
    by_cases hk0 : key < 0
    · have hf : e.write ((i : Int) + 1) key value = (e, false, 2) := by
        unfold Eng.write; rw [if_neg (by rw [h1]; decide), if_pos (by unfold keyOk; omega)]
      have HF := hid hf
      clear hs hO h1 h2 hf hc hok hi2
      go_enter Tryz.func11, Tryz.ntmps11
      go_wp2_with fail
      with_reducible refine HC.out.mono ?_
      rintro r w' ⟨rfl, rfl⟩
      go_wp2_with fail
      go_ret2
      exact ⟨by rw [HF.out]; rfl, by rw [HF.out]; exact HS.out⟩
    by_cases hk1 : 10 ≤ key
    · have hf : e.write ((i : Int) + 1) key value = (e, false, 2) := by
        unfold Eng.write; rw [if_neg (by rw [h1]; decide), if_pos (by unfold keyOk; omega)]
      have HF := hid hf
      clear hs hO h1 h2 hf hc hok hi2
      go_enter Tryz.func11, Tryz.ntmps11
      go_wp2_with fail
      with_reducible refine HC.out.mono ?_
      rintro r w' ⟨rfl, rfl⟩
      go_wp2_with fail
      go_ret2
      exact ⟨by rw [HF.out]; rfl, by rw [HF.out]; exact HS.out⟩
    have hk : keyOk key := by unfold keyOk; omega
    by_cases hv0 : value < -1099511627776
    · have hf : e.write ((i : Int) + 1) key value = (e, false, 1) := by
        unfold Eng.write; rw [if_neg (by rw [h1]; decide), if_neg (by simpa using hk), if_pos (by unfold valOk; omega)]
      have HF := hid hf
      clear hs hO h1 h2 hf hc hok hi2 hk
      go_enter Tryz.func11, Tryz.ntmps11
      go_wp2_with fail
      with_reducible refine HC.out.mono ?_
      rintro r w' ⟨rfl, rfl⟩
      go_wp2_with fail
      go_ret2
      exact ⟨by rw [HF.out]; rfl, by rw [HF.out]; exact HS.out⟩
    by_cases hv1 : 1099511627776 < value
    · have hf : e.write ((i : Int) + 1) key value = (e, false, 1) := by
        unfold Eng.write; rw [if_neg (by rw [h1]; decide), if_neg (by simpa using hk), if_pos (by unfold valOk; omega)]
      have HF := hid hf
      clear hs hO h1 h2 hf hc hok hi2 hk
      go_enter Tryz.func11, Tryz.ntmps11
      go_wp2_with fail
      with_reducible refine HC.out.mono ?_
      rintro r w' ⟨rfl, rfl⟩
      go_wp2_with fail
      go_ret2
      exact ⟨by rw [HF.out]; rfl, by rw [HF.out]; exact HS.out⟩
    have hv : valOk value := by unfold valOk; omega
    have hx := (hO.eng_txc hi).2
    have c7 := hx.want1
    have c8 := hx.want2
    have f7 := hx.free 7
    have f8 := hx.free 8
    obtain ⟨e1, he1⟩ : ∃ e1, (e.upd i fun x => { x with want := (key, value) }) = e1 := ⟨_, rfl⟩
    have hok1 : OkT N e1 [] := by rw [← he1]; exact hok.wanted hi (w := (key, value)) hk hv
    have hlen1 : e1.txs.length = e.txs.length := by rw [← he1]; exact Eng.upd_len ..
    have hs1 : (e1.tx i).state = 0 := by rw [← he1]; exact (Eng.upd_keep (·.state) (fun x => { x with want := (key, value) }) (fun _ => rfl) i).trans (h2 rfl)
    have hw1 : (e1.tx i).want = (key, value) := by rw [← he1, Eng.upd_self hi]
    have ht1 : e1.t = e.t := by rw [← he1]; rfl
    have hi1 : i < e1.txs.length := by omega
    have hst : S w0 ((w.setCell ⟨blkOf bs i, 7, none⟩ (.int .i64 key)).setCell ⟨blkOf bs i, 8, none⟩ (.int .i64 value)) (tabP 3 b 11 e.t :: storeP 84 b 0 e1.V e1.last :: engO b bs k e1 :: L) := by
      have g1 := hO.eng_set (j := 7) (u := .int .i64 key) hi (fun x => { x with want := (key, x.want.2) }) (by decide) rfl rfl rfl rfl rfl
      have g2 := g1.eng_set (j := 8) (u := .int .i64 value) (by rw [Eng.upd_len]; exact hi) (fun x => { x with want := (x.want.1, value) }) (by decide) rfl rfl rfl rfl rfl
      rw [want_eq, he1] at g2
      have e2 : e1.V = e.V := by rw [← he1]; rfl
      have e3 : e1.last = e.last := by rw [← he1]; rfl
      rw [e2, e3]
      exact g2.conv (by simp only [all]; ac_rfl)
    obtain ⟨Q, hQ⟩ := hok.tab
    obtain ⟨rk, hrk⟩ := hQ.rk
    have hask := task_any w0 _ b 11 e.t ((i : Int) + 1) key rk (comesRound e.t ((i : Int) + 1) key) _ hst (hrk.ranked hQ.tab) (hok.chased _ key) (hok.lines key)
    unfold AskPost at hask
    have hf : e.write ((i : Int) + 1) key value = (if (tbAsk e.t ((i : Int) + 1) key (comesRound e.t ((i : Int) + 1) key)).2.2 ≠ 0 then (({ e1 with t := (tbAsk e.t ((i : Int) + 1) key (comesRound e.t ((i : Int) + 1) key)).1 } : Eng).goes i 11, false, 11)
        else if (tbAsk e.t ((i : Int) + 1) key (comesRound e.t ((i : Int) + 1) key)).2.1 = false then (({ e1 with t := (tbAsk e.t ((i : Int) + 1) key (comesRound e.t ((i : Int) + 1) key)).1 } : Eng).upd i fun x => { x with state := 1 }, false, 0)
        else if ((({ e1 with t := (tbAsk e.t ((i : Int) + 1) key (comesRound e.t ((i : Int) + 1) key)).1 } : Eng).puts i (key, value)).tx i).state = 3 then (({ e1 with t := (tbAsk e.t ((i : Int) + 1) key (comesRound e.t ((i : Int) + 1) key)).1 } : Eng).puts i (key, value), false, ((({ e1 with t := (tbAsk e.t ((i : Int) + 1) key (comesRound e.t ((i : Int) + 1) key)).1 } : Eng).puts i (key, value)).tx i).why) else (({ e1 with t := (tbAsk e.t ((i : Int) + 1) key (comesRound e.t ((i : Int) + 1) key)).1 } : Eng).puts i (key, value), true, 0)) := by
      unfold Eng.write
      rw [if_neg (by rw [h1]; decide), if_neg (by simpa using hk), if_neg (by simpa using hv)]
      simp only [hi2, he1]
    have hcase := asked_cases hok1 hi1 hs1 hk
    rw [ht1] at hcase
    rcases hcase with hca | ⟨t', hca, hok2⟩ | ⟨t', hca, hok2⟩
    · rw [hca] at hask hf
      simp only at hask hf
      rw [if_pos (by decide)] at hf
      have hok3 : OkT N ({ e1 with t := e.t } : Eng) [] := by rw [← ht1]; exact hok1
      have hgo := fun W h => goes_any ({ e1 with t := e.t } : Eng).open_ w0 W b bs _ i 11 L N [] hok3 hi1 (by simp only [Tx.alive, decide_eq_true_eq]; show (e1.tx i).state ≤ 1; omega) (by simp) (Nat.le_refl _) (by omega) h
      have HF := hid hf; have HA := hid hask; have HG := hid hgo
      clear hs hO h1 h2 hc hok hi2 hx hk hv he1 hok1 hlen1 hs1 hw1 ht1 hi1 hst hQ hrk hask hf hca hok3 hgo
      go_enter Tryz.func11, Tryz.ntmps11
      go_wp2_with fail
      with_reducible refine HC.out.mono ?_
      rintro r w' ⟨rfl, rfl⟩
      go_wp2_with fail
      with_reducible refine HA.out.mono ?_
      rintro r w3 ⟨rfl, hs3⟩
      have H3 := hid (S.eng_shut (k := k) (e := { e1 with t := e.t }) (hs3.conv (by simp only [all]; ac_rfl)))
      clear hs3 HA HC
      rw [show errV 11 = .iface 56 (.int .i64 11) from rfl]
      go_wp2_with fail
      with_reducible refine (HG.out _ H3.out).mono ?_
      rintro r w4 ⟨rfl, hs4⟩
      have H4 := hid hs4
      clear hs4 H3 HG
      go_wp2_with fail
      go_ret2
      exact ⟨by rw [HF.out]; rfl, by rw [HF.out]; exact H4.out⟩
    · rw [hca] at hask hf
      simp only at hask hf
      rw [if_neg (by decide), if_neg (by decide)] at hf
      obtain ⟨e2, he2⟩ : ∃ e2 : Eng, ({ e1 with t := t' } : Eng) = e2 := ⟨_, rfl⟩
      rw [he2] at hf hok2
      have hi3 : i < e2.txs.length := by rw [← he2]; exact hi1
      have hs2 : (e2.tx i).state = 0 := by rw [← he2]; exact hs1
      have hw2 : (e2.tx i).want = (key, value) := by rw [← he2]; exact hw1
      have hput := hok2.to_put hi3 hs2 (w := (key, value)) hk hv
      have hwr := fun W h => writes_any e2.open_ (goes_any e2.open_) w0 W b bs e2 i key value L (N + 200) [] hput (Nat.le_refl _) (by omega) h
      rw [show putsG (goesN e2.open_) e2 i (key, value) = e2.puts i (key, value) from rfl] at hwr
      have hlen3 := puts_len e2 i (key, value)
      have hwhy := puts_why e2 i i (key, value) (fun h => by rw [hs2] at h; cases h)
      unfold WhyOk at hwhy
      have hst2 : ∀ W, S w0 W (tabP 3 b 11 t' :: storeP 84 b 0 e1.V e1.last :: engO b bs k e1 :: L) → S w0 W (engP b bs e2 :: L) := fun W h => by
        rw [← he2]
        exact S.eng_shut (k := k) (h.conv (by simp only [all]; ac_rfl))
      have hcl : ∀ W (e : Eng) M, i < e.txs.length → S w0 W (engP b bs e :: M) → W.cell? ⟨blkOf bs i, 7, none⟩ = some (.int .i64 (e.tx i).want.1) ∧ W.cell? ⟨blkOf bs i, 8, none⟩ = some (.int .i64 (e.tx i).want.2) ∧ W.cell? ⟨blkOf bs i, 1, none⟩ = some (.int .i64 (e.tx i).state) ∧ W.cell? ⟨blkOf bs i, 11, none⟩ = some (.int .i64 (e.tx i).why) := fun W e M hi h => by
        obtain ⟨k', g⟩ := h.eng_open
        have g2 : S w0 W (engO b bs k' e :: storeP 84 b 0 e.V e.last :: tabP 3 b 11 e.t :: M) := g.conv (by simp only [all]; ac_rfl)
        have g3 := (g2.eng_txc hi).2
        exact ⟨g3.want1, g3.want2, g3.state, g3.why⟩
      obtain ⟨e3, he3⟩ : ∃ e3, e2.puts i (key, value) = e3 := ⟨_, rfl⟩
      rw [he3] at hf hwr hlen3 hwhy
      have hi4 : i < e3.txs.length := by omega
      have hcl2 := fun W h => hcl W e2 L hi3 h
      rw [hw2] at hcl2
      have hcl3 := fun W h => hcl W e3 L hi4 h
      have HF := hid hf; have HA := hid hask; have HW := hid hwr; have HST := hid hst2; have HCL2 := hid hcl2; have HCL3 := hid hcl3; have HWHY := hid hwhy
      clear hs hO h1 h2 hc hok hi2 hx hk hv he1 hok1 hlen1 hs1 hw1 ht1 hi1 hst hQ hrk hask hf hca hok2 he2 hi3 hs2 hw2 hput hwr hlen3 hwhy hst2 hcl he3 hi4 hcl2 hcl3
      go_enter Tryz.func11, Tryz.ntmps11
      go_wp2_with fail
      with_reducible refine HC.out.mono ?_
      rintro r w' ⟨rfl, rfl⟩
      go_wp2_with fail
      with_reducible refine HA.out.mono ?_
      rintro r w3 ⟨rfl, hs3⟩
      have hs3 := HST.out _ hs3
      obtain ⟨d7, d8, _, _⟩ := HCL2.out _ hs3
      have H3 := hid hs3
      clear hs3 HA HC HST HCL2 c7 c8 f7 f8
      rw [show errV 0 = .nilIface from rfl]
      go_wp2_with fail
      with_reducible refine (HW.out _ H3.out).mono ?_
      rintro r w4 ⟨rfl, hs4⟩
      obtain ⟨_, _, d1, d11⟩ := HCL3.out _ hs4
      have H4 := hid hs4
      clear hs4 H3 HW HCL3
      by_cases hst3 : (e3.tx i).state = 3
      · have hff : e.write ((i : Int) + 1) key value = (e3, false, (e3.tx i).why) := by rw [HF.out, if_pos hst3]
        have hne := HWHY.out hst3
        have HFF := hid hff
        have HE := hid (errV_ne hne)
        rw [hst3] at d1
        clear hst3 hff hne HF
        go_wp2_with fail
        go_quiet (fail)
        go_wp2_with fail
        go_ret2
        exact ⟨by rw [HFF.out, HE.out]; rfl, by rw [HFF.out]; exact H4.out.drewN nq⟩
      · have hff : e.write ((i : Int) + 1) key value = (e3, true, 0) := by rw [HF.out, if_neg hst3]
        have hb3 : ((e3.tx i).state == 3) = false := by simpa using hst3
        have HFF := hid hff
        clear hst3 hff HF
        go_wp2_with fail
        go_ret2
        exact ⟨by rw [HFF.out]; rfl, by rw [HFF.out]; exact H4.out⟩
    · rw [hca] at hask hf
      simp only at hask hf
      rw [if_neg (by decide), if_pos trivial] at hf
      have hi3 : i < ({ e1 with t := t' } : Eng).txs.length := hi1
      have hst2 : ∀ W, S w0 W (tabP 3 b 11 t' :: storeP 84 b 0 e1.V e1.last :: engO b bs k e1 :: L) → W.cell? ⟨blkOf bs i, 1, none⟩ = some (.int .i64 (e1.tx i).state) ∧ W.frozen? ⟨blkOf bs i, 1, none⟩ = false ∧ S w0 (W.setCell ⟨blkOf bs i, 1, none⟩ (.int .i64 1)) (engP b bs (({ e1 with t := t' } : Eng).upd i fun x => { x with state := 1 }) :: L) := fun W h => by
        have g : S w0 W (engO b bs k ({ e1 with t := t' } : Eng) :: storeP 84 b 0 e1.V e1.last :: tabP 3 b 11 t' :: L) := S.conv h (by
          show all (tabP 3 b 11 t' :: storeP 84 b 0 e1.V e1.last :: engO b bs k e1 :: L) = all (engO b bs k e1 :: storeP 84 b 0 e1.V e1.last :: tabP 3 b 11 t' :: L)
          simp only [all]; ac_rfl)
        have g0 := (g.eng_txc hi3).2
        have g1 := g.eng_set (j := 1) (u := .int .i64 1) hi3 (fun x => { x with state := 1 }) (by decide) rfl rfl rfl rfl rfl
        refine ⟨g0.state, g0.free 1, S.eng_shut (k := k) (e := ({ e1 with t := t' } : Eng).upd i fun x => { x with state := 1 }) (S.conv g1 ?_)⟩
        show all (engO b bs k (({ e1 with t := t' } : Eng).upd i fun x => { x with state := 1 }) :: storeP 84 b 0 e1.V e1.last :: tabP 3 b 11 t' :: L) = all (storeP 84 b 0 e1.V e1.last :: tabP 3 b 11 t' :: engO b bs k (({ e1 with t := t' } : Eng).upd i fun x => { x with state := 1 }) :: L)
        simp only [all]; ac_rfl
      have HF := hid hf; have HA := hid hask; have HST := hid hst2
      clear hs hO h1 h2 hc hok hi2 hx hk hv he1 hok1 hlen1 hs1 hw1 ht1 hi1 hst hQ hrk hask hf hca hok2 hi3 hst2
      go_enter Tryz.func11, Tryz.ntmps11
      go_wp2_with fail
      with_reducible refine HC.out.mono ?_
      rintro r w' ⟨rfl, rfl⟩
      go_wp2_with fail
      with_reducible refine HA.out.mono ?_
      rintro r w3 ⟨rfl, hs3⟩
      obtain ⟨d1, f1, hs4⟩ := HST.out _ hs3
      have H3 := hid hs4
      clear hs3 hs4 HA HC HST c7 c8 f7 f8
      rw [show errV 0 = .nilIface from rfl]
      go_wp2_with fail
      go_ret2
      exact ⟨by rw [HF.out]; rfl, by rw [HF.out]; exact H3.out⟩
end Go.Proofs.YtaghjcdlghcjeaaGreatDoor
/- The library's slices.Sorted(maps.Keys(m)) at this translation: laid by the kit's tool. -/
namespace Go.Proofs
open Go.Shelf
def Tryz.keysA_ren : Go.Shelf.Ren := ⟨fun | 7 => 33 | 10 => 53 | n => n, fun | 23 => 36 | 26 => 3 | 3 => 3 | 28 => 96 | 0 => 0 | 27 => 95 | 33 => 104 | 4 => 4 | n => n, fun | n => n⟩
theorem Tryz.keysA : Go.Proofs.SlLaysZI.n7 Tryz.prog Tryz.keysA_ren := {
  mixed := by kernel_rfl
  f7 := ⟨Tryz.f33.name, by decide, Tryz.func33.trans (congrArg some (by kernel_rfl))⟩
  f10 := ⟨Tryz.f53.name, by decide, Tryz.func53.trans (congrArg some (by kernel_rfl))⟩
  t0 := Tryz.underlying0
  a0 := Tryz.isAgg0
  z0 := Tryz.sizeOf0
  v0 := Tryz.zeroValue0
  t4 := Tryz.underlying4
  a4 := Tryz.isAgg4
  z4 := Tryz.sizeOf4
  v4 := Tryz.zeroValue4
  t23 := Tryz.underlying36
  a23 := Tryz.isAgg36
  z23 := Tryz.sizeOf36
  v23 := Tryz.zeroValue36
  t26 := Tryz.underlying3
  a26 := Tryz.isAgg3
  z26 := Tryz.sizeOf3
  v26 := Tryz.zeroValue3
  t27 := Tryz.underlying95
  a27 := Tryz.isAgg95
  z27 := Tryz.sizeOf95
  v27 := Tryz.zeroValue95
  t28 := Tryz.underlying96
  a28 := Tryz.isAgg96
  z28 := Tryz.sizeOf96
  v28 := Tryz.zeroValue96
  t33 := Tryz.underlying104
  a33 := Tryz.isAgg104
  z33 := Tryz.sizeOf104
  v33 := Tryz.zeroValue104 }
def Tryz.sortedA_ren : Go.Shelf.Ren := ⟨fun | 6 => 32 | 8 => 51 | 9 => 52 | 11 => 68 | 13 => 70 | 12 => 69 | 23 => 100 | 24 => 101 | 14 => 91 | 15 => 92 | 16 => 93 | 17 => 94 | 18 => 95 | 19 => 96 | 20 => 97 | 21 => 98 | 22 => 99 | 25 => 118 | 26 => 119 | 27 => 120 | 28 => 121 | 29 => 122 | 30 => 123 | 31 => 137 | n => n, fun | 26 => 3 | 28 => 96 | 24 => 23 | 0 => 0 | 3 => 3 | 37 => 76 | 48 => 184 | 50 => 124 | 4 => 4 | 40 => 177 | 39 => 176 | 45 => 54 | 5 => 5 | 9 => 9 | 51 => 204 | 55 => 208 | 57 => 221 | 58 => 222 | 33 => 104 | n => n, fun | n => n⟩
theorem Tryz.sortedA : Go.Proofs.SlLaysZI.n6 Tryz.prog Tryz.sortedA_ren := {
  mixed := by kernel_rfl
  f6 := ⟨Tryz.f32.name, by decide, Tryz.func32.trans (congrArg some (by kernel_rfl))⟩
  f8 := ⟨Tryz.f51.name, by decide, Tryz.func51.trans (congrArg some (by kernel_rfl))⟩
  f11 := ⟨Tryz.f68.name, by decide, Tryz.func68.trans (congrArg some (by kernel_rfl))⟩
  t0 := Tryz.underlying0
  a0 := Tryz.isAgg0
  z0 := Tryz.sizeOf0
  v0 := Tryz.zeroValue0
  t24 := Tryz.underlying23
  a24 := Tryz.isAgg23
  z24 := Tryz.sizeOf23
  v24 := Tryz.zeroValue23
  t26 := Tryz.underlying3
  a26 := Tryz.isAgg3
  z26 := Tryz.sizeOf3
  v26 := Tryz.zeroValue3
  t28 := Tryz.underlying96
  a28 := Tryz.isAgg96
  z28 := Tryz.sizeOf96
  v28 := Tryz.zeroValue96
  i26 := by kernel_rfl }
def Tryz.sortA_ren : Go.Shelf.Ren := ⟨fun | 5 => 52 | 8 => 70 | 7 => 69 | 19 => 100 | 20 => 101 | 10 => 91 | 11 => 92 | 12 => 93 | 13 => 94 | 14 => 95 | 15 => 96 | 16 => 97 | 17 => 98 | 18 => 99 | 30 => 118 | 31 => 119 | 32 => 120 | 33 => 121 | 34 => 122 | 35 => 123 | 40 => 137 | n => n, fun | 23 => 23 | 25 => 3 | 3 => 3 | 32 => 76 | 22 => 23 | 0 => 0 | 44 => 184 | 46 => 124 | 4 => 4 | 36 => 177 | 35 => 176 | 41 => 54 | 5 => 5 | 9 => 9 | 53 => 204 | 57 => 208 | 63 => 221 | 64 => 222 | n => n, fun | n => n⟩
theorem Tryz.sortA : Go.Proofs.SlLaysM.n5 Tryz.prog Tryz.sortA_ren := {
  mixed := by kernel_rfl
  f5 := ⟨Tryz.f52.name, by decide, Tryz.func52.trans (congrArg some (by kernel_rfl))⟩
  f7 := ⟨Tryz.f69.name, by decide, Tryz.func69.trans (congrArg some (by kernel_rfl))⟩
  f8 := Tryz.func70.trans (congrArg some (by kernel_rfl))
  f10 := ⟨Tryz.f91.name, by decide, Tryz.func91.trans (congrArg some (by kernel_rfl))⟩
  f11 := ⟨Tryz.f92.name, by decide, Tryz.func92.trans (congrArg some (by kernel_rfl))⟩
  f12 := ⟨Tryz.f93.name, by decide, Tryz.func93.trans (congrArg some (by kernel_rfl))⟩
  f13 := ⟨Tryz.f94.name, by decide, Tryz.func94.trans (congrArg some (by kernel_rfl))⟩
  f14 := ⟨Tryz.f95.name, by decide, Tryz.func95.trans (congrArg some (by kernel_rfl))⟩
  f15 := ⟨Tryz.f96.name, by decide, Tryz.func96.trans (congrArg some (by kernel_rfl))⟩
  f16 := ⟨Tryz.f97.name, by decide, Tryz.func97.trans (congrArg some (by kernel_rfl))⟩
  f17 := ⟨Tryz.f98.name, by decide, Tryz.func98.trans (congrArg some (by kernel_rfl))⟩
  f18 := ⟨Tryz.f99.name, by decide, Tryz.func99.trans (congrArg some (by kernel_rfl))⟩
  f19 := Tryz.func100.trans (congrArg some (by kernel_rfl))
  f20 := Tryz.func101.trans (congrArg some (by kernel_rfl))
  f30 := ⟨Tryz.f118.name, by decide, Tryz.func118.trans (congrArg some (by kernel_rfl))⟩
  f31 := Tryz.func119.trans (congrArg some (by kernel_rfl))
  f32 := Tryz.func120.trans (congrArg some (by kernel_rfl))
  f33 := ⟨Tryz.f121.name, by decide, Tryz.func121.trans (congrArg some (by kernel_rfl))⟩
  f34 := ⟨Tryz.f122.name, by decide, Tryz.func122.trans (congrArg some (by kernel_rfl))⟩
  f35 := ⟨Tryz.f123.name, by decide, Tryz.func123.trans (congrArg some (by kernel_rfl))⟩
  f40 := ⟨Tryz.f137.name, by decide, Tryz.func137.trans (congrArg some (by kernel_rfl))⟩
  t0 := Tryz.underlying0
  a0 := Tryz.isAgg0
  z0 := Tryz.sizeOf0
  v0 := Tryz.zeroValue0
  t3 := Tryz.underlying3
  a3 := Tryz.isAgg3
  z3 := Tryz.sizeOf3
  v3 := Tryz.zeroValue3
  t4 := Tryz.underlying4
  a4 := Tryz.isAgg4
  z4 := Tryz.sizeOf4
  v4 := Tryz.zeroValue4
  t5 := Tryz.underlying5
  a5 := Tryz.isAgg5
  z5 := Tryz.sizeOf5
  v5 := Tryz.zeroValue5
  t9 := Tryz.underlying9
  a9 := Tryz.isAgg9
  z9 := Tryz.sizeOf9
  v9 := Tryz.zeroValue9
  t22 := Tryz.underlying23
  a22 := Tryz.isAgg23
  z22 := Tryz.sizeOf23
  v22 := Tryz.zeroValue23
  t23 := Tryz.underlying23
  a23 := Tryz.isAgg23
  z23 := Tryz.sizeOf23
  v23 := Tryz.zeroValue23
  t25 := Tryz.underlying3
  a25 := Tryz.isAgg3
  z25 := Tryz.sizeOf3
  v25 := Tryz.zeroValue3
  t32 := Tryz.underlying76
  a32 := Tryz.isAgg76
  z32 := Tryz.sizeOf76
  v32 := Tryz.zeroValue76
  t35 := Tryz.underlying176
  a35 := Tryz.isAgg176
  z35 := Tryz.sizeOf176
  v35 := Tryz.zeroValue176
  t36 := Tryz.underlying177
  a36 := Tryz.isAgg177
  z36 := Tryz.sizeOf177
  v36 := Tryz.zeroValue177
  t41 := Tryz.underlying54
  a41 := Tryz.isAgg54
  z41 := Tryz.sizeOf54
  v41 := Tryz.zeroValue54
  t44 := Tryz.underlying184
  a44 := Tryz.isAgg184
  z44 := Tryz.sizeOf184
  v44 := Tryz.zeroValue184
  t46 := Tryz.underlying124
  a46 := Tryz.isAgg124
  z46 := Tryz.sizeOf124
  v46 := Tryz.zeroValue124
  t53 := Tryz.underlying204
  a53 := Tryz.isAgg204
  z53 := Tryz.sizeOf204
  v53 := Tryz.zeroValue204
  t57 := Tryz.underlying208
  a57 := Tryz.isAgg208
  z57 := Tryz.sizeOf208
  v57 := Tryz.zeroValue208
  t63 := Tryz.underlying221
  a63 := Tryz.isAgg221
  z63 := Tryz.sizeOf221
  v63 := Tryz.zeroValue221
  t64 := Tryz.underlying222
  a64 := Tryz.isAgg222
  z64 := Tryz.sizeOf222
  v64 := Tryz.zeroValue222 }
end Go.Proofs
/- The keys of a map of whole numbers, sorted by the library: slices.Sorted(maps.Keys(m)). -/
namespace Go.Sep
open Go Go.RowKit
/-- A row that a call has made. -/
theorem S.row_in {w0 w w' : World} {L : List HProp} {e : TypeId} {size n : Nat} {v : Value} {xs : List Value} (h : S w0 w L) (hb : Below w.heap.size w w') (hr : w'.ownsRow w.heap.size e size v n xs) : S w0 w' (sl e size v n xs :: L) := by
  obtain ⟨hl, hr⟩ := hr
  rcases hr with ⟨rfl, rfl⟩ | ⟨g, cap, cur, rfl, hg, hh, hn, hc, hs, ht⟩
  · obtain rfl : xs = [] := List.eq_nil_of_length_eq_zero (by simpa using hl)
    exact (h.onto hb).sl_nil
  · have h1 : S w0 w' (blk g e cur.toList :: L) := by
      refine h.add hb ?_
      obtain ⟨gh, p, hgh⟩ := blk_hp g e cur.toList
      refine ⟨gh, p, fun b i t ht' => ?_⟩
      obtain ⟨rfl, ht'⟩ := hgh b i t ht'
      refine ⟨hg, ?_⟩
      unfold holds
      rw [hh]
      cases i with
      | none => simp at ht'; subst ht'; simp
      | some i => obtain ⟨v, hv, rfl⟩ := ht'; simp at hv ⊢; exact hv
    have hcl : cur.toList.length = cap * size := by simpa using hs
    refine .sl_intro (g := g) (cap := cap) (pre := []) (sp := cur.toList.drop (n * size)) (post := []) ⟨rfl, hl, ?_, hn, hc⟩ ?_
    · rw [← ht, List.length_take, List.length_drop, hcl]
      have : n * size ≤ cap * size := Nat.mul_le_mul_right _ hn
      omega
    · rw [← ht]
      simpa using h1
end Go.Sep
namespace Go.Proofs.YtaghjcdlghcjeaaGreatDoor
open Go Go.RowKit Go.Sep Go.Proofs

def anyV : Value → Option (DataW Unit × List MemPlace) := fun _ => some (.lit (.bool true), [])
theorem keyOf_int {x : Int} (hx : 0 ≤ x ∧ x ≤ 1000000) : keyOf Tryz.prog 3 (.int .i64 x) = some (.int .i64 x) := by
  have hm : IntKind.min .i64 = -9223372036854775808 := by decide
  have hM : IntKind.max .i64 = 9223372036854775807 := by decide
  have hw : (Lit.int .i64 x).wf = true := by
    simp only [Lit.wf, Bool.and_eq_true, decide_eq_true_eq]
    omega
  simp [keyOf, mapKey, Tryz.underlying3, hw]
theorem ownsMap_mp {w : World} {b : Nat} {D : List (Int × Int)} (h : Sep.MapAt Sep.encI (fun _ => True) w b (ienc D)) (hk : ∀ p ∈ D, 0 ≤ p.1 ∧ p.1 ≤ 1000000) (hl : D.length ≤ 1000000) :
    ∃ D0 : DataW Unit, w.ownsMap Tryz.prog 3 anyV b D.length D0 ∧ (intKeys D0).Perm (D.map (·.1)) ∧ Maps.size D0 = D.length := by
  obtain ⟨es, clock, hb, hm⟩ := h
  have hkey := keys_of hm
  have hsz : es.toList.length = D.length := by
    have := congrArg List.length hkey
    simpa [ienc] using this
  have hsz2 : es.size = D.length := by simpa using hsz
  have hrd : ∀ x ∈ es.toList, ∃ p ∈ D, x.key = .int .i64 p.1 := fun x hx => by
    have : x.key ∈ es.toList.map (·.key) := List.mem_map.2 ⟨x, hx, rfl⟩
    rw [hkey] at this
    obtain ⟨k, hk', e1⟩ := List.mem_map.1 this
    simp only [ienc, List.map_map, Function.comp_def] at hk'
    obtain ⟨p, hp, rfl⟩ := List.mem_map.1 hk'
    exact ⟨p, hp, e1.symm⟩
  have hrg : ∀ x ∈ es.toList, ∃ p ∈ D, x.key = .int .i64 p.1 ∧ WideElems.rd Tryz.prog 3 anyV x = some (.int .i64 p.1, .lit (.bool true)) := fun x hx => by
    obtain ⟨p, hp, e1⟩ := hrd x hx
    refine ⟨p, hp, e1, ?_⟩
    unfold WideElems.rd
    rw [e1, keyOf_int (hk p hp)]
    rfl
  refine ⟨.map ((es.toList.map (WideElems.rg Tryz.prog 3 anyV)).foldr DataW.insert []), ⟨es, clock, hb, ⟨?_, ⟨hm.2.2.1, hm.2.1, ?_⟩, fun x hx => ?_⟩, by omega, rfl⟩, ?_, ?_⟩
  · unfold maxLen; omega
  · rw [hkey]
    exact hm.2.2.2.1.map (f := Sep.encI) (fun a b hab => fun e => hab (by simpa [Sep.encI] using e))
  · obtain ⟨p, _, _, e1⟩ := hrg x hx
    exact ⟨_, e1⟩
  · have h1 : (intKeys (.map ((es.toList.map (WideElems.rg Tryz.prog 3 anyV)).foldr DataW.insert [])) : List Int) = ((es.toList.map (WideElems.rg Tryz.prog 3 anyV)).foldr DataW.insert []).map fun p => Go.intOf p.1 := rfl
    rw [h1]
    refine ((WideShapes.sorted_perm _).map _).trans ?_
    rw [List.map_map]
    have h2 : es.toList.map ((fun p : Lit × DataW Unit => Go.intOf p.1) ∘ WideElems.rg Tryz.prog 3 anyV) = D.map (·.1) := by
      have h3 : es.toList.map ((fun p : Lit × DataW Unit => Go.intOf p.1) ∘ WideElems.rg Tryz.prog 3 anyV) = (es.toList.map (·.key)).map fun v => match v with | .int _ n => n | _ => 0 := by
        rw [List.map_map]
        apply List.map_congr_left
        intro x hx
        obtain ⟨p, _, e1, e2⟩ := hrg x hx
        simp only [Function.comp_apply]
        rw [WideElems.rg_of e2, e1]
        rfl
      rw [h3, hkey]
      simp [ienc, List.map_map, Function.comp_def, Sep.encI]
    rw [h2]
  · show ((es.toList.map (WideElems.rg Tryz.prog 3 anyV)).foldr DataW.insert []).length = _
    rw [(WideShapes.sorted_perm _).length_eq]
    simpa using hsz

theorem sortsA (m : Nat) : AnyZI.SortsIn Tryz.prog Tryz.sortedA_ren Fence.wide m :=
  ⟨fun blk off cap ss W hH hblk hsz => callsIn_wide.2 (AnyM.slices_Sort_int Tryz.sortA blk off cap ss W hH hblk hsz),
   fun p cap W => callsIn_wide.2 (AnyM.slices_Sort_int_none Tryz.sortA p cap W)⟩
theorem keys_any (mb : Nat) (w : World) : Calls Tryz.prog 33 #[.map (some mb)] w fun e w' => e = .returned (.func (.func 53) #[] #[.pointer (some ⟨w.heap.size, 0, none⟩)]) ∧ w' = w.alloc (.cells #[.map (some mb)] 36) :=
  (callsIn_wide (n := 6)).1 (AnyZI.keys_in Tryz.keysA Fence.wide 6 trivial rfl (some mb) w)
theorem sorted_any (w0 w : World) (B mb : Nat) (D : List (Int × Int)) (L : List HProp) (hs : S w0 w L) (hc : w.cell? ⟨B, 0, none⟩ = some (.map (some mb))) (hB : B < w.heap.size) (hm : Sep.MapAt Sep.encI (fun _ => True) w mb (ienc D))
    (hk : ∀ p ∈ D, 0 ≤ p.1 ∧ p.1 ≤ 1000000) (hl : D.length ≤ 1000000) :
    Calls Tryz.prog 32 #[.func (.func 53) #[] #[.pointer (some ⟨B, 0, none⟩)]] w fun e w' => ∃ v, e = .returned v ∧ S w0 w' (sl 3 1 v D.length (icells (sortI (D.map (·.1)))) :: L) := by
  obtain ⟨D0, hown, hperm, hsz⟩ := ownsMap_mp hm hk hl
  refine (callsIn_wide (n := 6)).1 ?_
  have hseq : SeqGives Fence.wide 3 Tryz.prog 53 #[.pointer (some ⟨B, 0, none⟩)] encZ (fun ss => ss.Perm (intKeys D0)) (Maps.size D0) w :=
    AnyZI.keys_gives (ρ := Tryz.keysA_ren) { Tryz.keysA with } Fence.wide 3 trivial rfl (by omega) B mb D.length D0 w hB hc hown
  have cS := AnyZI.sorted_in Tryz.sortedA Fence.wide 6 trivial trivial trivial trivial rfl (by omega) (sortsA _) (enters_of Tryz.func52 (by kernel_rfl) rfl) 53 #[.pointer (some ⟨B, 0, none⟩)] trivial (enters_of Tryz.func53 (by kernel_rfl) rfl) _ _ (by rw [hsz]; unfold maxLen; omega) (by rw [hsz]; omega) w hseq
  change CallsIn _ _ Tryz.prog 32 _ _ _ at cS
  refine cS.mono fun e w' ⟨v, ss, he, hS, hrow, _, hb⟩ => ⟨v, he, ?_⟩
  have hlen : ss.length = D.length := by rw [hS.length_eq, hperm.length_eq]; simp
  have hsort : ss.mergeSort (fun x y => decide (x ≤ y)) = sortI (D.map (·.1)) := sortI_of ((List.mergeSort_perm _ _).trans (hS.trans hperm)) (by
    have := List.pairwise_mergeSort (le := fun x y : Int => decide (x ≤ y)) (fun a b c h1 h2 => by simp only [decide_eq_true_eq] at *; omega) (fun a b => by simp only [Bool.or_eq_true, decide_eq_true_eq]; omega) ss
    exact this.imp fun h => by simpa using h)
  rw [hsort, hlen] at hrow
  exact hs.row_in hb hrow
end Go.Proofs.YtaghjcdlghcjeaaGreatDoor
/- The program's engine: Writes. -/
namespace Go.Proofs.YtaghjcdlghcjeaaGreatDoor
open Go Go.RowKit Go.Sep

theorem own_few {e : Eng} {N : Nat} {U : List Task} {i : Nat} (h : OkT N e U) (hi : i < e.txs.length) : (e.tx i).writes.length ≤ 10 := by
  have h1 := h.at hi
  have := Sep.few (S := [0, 1, 2, 3, 4, 5, 6, 7, 8, 9]) h1.keys (fun k hk => by
    obtain ⟨p, hp, rfl⟩ := List.mem_map.1 hk
    have := (h1.own p hp).1
    unfold keyOk at this
    simp; omega)
  simpa using this
theorem written_len (x : Tx) : x.written.length = x.writes.length := by simp [Tx.written, sortI_len]
set_option maxRecDepth 40000 in
set_option maxHeartbeats 4000000 in
theorem ewrites_any (w0 w : World) (b : Nat) (bs : List Nat) (e : Eng) (n : Int) (L : List HProp) (N : Nat) (U : List Task) (hok : OkT N e U) (hs : S w0 w (engP b bs e :: L)) :
    Calls Tryz.prog 12 #[.pointer (some ⟨b, 0, none⟩), .int .i64 n] w fun r w' => ∃ v, r = .returned (.tuple #[v, errV (e.writes n).2]) ∧ S w0 w' (sl 51 2 v (e.writes n).1.length (pcells (e.writes n).1) :: engP b bs e :: L) := by
  have HS := hid hs
  obtain ⟨k, hs⟩ := hs.eng_open
  have hO : S w0 w (engO b bs k e :: storeP 84 b 0 e.V e.last :: tabP 3 b 11 e.t :: L) := hs.conv (by simp only [all]; ac_rfl)
  rcases e.err_cases n false with ⟨h1, h2⟩ | ⟨i, rfl, hi, ⟨h1, h2, h3⟩ | ⟨h1, h2⟩⟩
  · have hf : e.writes n = ([], 7) := by unfold Eng.writes; rw [if_pos (by rw [h1]; decide), h1]
    have HF := hid hf; have HC := hid (of_miss w0 w b bs k e n false _ hO h2)
    clear hs hO h1 h2 hf hok
    go_enter Tryz.func12, Tryz.ntmps12
    go_wp2_with fail
    with_reducible refine HC.out.mono ?_
    rintro r w' ⟨rfl, rfl⟩
    go_wp2_with fail
    go_ret2
    refine ⟨.slice none 0 0, by rw [HF.out]; rfl, ?_⟩
    rw [HF.out]
    exact HS.out.sl_nil
  · cases h2
  · have hi2 : ((i : Int) + 1).toNat - 1 = i := by omega
    have hf : e.writes ((i : Int) + 1) = ((e.tx i).written, 0) := by unfold Eng.writes; rw [if_neg (by rw [h1]; decide), hi2]
    have hc := of_ok w0 w b bs k e i false _ hO hi h2
    unfold ptr at hc
    have hq : ∀ W M, S w0 W (engO b bs k e :: M) → W.cell? ⟨blkOf bs i, 6, none⟩ = some (.map (some (k.v i).mb)) ∧ Sep.MapAt Sep.encI (fun _ => True) W (k.v i).mb (ienc (e.tx i).writes) := fun W M h => ⟨(h.eng_txc hi).2.writes, (h.eng_txc hi).2.map⟩
    have hfew := own_few hok hi
    have hkeys : ∀ p ∈ (e.tx i).writes, 0 ≤ p.1 ∧ p.1 ≤ 1000000 := fun p hp => by
      have := ((hok.at hi).own p hp).1
      unfold keyOk at this; omega
    have c6 := (hq _ _ hO).1
    have hO2 := hO.alloc #[.map (some (k.v i).mb)] 36
    have hso := sorted_any w0 _ w.heap.size (k.v i).mb (e.tx i).writes _ hO2 (hO2.blk_cell 0 rfl) (by simp) ((hq _ _ hO2.tail).2) hkeys (by omega)
    obtain ⟨D, hD⟩ : ∃ D, (e.tx i).writes = D := ⟨_, rfl⟩
    obtain ⟨ks, hks⟩ : ∃ ks, sortI (D.map (·.1)) = ks := ⟨_, rfl⟩
    have hkl : ks.length = D.length := by rw [← hks, sortI_len]; simp
    have hwr : (e.tx i).written = ks.map fun k => (k, (mget D k).getD 0) := by unfold Tx.written; rw [hD, hks]
    rw [hD, hks] at hso
    rw [hD] at hfew
    have hq2 : ∀ W M, S w0 W (engO b bs k e :: M) → W.cell? ⟨blkOf bs i, 6, none⟩ = some (.map (some (k.v i).mb)) ∧ ∀ kk, (Instr.lookup 36 (.map (some (k.v i).mb)) (.int .i64 kk) false).run Tryz.prog W = .ok (.int .i64 ((mget D kk).getD 0)) W := fun W M h => by
      obtain ⟨g1, g2⟩ := hq W M h
      rw [hD] at g2
      exact ⟨g1, fun kk => Tryz.look1 g2 kk⟩
    have HF := hid hf; have HC := hid hc; have HQ := hid hq2; have HSO := hid hso; have HWR := hid hwr; have HKL := hid hkl
    clear hs hO h1 h2 hf hc hok hi2 hq hkeys hO2 hso hwr hq2 hks hD
    go_enter Tryz.func12, Tryz.ntmps12
    go_wp2_with fail
    with_reducible refine HC.out.mono ?_
    rintro r w' ⟨rfl, rfl⟩
    go_wp2_with fail
    with_reducible refine (keys_any _ _).mono ?_
    rintro r w' ⟨rfl, rfl⟩
    go_wp2_with fail
    with_reducible refine HSO.out.mono ?_
    rintro r w2 ⟨u, rfl, hs2⟩
    have hs3 : S w0 w2 (sl 3 1 u ks.length (icells ks) :: engO b bs k e :: storeP 84 b 0 e.V e.last :: tabP 3 b 11 e.t :: L) := by
      rw [HKL.out]
      exact (hs2.conv (M := blk w.heap.size 36 [.map (some (k.v i).mb)] :: sl 3 1 u D.length (icells ks) :: engO b bs k e :: storeP 84 b 0 e.V e.last :: tabP 3 b 11 e.t :: L) (by simp only [all]; ac_rfl)).tail
    obtain ⟨au, cu, rfl, hcu, hcu2, _⟩ := hs3.sl_val
    have hkn : ks.length ≤ 10 := by rw [HKL.out]; exact hfew
    have H3 := hid (S.sl_nil (e := 51) (size := 2) hs3)
    clear hs2 hs3 HC HSO HKL hfew hcu2
    go_wp2_with fail
    clear c6
    go_loopw [8, 27] (fun ov c wr => ∃ j : Nat, j ≤ ks.length ∧ c = .int .i64 j ∧ S w0 wr (sl 51 2 ov j (pcells ((ks.take j).map fun k => (k, (mget D k).getD 0))) :: sl 3 1 (.slice au ks.length cu) ks.length (icells ks) :: engO b bs k e :: storeP 84 b 0 e.V e.last :: tabP 3 b 11 e.t :: L)) (fun _ c _ => ks.length - (intOf c).toNat)
    case atStart => exact ⟨0, Nat.zero_le _, rfl, H3.out⟩
    case round =>
      rename World => wr
      obtain ⟨j, hj, rfl, hsr⟩ := hrel
      clear H3
      by_cases hlt : j < ks.length
      · have hp : ks[j]? = some ks[j] := by simp [hlt]
        generalize ks[j] = kk at hp
        obtain ⟨g, og, rfl, _, d0⟩ := hsr.swap.sl_int hp
        obtain ⟨ao, co, rfl, hco, hco2, _⟩ := hsr.sl_val
        unfold maxLen at hco2
        obtain ⟨c6, l6⟩ := HQ.out _ _ hsr.rot3
        replace l6 := l6 kk
        have hst : (ks.take (j + 1)).map (fun k => (k, (mget D k).getD 0)) = (ks.take j).map (fun k => (k, (mget D k).getD 0)) ++ [(kk, (mget D kk).getD 0)] := by rw [take_succ_get hp, List.map_append]; rfl
        have hpl : (pcells ((ks.take j).map fun k => (k, (mget D k).getD 0))).length = j * 2 := hsr.sl_len
        generalize (ks.take j).map (fun k => (k, (mget D k).getD 0)) = O at *
        generalize (mget D kk).getD 0 = vv at *
        obtain ⟨i0, hi0, hz0, hz1, hz2⟩ := info_parts Tryz.info51
        have hs5 := hsr.alloc #[.int .i64 kk, .int .i64 vv] 51
        have hn5 := news_blk hs5
        have H5 := hid hs5.tail; have HN := hid hn5; have HST := hid hst; have HPL := hid hpl
        clear hsr hs5 hn5 hst hp hpl
        go_wp2_with (at_builtin; refine wpList_append rfl (.tmp 31) (.tmp 40) 46 rfl 51 i0 _ 2 16 Tryz.underlying46 hi0 hz0 hz1 hz2 rfl (by decide) H5.out rfl (some ⟨wr.heap.size, 0, none⟩) 1 1 [.int .i64 kk, .int .i64 vv] rfl rfl HN.out (by simp [Value.oneCell']) (by unfold maxLen; omega) (by omega) ?_; intro v1 w5 hs6; have H6 := hid hs6; clear hs6)
        go_roundw
        case rel => exact ⟨j + 1, by omega, by go_num, by rw [HST.out, pcells_append]; exact H6.out⟩
        case measure => simp [intOf]; omega
      · obtain rfl : j = ks.length := by omega
        rw [List.take_length] at hsr
        have H4 := hid hsr
        clear hsr
        go_wp2_with fail
        go_ret2
        refine ⟨_, by rw [HF.out]; rfl, ?_⟩
        rw [HF.out, HWR.out, List.length_map]
        have h6 := H4.out.conv (M := sl 3 1 (.slice au ks.length cu) ks.length (icells ks) :: storeP 84 b 0 e.V e.last :: tabP 3 b 11 e.t :: engO b bs k e :: sl 51 2 _ ks.length (pcells (ks.map fun k => (k, (mget D k).getD 0))) :: L) (by simp only [all]; ac_rfl)
        exact (S.eng_shut h6.tail).swap
end Go.Proofs.YtaghjcdlghcjeaaGreatDoor
namespace Go.Proofs.YtaghjcdlghcjeaaGreatDoor
open Go Go.RowKit Go.Sep

variable {e : Eng} {i j : Nat} {N M : Nat} {U : List Task}
theorem put1_row {n : Nat} {at_ : Int} {V : List Vers} (p : Int × Int) (h : ∀ vs ∈ V, vs.length ≤ n ∨ (vs.length ≤ n + 1 ∧ vs.getLast?.map (·.1) = some at_)) :
    ∀ vs ∈ put1 at_ V p, vs.length ≤ n ∨ (vs.length ≤ n + 1 ∧ vs.getLast?.map (·.1) = some at_) := by
  intro vs hvs
  unfold put1 at hvs
  rcases List.mem_or_eq_of_mem_set hvs with h1 | rfl
  · exact h vs h1
  · have hv : (((V[p.1.toNat]?).getD []).length ≤ n ∨ (((V[p.1.toNat]?).getD []).length ≤ n + 1 ∧ ((V[p.1.toNat]?).getD []).getLast?.map (·.1) = some at_)) := by
      cases hg : V[p.1.toNat]? with
      | none => left; simp
      | some x => exact h x (List.mem_of_getElem? hg)
    generalize (V[p.1.toNat]?).getD [] = x at hv
    split
    · rename_i hl
      have hne : x ≠ [] := by rintro rfl; simp at hl
      have := List.length_pos_iff.2 hne
      right
      refine ⟨?_, by simp⟩
      rw [List.length_append, List.length_dropLast, List.length_singleton]
      omega
    · rename_i hl
      right
      refine ⟨?_, by simp⟩
      rw [List.length_append, List.length_singleton]
      rcases hv with hv | hv
      · omega
      · exact absurd hv.2 hl
theorem putAll_row {n : Nat} {at_ : Int} (l : Vers) : ∀ {V : List Vers}, (∀ vs ∈ V, vs.length ≤ n ∨ (vs.length ≤ n + 1 ∧ vs.getLast?.map (·.1) = some at_)) → ∀ vs ∈ putAll at_ V l, vs.length ≤ n ∨ (vs.length ≤ n + 1 ∧ vs.getLast?.map (·.1) = some at_) := by
  induction l with
  | nil => intro V h; simpa [putAll] using h
  | cons p l ih => intro V h vs hvs; exact ih (put1_row p h) vs hvs

/-- One that is gone is one that is committed, and something is installed. -/
theorem OkT.restyle (h : OkT N e U) (hi : i < e.txs.length) (hs : (e.tx i).state = 3) (c : Int) {V' : List Vers} {last' : Int} {wr' : List (Int × Int)} {hist' : List Op1} (hV : V'.length = 10) (hrows : ∀ vs ∈ V', (vs.length : Int) ≤ e.count + 1) (hlast : 0 ≤ last' ∧ last' ≤ 1099511627776)
    (hwr : ∀ k v, mget wr' k = some v → mget e.wr k = some v ∨ v = (i : Int) + 1) (hwrl : (wr'.length : Int) ≤ e.count) (hhist : (hist'.length : Int) ≤ e.count * ((N : Int) + 10)) :
    OkT N (({ e with V := V', last := last', wr := wr', hist := hist' } : Eng).upd i fun x => { x with state := 2, why := c }) U := by
  obtain ⟨Q, hQ⟩ := h.tab
  generalize he1 : ({ e with V := V', last := last', wr := wr', hist := hist' } : Eng) = e1
  have htxe : ∀ j, e1.tx j = e.tx j := fun j => by rw [← he1]; rfl
  have hl1 : e1.txs.length = e.txs.length := by rw [← he1]
  have hlen : (e1.upd i fun x => { x with state := 2, why := c }).txs.length = e.txs.length := by rw [Eng.upd_len, hl1]
  have hi1 : i < e1.txs.length := by omega
  have hne : ∀ j, j ≠ i → (e1.upd i fun x => { x with state := 2, why := c }).tx j = e.tx j := fun j hj => by rw [Eng.upd_ne (Ne.symm hj), htxe]
  have hself : (e1.upd i fun x => { x with state := 2, why := c }).tx i = { e.tx i with state := 2, why := c } := by rw [Eng.upd_self hi1, htxe]
  have hm1 := Eng.many_upd hi1 Tx.alive (fun x => { x with state := 2, why := c })
  have hm2 := Eng.many_upd hi1 Tx.waits (fun x => { x with state := 2, why := c })
  rw [if_neg (by rw [htxe]; simp [Tx.alive, hs]), if_neg (by simp [Tx.alive])] at hm1
  rw [if_neg (by rw [htxe]; simp [Tx.waits, hs]), if_neg (by simp [Tx.waits])] at hm2
  have hop : (e1.upd i fun x => { x with state := 2, why := c }).open_ = e.open_ := by
    have : e1.many Tx.alive = e.open_ := by rw [← he1]; rfl
    unfold Eng.many at hm1 this; unfold Eng.open_ at *; omega
  have hwt : (e1.upd i fun x => { x with state := 2, why := c }).many Tx.waits = e.many Tx.waits := by
    have : e1.many Tx.waits = e.many Tx.waits := by rw [← he1]; rfl
    omega
  have hQi : ∀ k, ∀ x ∈ Q k, x.toNat - 1 ≠ i := fun k x hx he => by
    have := hQ.alive k x hx
    rw [he] at this
    simp [Tx.alive, hs] at this
  have hcn : (e1.upd i fun x => { x with state := 2, why := c }).count = e.count := by rw [← he1]; rfl
  refine ⟨by rw [hlen]; exact h.few, by rw [← he1]; exact hV, ?_, fun k v hk => ?_, ⟨Q, ?_, hQ.rk, ?_, fun k x hx => by rw [hlen]; exact hQ.key k x hx, fun k x hx => by rw [hne _ (hQi k x hx)]; exact hQ.alive k x hx, fun k x hx => by rw [hne _ (hQi k x (List.mem_of_mem_tail hx))]; exact hQ.waits k x hx⟩, fun j hj hs' => ?_, by rw [hop]; exact h.six, by rw [hop, hlen, hcn]; exact h.cnt, fun vs hv => ?_, ?_, by rw [← he1]; exact hlast, ?_, ?_, ?_, fun t ht => ?_, h.apart⟩
  · rw [hlen]
    refine Eng.upd_all (by rw [← he1]; exact h.txs) fun _ => ?_
    have := h.at hi
    rw [htxe]
    exact ⟨by simp, this.refs, this.want, this.own, this.keys⟩
  · have hk' : mget wr' k = some v := by rw [← he1] at hk; exact hk
    rw [hlen]
    rcases hwr k v hk' with g | rfl
    · obtain ⟨g1, g2, g3⟩ := h.wr k v g
      rw [hne]
      · exact ⟨g1, g2, g3⟩
      · intro e2; rw [e2, hs] at g3; omega
    · rw [show ((i : Int) + 1).toNat - 1 = i by omega, hself]
      exact ⟨by omega, by omega, rfl⟩
  · rw [← he1]; exact hQ.tab
  · rw [← he1]; exact hQ.hold
  · rw [hlen] at hj
    have hji : j ≠ i := by rintro rfl; rw [hself] at hs'; cases hs'
    rw [hne j hji] at hs'
    rcases h.all j hj hs' with g | g
    · left; rw [← he1]; exact g
    · exact .inr g
  · rw [hcn]; rw [← he1] at hv; exact hrows vs hv
  · rw [hcn, ← he1]; exact hwrl
  · rw [hcn, ← he1]; exact hhist
  · refine Eng.upd_all (p := fun x => x.reads.length ≤ N) (by rw [← he1]; exact h.reads) fun _ => ?_
    rw [htxe]; exact h.reads (e.tx i) (Eng.tx_mem hi)
  · rw [hwt]
    refine Eng.upd_all (p := fun x => x.fore.length + 200 * e.many Tx.waits + slacks U ≤ N ∧ x.aft.length + 200 * e.many Tx.waits + slacks U ≤ N) (by rw [← he1]; exact h.fits) fun _ => ?_
    rw [htxe]; exact h.fits (e.tx i) (Eng.tx_mem hi)
  · have ht' := h.ok t ht
    have hti : t.who ≠ i := by
      intro he
      cases t with
      | hand w => have := (ht'.hand w rfl).2.1; rw [he, hs] at this; omega
      | put i' w => have := (ht'.put i' w rfl).1; have e2 : i' = i := he; rw [e2, hs] at this; omega
      | ask i' key l => have := (ht'.ask i' key l rfl).1; have e2 : i' = i := he; rw [e2, hs] at this; omega
    refine ⟨by rw [hlen]; exact ht'.lt, fun w hw => ?_, fun i' w hw => ?_, fun i' key l hw => ?_⟩
    · rw [hne _ hti]
      have := ht'.hand w hw
      rw [← he1]; exact this
    · subst hw
      rw [hne i' hti]
      have := ht'.put i' w rfl
      rw [← he1]; exact this
    · subst hw
      rw [hne i' hti, hlen]
      have := ht'.ask i' key l rfl
      rw [← he1]; exact this
/-- What a commit makes of an engine, ahead of what others get. -/
def Eng.told (e : Eng) (i : Nat) : Eng := ({ e with hist := e.hist ++ toldL ((i : Int) + 1) (e.tx i) } : Eng).installed ((i : Int) + 1) (e.tx i).written
def Eng.over2 (e : Eng) (i : Nat) : Eng := { (e.told i).upd i (fun x => { x with state := 2, ended := e.count + 1 }) with count := e.count + 1 }
theorem told_txs (e : Eng) (i : Nat) : (e.told i).txs = e.txs ∧ (e.told i).t = e.t ∧ (e.told i).count = e.count := by
  unfold Eng.told Eng.installed
  split
  · exact ⟨rfl, rfl, rfl⟩
  · split <;> exact ⟨rfl, rfl, rfl⟩
theorem over2_lets (e : Eng) (i : Nat) : (e.over2 i).lets i = ({ e.left i 0 with V := (e.told i).V, last := (e.told i).last, wr := (e.told i).wr, hist := (e.told i).hist } : Eng).upd i fun x => { x with state := 2, why := (e.tx i).why } := by
  obtain ⟨h1, h2, h3⟩ := told_txs e i
  unfold Eng.over2 Eng.lets Eng.left Eng.mark Eng.upd
  rw [h1, h2]
  simp only [Eng.mk.injEq, and_true, true_and]
  refine ⟨rfl, ?_, rfl⟩
  apply List.ext_getElem?
  intro j
  simp only [List.getElem?_modify, Eng.lets]
  by_cases h : i = j
  · subst h
    cases hx : e.txs[i]? with
    | none => simp
    | some x => simp [Eng.tx, hx]
  · simp [h]
theorem over2_heirs (e : Eng) (i : Nat) : (e.over2 i).heirs i = e.heirs i := by
  unfold Eng.heirs Eng.over2
  show (tbDrop (e.told i).t _).2 = _
  rw [(told_txs e i).2.1]
theorem OkT.over2 (h : OkT N e []) (hi : i < e.txs.length) (ha : (e.tx i).alive = true) : OkT N ((e.over2 i).lets i) (((e.over2 i).heirs i).map .hand) ∧ (e.over2 i).open_ + 1 = e.open_ := by
  obtain ⟨h1, h2⟩ := h.left hi ha (by simp) 0
  rw [List.append_nil] at h1
  have hst : ((e.left i 0).tx i).state = 3 := by show ((e.mark i 0).tx i).state = 3; rw [Eng.mark_tx, if_pos ⟨rfl, hi⟩]
  have hlen : (e.left i 0).txs.length = e.txs.length := Eng.mark_len e i 0
  have hw := written_len (e.tx i)
  have hfew := own_few h hi
  have hrd := h.reads _ (Eng.tx_mem hi)
  have hcount : (e.left i 0).count = e.count + 1 := rfl
  have hold : ∀ vs ∈ e.V, (vs.length : Int) ≤ e.count + 1 := h.rows
  have hlast := h.last
  have hrowsN : ∀ vs ∈ e.V, vs.length ≤ (e.count + 1).toNat ∨ (vs.length ≤ (e.count + 1).toNat + 1 ∧ vs.getLast?.map (·.1) = some (e.last + 1)) := fun vs hv => by
    left; have := hold vs hv; omega
  have hcnt := h.cnt
  have htl : ((e.hist ++ toldL ((i : Int) + 1) (e.tx i)).length : Int) ≤ (e.count + 1) * ((N : Int) + 10) := by
    have := h.hist
    rw [List.length_append]
    have e1 : (toldL ((i : Int) + 1) (e.tx i)).length ≤ N + 10 := by unfold toldL; rw [List.length_append, List.length_map, List.length_map]; omega
    rw [Int.add_mul]
    omega
  refine ⟨?_, ?_⟩
  · rw [over2_heirs, over2_lets]
    refine h1.restyle (by omega) hst _ ?_ (fun vs hv => ?_) ?_ (fun k v hk => ?_) ?_ ?_
    · unfold Eng.told Eng.installed
      split
      · exact h.v10
      · split
        · show (putAll _ e.V _).length = 10
          rw [putAll_length]; exact h.v10
        · exact h.v10
    · rw [hcount]
      unfold Eng.told Eng.installed at hv
      split at hv
      · have := hold vs hv; omega
      · split at hv
        · have hv' : vs ∈ putAll (e.last + 1) e.V (e.tx i).written := hv
          have := putAll_row _ hrowsN vs hv'
          omega
        · have := hold vs hv; omega
    · unfold Eng.told Eng.installed
      split
      · exact hlast
      · split
        · rename_i hok
          unfold instOk' at hok
          simp only [Bool.and_eq_true, decide_eq_true_eq] at hok
          show 0 ≤ e.last + 1 ∧ e.last + 1 ≤ 1099511627776
          have := hok.1.2
          exact ⟨by omega, this⟩
        · exact hlast
    · show mget e.wr k = some v ∨ v = (i : Int) + 1
      unfold Eng.told Eng.installed at hk
      split at hk
      · exact .inl hk
      · have hk' : mget (mput e.wr (e.last + 1) ((i : Int) + 1)) k = some v := by split at hk <;> exact hk
        rw [mget_put] at hk'
        split at hk'
        · exact .inr (Option.some.inj hk').symm
        · exact .inl hk'
    · rw [hcount]
      have h5 := h.wrs
      have h6 := length_put_le e.wr (e.last + 1) ((i : Int) + 1)
      unfold Eng.told Eng.installed
      split
      · show (e.wr.length : Int) ≤ _; omega
      · have : ((mput e.wr (e.last + 1) ((i : Int) + 1)).length : Int) ≤ e.count + 1 := by omega
        split <;> exact this
    · rw [hcount]
      have : (e.told i).hist = e.hist ++ toldL ((i : Int) + 1) (e.tx i) := by
        unfold Eng.told Eng.installed
        split
        · rfl
        · split <;> rfl
      rw [this]; exact htl
  · have h3 : ((e.over2 i).lets i).open_ = (e.left i 0).open_ := by
      rw [over2_lets]
      have hm := Eng.many_upd (e := ({ e.left i 0 with V := (e.told i).V, last := (e.told i).last, wr := (e.told i).wr, hist := (e.told i).hist } : Eng)) (i := i) (by show i < (e.left i 0).txs.length; omega) Tx.alive (fun x => { x with state := 2, why := (e.tx i).why })
      have ht : (({ e.left i 0 with V := (e.told i).V, last := (e.told i).last, wr := (e.told i).wr, hist := (e.told i).hist } : Eng).tx i).state = 3 := hst
      rw [if_neg (by simp [Tx.alive, ht]), if_neg (by simp [Tx.alive])] at hm
      exact hm
    have h4 : ((e.over2 i).lets i).open_ = (e.over2 i).open_ := rfl
    omega
theorem commit_eq (e : Eng) (i : Nat) (h : e.ready ((i : Int) + 1) = 0) : e.commit ((i : Int) + 1) = ((e.over2 i).frees i, 0) := by
  have hi2 : ((i : Int) + 1).toNat - 1 = i := by omega
  unfold Eng.commit
  rw [if_neg (by rw [h]; decide)]
  simp only [hi2]
  rfl
theorem frees_kept (h : OkT N e []) (hi : i < e.txs.length) (ha : (e.tx i).alive = true) : OkT N ((e.over2 i).frees i) [] := by
  obtain ⟨h1, h2⟩ := h.over2 hi ha
  have := (freesL_ok (goesOk (e.over2 i).open_) ((e.over2 i).heirs i) N ((e.over2 i).lets i) [] (by rw [List.append_nil]; exact h1) (Nat.le_refl _)).1
  exact this
theorem ready_at {n : Int} (h : e.ready n = 0) : ∃ i : Nat, n = (i : Int) + 1 ∧ i < e.txs.length ∧ (e.tx i).state = 0 := by
  unfold Eng.ready at h
  split at h
  · rename_i hx; exact absurd h hx
  · rename_i hx
    obtain ⟨i, rfl, hi, hst⟩ := err_num (Decidable.not_not.1 hx)
    exact ⟨i, rfl, hi, hst rfl⟩
theorem ready_13 {n : Int} (h : e.ready n = 13) : ∃ i : Nat, n = (i : Int) + 1 ∧ i < e.txs.length ∧ (e.tx i).state = 0 := by
  unfold Eng.ready at h
  split at h
  · rcases e.err_cases n true with ⟨h1, _⟩ | ⟨j, hj, hlt, ⟨h1, _⟩ | ⟨h1, h2⟩⟩ <;> omega
  · rename_i hx
    obtain ⟨i, rfl, hi, hst⟩ := err_num (Decidable.not_not.1 hx)
    exact ⟨i, rfl, hi, hst rfl⟩
theorem OkT.committed (h : OkT N e []) (n : Int) : OkT N (e.commit n).1 [] := by
  by_cases h0 : e.ready n = 0
  · obtain ⟨i, rfl, hi, hs⟩ := ready_at h0
    rw [commit_eq e i h0]
    exact frees_kept h hi (by simp [Tx.alive, hs])
  · unfold Eng.commit
    rw [if_pos h0]
    simp only
    split
    · rename_i h13
      obtain ⟨i, rfl, hi, hs⟩ := ready_13 h13
      rw [show ((i : Int) + 1).toNat - 1 = i by omega]
      exact goes_kept h hi (by simp [Tx.alive, hs]) 13
    · exact h
theorem OkT.aborted (h : OkT N e []) (n : Int) : OkT N (e.abort n).1 [] := by
  unfold Eng.abort
  split
  · exact h
  · rename_i hx
    obtain ⟨i, rfl, hi, _⟩ := err_num (Decidable.not_not.1 hx)
    rw [show ((i : Int) + 1).toNat - 1 = i by omega]
    split
    · exact h
    · rename_i hs
      exact goes_kept h hi (by simp only [Tx.alive, decide_eq_true_eq]; omega) 0
theorem swept_le (at_ : Int) (vs : Vers) : (swept at_ vs).length ≤ vs.length := by unfold swept; rw [List.length_drop]; omega
theorem OkT.swept (h : OkT N e []) : OkT N e.sweep.1 [] :=
  ⟨h.few, by show (e.V.map _).length = 10; rw [List.length_map]; exact h.v10, h.txs, h.wr, h.tab.imp fun Q hQ => ⟨hQ.tab, hQ.rk, hQ.hold, hQ.key, hQ.alive, hQ.waits⟩, h.all, h.six, h.cnt, fun vs hv => by
    obtain ⟨vs', hv', rfl⟩ := List.mem_map.1 hv
    have := h.rows vs' hv'
    have := swept_le e.floor vs'
    show _ ≤ e.count + 1
    omega, h.wrs, h.last, h.hist, h.reads, h.fits, by simp, by simp⟩
end Go.Proofs.YtaghjcdlghcjeaaGreatDoor
