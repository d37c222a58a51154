/- Transactions at the same time: what one wrote, or waits to write, through all that is asked of an engine; how old each one is. No walk in sight. -/
import Derived.Test.YtaghjcdlghcjeaaGreatDoorZ9
/- Transactions at the same time: how to show what holds through all that one step of an engine brings with it; what stays. No walk in sight. -/
namespace Go.Proofs.YtaghjcdlghcjeaaGreatDoor
open Go Go.RowKit Go.Sep

section
variable {e e' e0 : Eng} {i j : Nat} {N : Nat} {T U : List Task}
/-- What holds at each step of a run. -/
structure Rule (P : Eng → List Task → Prop) : Prop where
  hand : ∀ (N : Nat) (e : Eng) (w : Int × Int) (T : List Task), OkT N e (.hand w :: T) → P e (.hand w :: T) → P (e.opens (w.2.toNat - 1)) (.put (w.2.toNat - 1) (e.tx (w.2.toNat - 1)).want :: T)
  late : ∀ (N : Nat) (e : Eng) (i : Nat) (w : Int × Int) (T : List Task), OkT N e (.put i w :: T) → e.late i w.1 → P e (.put i w :: T) → P (e.left i 10) ((e.heirs i).map .hand ++ T)
  put : ∀ (N : Nat) (e : Eng) (i : Nat) (w : Int × Int) (T : List Task), OkT N e (.put i w :: T) → ¬ e.late i w.1 → (e.tx i).level ≠ 2 → P e (.put i w :: T) → P (e.wput i w) T
  puts : ∀ (N : Nat) (e : Eng) (i : Nat) (w : Int × Int) (T : List Task), OkT N e (.put i w :: T) → ¬ e.late i w.1 → (e.tx i).level = 2 → P e (.put i w :: T) → P (e.wput i w) (.ask i w.1 (List.range e.txs.length) :: T)
  asked : ∀ (N : Nat) (e : Eng) (i : Nat) (key : Int) (T : List Task), OkT N e (.ask i key [] :: T) → P e (.ask i key [] :: T) → P e T
  skip : ∀ (N : Nat) (e : Eng) (i j : Nat) (key : Int) (l : List Nat) (T : List Task), OkT N e (.ask i key (j :: l) :: T) → skips e i key j = true → P e (.ask i key (j :: l) :: T) → P e (.ask i key l :: T)
  note : ∀ (N : Nat) (e : Eng) (i j : Nat) (key : Int) (l : List Nat) (T : List Task), OkT N e (.ask i key (j :: l) :: T) → skips e i key j = false → (e.note j i).bad j i = false → P e (.ask i key (j :: l) :: T) → P (e.note j i) (.ask i key l :: T)
  wrong : ∀ (N : Nat) (e : Eng) (i j : Nat) (key : Int) (l : List Nat) (T : List Task), OkT N e (.ask i key (j :: l) :: T) → skips e i key j = false → (e.note j i).bad j i = true → P e (.ask i key (j :: l) :: T) → P ((e.note j i).left i 13) (((e.note j i).heirs i).map .hand ++ T)
theorem OkT.put_lt {w : Int × Int} (h : OkT N e (.put i w :: T)) : i < e.txs.length ∧ (e.tx i).alive = true := by
  have hk := h.ok _ (List.mem_cons_self ..)
  exact ⟨hk.lt, by simp [Tx.alive, (hk.put _ _ rfl).1]⟩
theorem OkT.ask_lt {key : Int} {l : List Nat} (h : OkT N e (.ask i key l :: T)) : i < e.txs.length ∧ (e.tx i).alive = true := by
  have hk := h.ok _ (List.mem_cons_self ..)
  exact ⟨hk.lt, by simp [Tx.alive, (hk.ask _ _ _ rfl).1]⟩
theorem OkT.hand_lt {w : Int × Int} (h : OkT N e (.hand w :: T)) : w.2.toNat - 1 < e.txs.length ∧ (e.tx (w.2.toNat - 1)).alive = true ∧ (e.tx (w.2.toNat - 1)).state = 1 ∧ ((w.2.toNat - 1 : Nat) : Int) + 1 = w.2 := by
  have hk := h.ok _ (List.mem_cons_self ..)
  have h2 := hk.hand _ rfl
  have h3 : (e.tx (w.2.toNat - 1)).state = 1 := h2.2.1
  exact ⟨hk.lt, by simp [Tx.alive, h3], h3, by have := h2.1; omega⟩
theorem Rule.run {P : Eng → List Task → Prop} (hP : Rule P) (hr : Runs e T e') : ∀ N, OkT N e T → P e T → P e' [] := by
  induction hr with
  | done e => exact fun N h p => p
  | hand _ ih => exact fun N h p => ih N h.hand (hP.hand N _ _ _ h p)
  | late hl _ ih => exact fun N h p => ih N (OkT.left (h.tail (by simp)) h.put_lt.1 h.put_lt.2 h.who_ne 10).1 (hP.late N _ _ _ _ h hl p)
  | put hl h2 _ ih => exact fun N h p => ih N h.wput.1 (hP.put N _ _ _ _ h hl h2 p)
  | puts hl h2 _ ih => exact fun N h p => ih N (h.wput.2 h2) (hP.puts N _ _ _ _ h hl h2 p)
  | asked _ ih => exact fun N h p => ih N (h.tail (by simp)) (hP.asked N _ _ _ _ h p)
  | skip hs _ ih => exact fun N h p => ih N h.skipped (hP.skip N _ _ _ _ _ _ h hs p)
  | note hs hb _ ih => exact fun N h p => ih N h.noted (hP.note N _ _ _ _ _ _ h hs hb p)
  | wrong hs hb _ ih =>
    intro N h p
    have hn := h.noted
    exact ih N (OkT.left (hn.tail (by simp)) hn.ask_lt.1 hn.ask_lt.2 hn.who_ne 13).1 (hP.wrong N _ _ _ _ _ _ h hs hb p)
theorem goes_run (h : OkT N e []) (hi : i < e.txs.length) (ha : (e.tx i).alive = true) (why : Int) : Runs (e.left i why) ((e.heirs i).map .hand) (e.goes i why) := by
  have := (goesOk e.open_ N e i why [] h hi ha (by simp) (Nat.le_refl _)).2.2 _ (.done _)
  rw [List.append_nil] at this
  exact this
theorem Rule.goes {P : Eng → List Task → Prop} (hP : Rule P) (h : OkT N e []) (hi : i < e.txs.length) (ha : (e.tx i).alive = true) (why : Int) (hp : P (e.left i why) ((e.heirs i).map .hand)) : P (e.goes i why) [] := by
  have h1 := (h.left hi ha (by simp) why).1
  rw [List.append_nil] at h1
  exact hP.run (goes_run h hi ha why) N h1 hp
theorem Rule.putsE {P : Eng → List Task → Prop} (hP : Rule P) {w : Int × Int} (h : OkT N e [.put i w]) (hp : P e [.put i w]) : P (e.puts i w) [] :=
  hP.run ((putsG_ok (goesOk e.open_) h (Nat.le_refl _)).2.2 _ (.done _)) N h hp
theorem Rule.frees {P : Eng → List Task → Prop} (hP : Rule P) (h : OkT N e []) (hi : i < e.txs.length) (ha : (e.tx i).alive = true) (hp : P ((e.over2 i).lets i) (((e.over2 i).heirs i).map .hand)) : P ((e.over2 i).frees i) [] := by
  obtain ⟨h1, _⟩ := h.over2 hi ha
  have h2 := (freesL_ok (goesOk (e.over2 i).open_) ((e.over2 i).heirs i) N ((e.over2 i).lets i) [] (by rw [List.append_nil]; exact h1) (Nat.le_refl _)).2.2 _ (.done _)
  rw [List.append_nil] at h2
  exact hP.run h2 N h1 hp
theorem sawNew_keep {P : Eng → Prop} (hn : ∀ e a b, P e → P (e.note a b)) : ∀ (l : List Int) (e : Eng), P e → P (sawNew i l e).1
  | [], e, h => h
  | a :: l, e, h => by
    unfold sawNew
    dsimp only
    split
    · split
      · exact hn _ _ _ h
      · exact sawNew_keep hn l _ (hn _ _ _ h)
    · exact sawNew_keep hn l e h
theorem sawOpen_keep {P : Eng → Prop} (hn : ∀ e a b, P e → P (e.note a b)) {key : Int} : ∀ (l : List Nat) (e : Eng), P e → P (sawOpen i key l e)
  | [], e, h => h
  | a :: l, e, h => by
    unfold sawOpen
    split
    · exact sawOpen_keep hn l _ (hn _ _ _ h)
    · exact sawOpen_keep hn l e h
theorem sees_keep {P : Eng → Prop} (hn : ∀ e a b, P e → P (e.note a b)) {key : Int} (h : P e) : P (e.sees i key).1 := by
  unfold Eng.sees
  dsimp only
  split
  · exact sawOpen_keep hn _ _ (sawNew_keep hn _ _ h)
  · exact sawNew_keep hn _ _ h

/-! ### What stays when one is gone, or writes -/
structure Stays (e e' : Eng) : Prop where
  V : e'.V = e.V
  last : e'.last = e.last
  wr : e'.wr = e.wr
  hist : e'.hist = e.hist
  len : e'.txs.length = e.txs.length
  fix : ∀ j, (e'.tx j).level = (e.tx j).level ∧ (e'.tx j).start = (e.tx j).start ∧ (e'.tx j).begun = (e.tx j).begun ∧ (e'.tx j).reads = (e.tx j).reads
  over : ∀ j, (e.tx j).alive = false → (e'.tx j).state = (e.tx j).state ∧ (e'.tx j).ended = (e.tx j).ended ∧ (e'.tx j).writes = (e.tx j).writes
  live : ∀ j, (e.tx j).alive = true → (e'.tx j).alive = true ∨ ((e'.tx j).state = 3 ∧ e.count < (e'.tx j).ended)
  count : e.count ≤ e'.count
theorem Stays.refl (e : Eng) : Stays e e := ⟨rfl, rfl, rfl, rfl, rfl, fun _ => ⟨rfl, rfl, rfl, rfl⟩, fun _ _ => ⟨rfl, rfl, rfl⟩, fun _ h => .inl h, Int.le_refl _⟩
theorem alive_of_state {x y : Tx} (h : x.state = y.state) : x.alive = y.alive := by unfold Tx.alive; rw [h]
theorem Stays.upd (h : Stays e0 e) (ha : (e.tx i).alive = true) (f : Tx → Tx) (hf : ∀ x, (f x).level = x.level ∧ (f x).start = x.start ∧ (f x).begun = x.begun ∧ (f x).reads = x.reads)
    (hl : (f (e.tx i)).alive = true ∨ ((f (e.tx i)).state = 3 ∧ e.count < (f (e.tx i)).ended)) : Stays e0 (e.upd i f) := by
  refine ⟨h.V, h.last, h.wr, h.hist, by rw [Eng.upd_len]; exact h.len, fun j => ?_, fun j hj => ?_, fun j hj => ?_, h.count⟩
  · rw [Eng.upd_keep (·.level) f (fun x => (hf x).1), Eng.upd_keep (·.start) f (fun x => (hf x).2.1), Eng.upd_keep (·.begun) f (fun x => (hf x).2.2.1), Eng.upd_keep (·.reads) f (fun x => (hf x).2.2.2)]
    exact h.fix j
  · have hji : i ≠ j := by
      intro e1; subst e1
      rw [alive_of_state (h.over i hj).1, hj] at ha
      cases ha
    rw [Eng.upd_ne hji]; exact h.over j hj
  · rw [Eng.upd_tx]
    split
    · rename_i hc
      obtain ⟨rfl, _⟩ := hc
      rcases hl with hl | hl
      · exact .inl hl
      · exact .inr ⟨hl.1, by have := h.count; omega⟩
    · exact h.live j hj
theorem Stays.note (h : Stays e0 e) (a b : Nat) : Stays e0 (e.note a b) := by
  have hk : ∀ {β : Type} (g : Tx → β) (_ : ∀ x l, g { x with aft := l } = g x) (_ : ∀ x l, g { x with fore := l } = g x) (j : Nat), g ((e.note a b).tx j) = g (e.tx j) := fun g h1 h2 j => Eng.note_keep g h1 h2 a b j
  refine ⟨h.V, h.last, h.wr, h.hist, by rw [Eng.note_len]; exact h.len, fun j => ?_, fun j hj => ?_, fun j hj => ?_, h.count⟩
  · rw [hk (·.level) (fun _ _ => rfl) (fun _ _ => rfl), hk (·.start) (fun _ _ => rfl) (fun _ _ => rfl), hk (·.begun) (fun _ _ => rfl) (fun _ _ => rfl), hk (·.reads) (fun _ _ => rfl) (fun _ _ => rfl)]
    exact h.fix j
  · rw [hk (·.state) (fun _ _ => rfl) (fun _ _ => rfl), hk (·.ended) (fun _ _ => rfl) (fun _ _ => rfl), hk (·.writes) (fun _ _ => rfl) (fun _ _ => rfl)]
    exact h.over j hj
  · rw [hk (·.alive) (fun _ _ => rfl) (fun _ _ => rfl), hk (·.state) (fun _ _ => rfl) (fun _ _ => rfl), hk (·.ended) (fun _ _ => rfl) (fun _ _ => rfl)]
    exact h.live j hj
theorem Stays.left (h : Stays e0 e) (ha : (e.tx i).alive = true) (why : Int) : Stays e0 (e.left i why) := by
  have h1 := h.upd ha (fun x => { x with state := 3, why := why, ended := e.count + 1 }) (fun _ => ⟨rfl, rfl, rfl, rfl⟩) (.inr ⟨rfl, by show e.count < e.count + 1; omega⟩)
  exact ⟨h1.V, h1.last, h1.wr, h1.hist, h1.len, h1.fix, h1.over, h1.live, by have := h.count; show e0.count ≤ e.count + 1; omega⟩
theorem Stays.opens (h : Stays e0 e) (ha : (e.tx i).alive = true) : Stays e0 (e.opens i) := h.upd ha _ (fun _ => ⟨rfl, rfl, rfl, rfl⟩) (.inl (by simp [Tx.alive]))
theorem Stays.wput (h : Stays e0 e) (ha : (e.tx i).alive = true) (w : Int × Int) : Stays e0 (e.wput i w) := h.upd ha _ (fun _ => ⟨rfl, rfl, rfl, rfl⟩) (.inl (by simpa [Tx.alive] using ha))
theorem same_rule (e0 : Eng) : Rule fun e _ => Stays e0 e where
  hand _ _ _ _ h p := p.opens h.hand_lt.2.1
  late _ _ _ _ _ h _ p := p.left h.put_lt.2 10
  put _ _ _ _ _ h _ _ p := p.wput h.put_lt.2 _
  puts _ _ _ _ _ h _ _ p := p.wput h.put_lt.2 _
  asked _ _ _ _ _ _ p := p
  skip _ _ _ _ _ _ _ _ _ p := p
  note _ _ _ _ _ _ _ _ _ _ p := p.note _ _
  wrong _ _ _ _ _ _ _ h _ _ p := (p.note _ _).left h.noted.ask_lt.2 13
theorem same_goes (h : OkT N e []) (hi : i < e.txs.length) (ha : (e.tx i).alive = true) (why : Int) : Stays e (e.goes i why) := (same_rule e).goes h hi ha why ((Stays.refl e).left ha why)

/-! ### What Read, and Write, do, case by case -/
def Eng.noted (e : Eng) (i : Nat) (key : Int) : Eng := e.upd i fun x => { x with reads := x.reads ++ [(key, (mget e.wr (((readV (e.row key) (e.asOf i)).map (·.1)).getD 0)).getD 0)] }
inductive ReadCase (e : Eng) (n key : Int) : Eng × Int × Int → Prop
  | err (x : Int) (h0 : x ≠ 0) (h8 : x ≠ 8) : ReadCase e n key (e, 0, x)
  | own (i : Nat) (v : Int) (hn : n = (i : Int) + 1) (hi : i < e.txs.length) (hs : (e.tx i).state = 0) (hv : mget (e.tx i).writes key = some v) : ReadCase e n key (e, v, 0)
  | plain (i : Nat) (hn : n = (i : Int) + 1) (hi : i < e.txs.length) (hs : (e.tx i).state = 0) (hv : mget (e.tx i).writes key = none) (hk : keyOk key) (hl : (e.tx i).level ≠ 2) :
      ReadCase e n key (e.noted i key, ((readV (e.row key) (e.asOf i)).map (·.2)).getD 0, if (readV (e.row key) (e.asOf i)).isSome then 0 else 8)
  | seen (i : Nat) (hn : n = (i : Int) + 1) (hi : i < e.txs.length) (hs : (e.tx i).state = 0) (hv : mget (e.tx i).writes key = none) (hk : keyOk key) (hl : (e.tx i).level = 2) (hr : ((e.noted i key).sees i key).2 = true) :
      ReadCase e n key (((e.noted i key).sees i key).1, ((readV (e.row key) (e.asOf i)).map (·.2)).getD 0, if (readV (e.row key) (e.asOf i)).isSome then 0 else 8)
  | gone (i : Nat) (hn : n = (i : Int) + 1) (hi : i < e.txs.length) (hs : (e.tx i).state = 0) (hv : mget (e.tx i).writes key = none) (hk : keyOk key) (hl : (e.tx i).level = 2) (hr : ((e.noted i key).sees i key).2 = false) :
      ReadCase e n key (((e.noted i key).sees i key).1.goes i 13, 0, 13)
theorem err_ne8 (e : Eng) (n : Int) (op : Bool) : e.err n op ≠ 8 := by
  unfold Eng.err
  split
  · decide
  · split <;> decide
theorem read_case (e : Eng) (n key : Int) : ReadCase e n key (e.read n key) := by
  unfold Eng.read
  by_cases he : e.err n true ≠ 0
  · rw [if_pos he]; exact .err _ he (err_ne8 e n true)
  · rw [if_neg he]
    obtain ⟨i, rfl, hi, hst⟩ := err_num (Decidable.not_not.1 he)
    have hi2 : ((i : Int) + 1).toNat - 1 = i := by omega
    have hst := hst rfl
    simp only [hi2]
    split
    · rename_i v hv; exact .own i v rfl hi hst hv
    · rename_i hv
      by_cases hk : keyOk key
      · rw [if_neg (by simpa using hk)]
        by_cases hl : (e.tx i).level = 2
        · rw [if_pos hl]
          by_cases hr : ((e.noted i key).sees i key).2 = true
          · have := ReadCase.seen (n := (i : Int) + 1) i rfl hi hst hv hk hl hr
            unfold Eng.noted at this hr
            rw [if_pos hr]; exact this
          · have hr' : ((e.noted i key).sees i key).2 = false := by simpa using hr
            have := ReadCase.gone (n := (i : Int) + 1) i rfl hi hst hv hk hl hr'
            unfold Eng.noted at this hr
            rw [if_neg hr]; exact this
        · rw [if_neg hl]; exact .plain i rfl hi hst hv hk hl
      · rw [if_pos hk]; exact .err 2 (by decide) (by decide)
def Eng.wanting (e : Eng) (i : Nat) (w : Int × Int) : Eng := e.upd i fun x => { x with want := w }
def Eng.table (e : Eng) (t : Tbl) : Eng := { e with t := t }
def waitT (t : Tbl) (n key : Int) : Tbl := { t with wait := mput t.wait n key, line := mput t.line key (lineAt t key ++ [n]) }
inductive WriteCase (e : Eng) (n key value : Int) : Eng × Bool × Int → Prop
  | err (x : Int) (h0 : x ≠ 0) : WriteCase e n key value (e, false, x)
  | cycle (i : Nat) (hn : n = (i : Int) + 1) (hi : i < e.txs.length) (hs : (e.tx i).state = 0) (hk : keyOk key) (hv : valOk value) : WriteCase e n key value (((e.wanting i (key, value)).table e.t).goes i 11, false, 11)
  | waits (i : Nat) (a : Int) (hn : n = (i : Int) + 1) (hi : i < e.txs.length) (hs : (e.tx i).state = 0) (hk : keyOk key) (hv : valOk value) (hh : mget e.t.hold key = some a) (ha : a ≠ (i : Int) + 1) :
      WriteCase e n key value (((e.wanting i (key, value)).table (waitT e.t ((i : Int) + 1) key)).upd i (fun x => { x with state := 1 }), false, 0)
  | puts (i : Nat) (t' : Tbl) (hn : n = (i : Int) + 1) (hi : i < e.txs.length) (hs : (e.tx i).state = 0) (hk : keyOk key) (hv : valOk value) (ht : t' = { e.t with hold := mput e.t.hold key ((i : Int) + 1) } ∧ mget e.t.hold key = none ∨ t' = e.t ∧ mget e.t.hold key = some ((i : Int) + 1))
      (r : Bool × Int) (hr : if (((((e.wanting i (key, value)).table t').puts i (key, value))).tx i).state = 3 then r.1 = false ∧ r.2 = (((((e.wanting i (key, value)).table t').puts i (key, value))).tx i).why else r = (true, 0)) :
      WriteCase e n key value (((e.wanting i (key, value)).table t').puts i (key, value), r)
theorem write_case (h : OkT N e []) (n key value : Int) : WriteCase e n key value (e.write n key value) := by
  unfold Eng.write
  by_cases he : e.err n true ≠ 0
  · rw [if_pos he]; exact .err _ he
  · rw [if_neg he]
    obtain ⟨i, rfl, hi, hst⟩ := err_num (Decidable.not_not.1 he)
    have hi2 : ((i : Int) + 1).toNat - 1 = i := by omega
    have hst := hst rfl
    by_cases hk : keyOk key
    · rw [if_neg (by simpa using hk)]
      by_cases hv : valOk value
      · rw [if_neg (by simpa using hv)]
        simp only [hi2]
        have hw := h.wait_none (i := i) (by omega)
        have h0 : ¬ (key < 0 ∨ 10 ≤ key ∨ (i : Int) + 1 < 1) := by have := hk.1; have := hk.2; omega
        have hfin : ∀ t' : Tbl, (t' = { e.t with hold := mput e.t.hold key ((i : Int) + 1) } ∧ mget e.t.hold key = none ∨ t' = e.t ∧ mget e.t.hold key = some ((i : Int) + 1)) →
            WriteCase e ((i : Int) + 1) key value (if (((((e.wanting i (key, value)).table t').puts i (key, value))).tx i).state = 3 then ((((e.wanting i (key, value)).table t').puts i (key, value)), false, (((((e.wanting i (key, value)).table t').puts i (key, value))).tx i).why) else ((((e.wanting i (key, value)).table t').puts i (key, value)), true, 0)) := fun t' ht => by
          split
          · rename_i hs3; exact .puts i t' rfl hi hst hk hv ht (false, _) (by rw [if_pos hs3]; exact ⟨rfl, rfl⟩)
          · rename_i hs3; exact .puts i t' rfl hi hst hk hv ht (true, 0) (by rw [if_neg hs3])
        unfold tbAsk
        rw [if_neg h0, hw]
        simp only [Option.isSome_none, Bool.false_eq_true, if_false]
        cases hh : mget e.t.hold key with
        | none =>
          simp only [ne_eq, not_true_eq_false, if_false, Bool.true_eq_false]
          exact hfin _ (.inl ⟨rfl, hh⟩)
        | some a =>
          simp only
          by_cases ha : a = (i : Int) + 1
          · rw [if_pos ha]
            simp only [ne_eq, not_true_eq_false, if_false, Bool.true_eq_false]
            exact hfin _ (.inr ⟨rfl, by rw [hh, ha]⟩)
          · rw [if_neg ha]
            by_cases hc : comesRound e.t ((i : Int) + 1) key = true
            · rw [if_pos hc]
              rw [if_pos (show (11 : Int) ≠ 0 by decide)]
              exact .cycle i rfl hi hst hk hv
            · rw [if_neg hc]
              simp only [ne_eq, not_true_eq_false, if_false, if_true]
              exact .waits i a rfl hi hst hk hv hh ha
      · rw [if_pos hv]; exact .err 1 (by decide)
    · rw [if_pos hk]; exact .err 2 (by decide)
end
end Go.Proofs.YtaghjcdlghcjeaaGreatDoor
/- Transactions at the same time: versions, what a commit installs, what a sweep leaves; what is as it was later on. No walk in sight. -/
namespace Go.Proofs.YtaghjcdlghcjeaaGreatDoor
open Go Go.RowKit Go.Sep

theorem mget_none_iff {D : List (Int × Int)} {k : Int} : mget D k = none ↔ k ∉ D.map (·.1) := by
  induction D with
  | nil => simp [mget_nil]
  | cons d D ih =>
    rw [mget_cons, List.map_cons, List.mem_cons]
    by_cases h : d.1 = k
    · simp [h]
    · rw [if_neg h, ih]
      have h' : ¬ k = d.1 := fun e => h e.symm
      simp [h']
theorem mem_written {x : Tx} {p : Int × Int} : p ∈ x.written ↔ mget x.writes p.1 = some p.2 := by
  unfold Tx.written
  rw [List.mem_map]
  constructor
  · rintro ⟨k, hk, rfl⟩
    rw [sortI_mem] at hk
    cases hg : mget x.writes k with
    | none => exact absurd hk (mget_none_iff.1 hg)
    | some v => rfl
  · intro h
    exact ⟨p.1, by rw [sortI_mem]; exact List.mem_map.2 ⟨_, mget_some h, rfl⟩, by rw [h]; rfl⟩
theorem written_nodup {x : Tx} (h : (x.writes.map (·.1)).Nodup) : (x.written.map (·.1)).Nodup := by
  have : x.written.map (·.1) = sortI (x.writes.map (·.1)) := by unfold Tx.written; rw [List.map_map]; simp [Function.comp_def]
  rw [this]
  exact ((sortI_perm _).nodup_iff).2 h
theorem mget_written {x : Tx} (h : (x.writes.map (·.1)).Nodup) (K : Int) : mget x.written K = mget x.writes K := by
  cases hg : mget x.writes K with
  | some v => exact mget_mem (written_nodup h) (mem_written.2 hg)
  | none =>
    cases hw : mget x.written K with
    | none => rfl
    | some v => rw [mem_written.1 (mget_some hw)] at hg; cases hg
theorem badAt_ok : ∀ {l : Vers} {m : Nat}, (∀ p ∈ l, keyOk p.1 ∧ valOk p.2) → badAt m l = none
  | [], _, _ => rfl
  | p :: l, m, h => by
    unfold badAt
    have h1 := h p (List.mem_cons_self ..)
    rw [if_neg (by simpa using h1.1), if_neg (by simpa using h1.2)]
    exact badAt_ok fun q hq => h q (List.mem_cons_of_mem _ hq)
def rowOf (V : List Vers) (K : Int) : Vers := (V[K.toNat]?).getD []
theorem row_put1 {at_ : Int} {V : List Vers} {q : Int × Int} (hV : V.length = 10) (hq : keyOk q.1) (hlt : ∀ p ∈ rowOf V q.1, p.1 < at_) {K : Int} (hK : keyOk K) :
    rowOf (put1 at_ V q) K = if K = q.1 then rowOf V K ++ [(at_, q.2)] else rowOf V K := by
  have hne : ¬ (((V[q.1.toNat]?).getD []).getLast?.map (·.1)) = some at_ := by
    intro h
    cases hl : ((V[q.1.toNat]?).getD []).getLast? with
    | none => rw [hl] at h; cases h
    | some p =>
      rw [hl] at h
      have h1 := hlt p (List.mem_of_getLast? hl)
      have : p.1 = at_ := by simpa using h
      omega
  unfold put1 rowOf
  simp only [if_neg hne]
  obtain ⟨a1, a2⟩ := hq
  obtain ⟨b1, b2⟩ := hK
  rw [List.getElem?_set]
  by_cases h : K = q.1
  · subst h
    rw [if_pos rfl, if_pos (by omega), if_pos rfl]
    rfl
  · rw [if_neg (by omega), if_neg h]
theorem row_putAll {at_ : Int} : ∀ (l : Vers) (V : List Vers), V.length = 10 → (∀ p ∈ l, keyOk p.1) → (l.map (·.1)).Nodup → (∀ q ∈ l, ∀ p ∈ rowOf V q.1, p.1 < at_) → ∀ K, keyOk K →
    rowOf (putAll at_ V l) K = rowOf V K ++ (match mget l K with | some v => [(at_, v)] | none => [])
  | [], V, _, _, _, _, K, _ => by simp [putAll, mget_nil]
  | q :: l, V, hV, hk, hn, hlt, K, hK => by
    rw [List.map_cons, List.nodup_cons] at hn
    have hq := hk q (List.mem_cons_self ..)
    have hr := fun {K'} (h' : keyOk K') => row_put1 hV hq (hlt q (List.mem_cons_self ..)) h'
    have hV' : (put1 at_ V q).length = 10 := by unfold put1; rw [List.length_set]; exact hV
    have hne : ∀ p ∈ l, p.1 ≠ q.1 := fun p hp e1 => hn.1 (by rw [← e1]; exact List.mem_map_of_mem hp)
    have ih := row_putAll l (put1 at_ V q) hV' (fun p hp => hk p (List.mem_cons_of_mem _ hp)) hn.2 (fun p hp r hr2 => by
      rw [hr (hk p (List.mem_cons_of_mem _ hp)), if_neg (hne p hp)] at hr2
      exact hlt p (List.mem_cons_of_mem _ hp) r hr2) K hK
    show rowOf (putAll at_ (put1 at_ V q) l) K = _
    rw [ih, hr hK, mget_cons]
    by_cases h : K = q.1
    · rw [if_pos h, if_pos h.symm]
      have : mget l K = none := by rw [mget_none_iff, h]; exact hn.1
      rw [this]
      simp
    · rw [if_neg h, if_neg (fun x => h x.symm)]
theorem newerL_append (a b : Vers) (s : Int) : newerL (a ++ b) s = newerL a s ++ newerL b s := by unfold newerL; rw [List.filter_append, List.map_append]
theorem readV_snoc (a : Vers) (at_ v s : Int) : readV (a ++ [(at_, v)]) s = if at_ ≤ s then some (at_, v) else readV a s := by
  unfold readV
  rw [List.reverse_append, List.reverse_singleton, List.singleton_append, List.find?_cons]
  by_cases h : at_ ≤ s <;> simp [h]
section
variable {e e' e0 : Eng} {i j : Nat} {N : Nat} {T U : List Task}
theorem Eng.row_of (e : Eng) (K : Int) : e.row K = rowOf e.V K := rfl
/-- The versions are in order, none later than now. -/
def RowsOk (e : Eng) : Prop := ∀ vs ∈ e.V, vs.Pairwise (fun p q => p.1 ≤ q.1) ∧ ∀ p ∈ vs, p.1 ≤ e.last
theorem RowsOk.row (h : RowsOk e) (K : Int) : (e.row K).Pairwise (fun p q => p.1 ≤ q.1) ∧ ∀ p ∈ e.row K, p.1 ≤ e.last := by
  unfold Eng.row
  cases hv : e.V[K.toNat]? with
  | none => simp
  | some vs => exact h vs (List.mem_of_getElem? hv)
theorem told_is (h : OkT N e U) (hi : i < e.txs.length) (hl : e.last ≤ e.count) :
    (e.told i).V = putAll (e.last + 1) e.V (e.tx i).written ∧ (e.told i).last = (if (e.tx i).written = [] then e.last else e.last + 1) ∧ (e.told i).wr = (if (e.tx i).written = [] then e.wr else mput e.wr (e.last + 1) ((i : Int) + 1)) ∧ (e.told i).hist = e.hist ++ toldL ((i : Int) + 1) (e.tx i) := by
  have hx := h.at hi
  have hc := h.cnt
  have hf := h.few
  have hok : instOk' e.last (e.last + 1) (e.tx i).written = true := by
    unfold instOk'
    rw [badAt_ok fun p hp => hx.own p (mget_some (mem_written.1 hp))]
    have : e.last + 1 ≤ 1099511627776 := by omega
    simp [this]
    omega
  unfold Eng.told Eng.installed
  by_cases hw : (e.tx i).written = []
  · rw [if_pos hw, if_pos hw, if_pos hw, hw]
    exact ⟨rfl, rfl, rfl, rfl⟩
  · rw [if_neg hw, if_neg hw, if_neg hw]
    simp only
    rw [if_pos hok]
    exact ⟨rfl, rfl, rfl, rfl⟩
theorem told_row (h : OkT N e U) (hi : i < e.txs.length) (hl : e.last ≤ e.count) (hr : RowsOk e) {K : Int} (hK : keyOk K) :
    rowOf (e.told i).V K = e.row K ++ (match mget (e.tx i).writes K with | some v => [(e.last + 1, v)] | none => []) := by
  have hx := h.at hi
  rw [(told_is h hi hl).1, row_putAll _ _ h.v10 (fun p hp => (hx.own p (mget_some (mem_written.1 hp))).1) (written_nodup hx.keys) (fun q _ p hp => by have := (hr.row q.1).2 p hp; omega) K hK, mget_written hx.keys]
  rfl
theorem told_rows (h : OkT N e U) (hi : i < e.txs.length) (hl : e.last ≤ e.count) (hr : RowsOk e) : ∀ vs ∈ (e.told i).V, vs.Pairwise (fun p q => p.1 ≤ q.1) ∧ ∀ p ∈ vs, p.1 ≤ (e.told i).last := by
  have h0 : RelV 0 e.last e.V e.V := ⟨rfl, fun k a b ha hb => by
    rw [ha] at hb; cases hb
    have := hr a (List.mem_of_getElem? ha)
    exact ⟨⟨0, rfl, .inl rfl, this.1⟩, this.2⟩⟩
  obtain ⟨t1, t2, _, _⟩ := told_is h hi hl
  intro vs hvs
  rw [t1] at hvs
  rw [t2]
  by_cases hw : (e.tx i).written = []
  · rw [hw] at hvs
    rw [if_pos hw]
    exact hr vs hvs
  · rw [if_neg hw]
    have h1 := RelV.putAll (e.tx i).written h0 (show e.last ≤ e.last + 1 by omega)
    obtain ⟨k, hk⟩ := List.getElem?_of_mem hvs
    obtain ⟨⟨_, _, _, h2⟩, h3⟩ := h1.2 k vs vs hk hk
    exact ⟨h2, h3⟩
theorem told_last (h : OkT N e U) (hi : i < e.txs.length) (hl : e.last ≤ e.count) : e.last ≤ (e.told i).last ∧ (e.told i).last ≤ e.last + 1 ∧ ((e.told i).last = e.last → (e.tx i).written = []) := by
  rw [(told_is h hi hl).2.1]
  split
  · rename_i hw; exact ⟨by omega, by omega, fun _ => hw⟩
  · exact ⟨by omega, by omega, fun h => by omega⟩
/-- What a sweep leaves. -/
theorem foldl_floor (s : Int) : ∀ (l : List Tx) (a : Int), l.foldl (fun a x => if x.alive = true ∧ x.level ≠ 0 then min a x.start else a) a ≤ a ∧ ∀ x ∈ l, x.alive = true → x.level ≠ 0 → l.foldl (fun a x => if x.alive = true ∧ x.level ≠ 0 then min a x.start else a) a ≤ x.start
  | [], a => ⟨Int.le_refl _, by simp⟩
  | y :: l, a => by
    simp only [List.foldl_cons]
    obtain ⟨h1, h2⟩ := foldl_floor s l (if y.alive = true ∧ y.level ≠ 0 then min a y.start else a)
    refine ⟨Int.le_trans h1 (by split <;> omega), fun x hx ha hl => ?_⟩
    rcases List.mem_cons.1 hx with rfl | hx
    · refine Int.le_trans h1 ?_
      rw [if_pos ⟨ha, hl⟩]; omega
    · exact h2 x hx ha hl
theorem floor_last (e : Eng) : e.floor ≤ e.last := (foldl_floor 0 _ _).1
theorem floor_le (hi : i < e.txs.length) (ha : (e.tx i).alive = true) (hl : (e.tx i).level ≠ 0) : e.floor ≤ (e.tx i).start := (foldl_floor 0 _ _).2 _ (Eng.tx_mem hi) ha hl
theorem sweep_row (e : Eng) (K : Int) : e.sweep.1.row K = swept e.floor (e.row K) := by
  unfold Eng.row
  show (((e.V.map (swept e.floor))[K.toNat]?).getD []) = _
  rw [List.getElem?_map]
  cases e.V[K.toNat]? <;> rfl
theorem sweep_rel (h : RowsOk e) {s : Int} (hs : e.floor ≤ s) (K : Int) : Rel s (e.row K) (e.sweep.1.row K) := by
  rw [sweep_row]
  exact Rel.sweep ⟨0, rfl, .inl rfl, (h.row K).1⟩ hs

/-! ### What is as it was -/
structure Later (e e' : Eng) : Prop where
  len : e.txs.length ≤ e'.txs.length
  fix : ∀ j, j < e.txs.length → (e'.tx j).level = (e.tx j).level ∧ (e'.tx j).start = (e.tx j).start ∧ (e'.tx j).begun = (e.tx j).begun
  live : ∀ j, j < e.txs.length → (e'.tx j).alive = true → (e.tx j).alive = true
  over : ∀ j, j < e.txs.length → (e.tx j).alive = false → (e'.tx j).state = (e.tx j).state ∧ (e'.tx j).ended = (e.tx j).ended ∧ (e'.tx j).writes = (e.tx j).writes ∧ (e'.tx j).reads = (e.tx j).reads
  ended : ∀ j, j < e.txs.length → (e.tx j).alive = true → (e'.tx j).alive = false → e.count < (e'.tx j).ended
  count : e.count ≤ e'.count
  view : ∀ j, j < e.txs.length → (e'.tx j).alive = true → (e.tx j).level ≠ 0 → ∀ K, keyOk K → readV (e'.row K) (e.tx j).start = readV (e.row K) (e.tx j).start
theorem Later.refl (e : Eng) : Later e e := ⟨Nat.le_refl _, fun _ _ => ⟨rfl, rfl, rfl⟩, fun _ _ h => h, fun _ _ _ => ⟨rfl, rfl, rfl, rfl⟩, fun _ _ h1 h2 => (by rw [h1] at h2; cases h2), Int.le_refl _, fun _ _ _ _ _ _ => rfl⟩
theorem Later.trans {a b c : Eng} (h : Later a b) (g : Later b c) : Later a c := by
  have hl := h.len
  refine ⟨Nat.le_trans h.len g.len, fun j hj => ?_, fun j hj ha => h.live j hj (g.live j (by omega) ha), fun j hj ha => ?_, fun j hj h1 h2 => ?_, Int.le_trans h.count g.count, fun j hj ha hlv K hK => ?_⟩
  · obtain ⟨a1, a2, a3⟩ := h.fix j hj
    obtain ⟨b1, b2, b3⟩ := g.fix j (by omega)
    exact ⟨b1.trans a1, b2.trans a2, b3.trans a3⟩
  · obtain ⟨a1, a2, a3, a4⟩ := h.over j hj ha
    obtain ⟨b1, b2, b3, b4⟩ := g.over j (by omega) (by rw [alive_of_state a1]; exact ha)
    exact ⟨b1.trans a1, b2.trans a2, b3.trans a3, b4.trans a4⟩
  · cases hb : (b.tx j).alive with
    | true => have := g.ended j (by omega) hb h2; have := h.count; omega
    | false =>
      rw [(g.over j (by omega) hb).2.1]
      exact h.ended j hj h1 hb
  · obtain ⟨a1, a2, a3⟩ := h.fix j hj
    have hb := g.live j (by omega) ha
    have h1 := g.view j (by omega) ha (by rw [a1]; exact hlv) K hK
    rw [a2] at h1
    exact h1.trans (h.view j hj hb hlv K hK)
theorem Stays.later (h : Stays e e') : Later e e' := by
  refine ⟨Nat.le_of_eq h.len.symm, fun j _ => ⟨(h.fix j).1, (h.fix j).2.1, (h.fix j).2.2.1⟩, fun j _ ha => ?_, fun j _ ha => ⟨(h.over j ha).1, (h.over j ha).2.1, (h.over j ha).2.2, (h.fix j).2.2.2⟩, fun j _ h1 h2 => ?_, h.count, fun j _ _ _ K _ => ?_⟩
  · cases hb : (e.tx j).alive with
    | true => rfl
    | false => rw [alive_of_state (h.over j hb).1, hb] at ha; cases ha
  · rcases h.live j h1 with h3 | h3
    · rw [h3] at h2; cases h2
    · exact h3.2
  · unfold Eng.row; rw [h.V]
/-- One that is not over is turned, and stays so. -/
theorem Later.upd (h : Later e0 e) (ha : (e.tx i).alive = true) (f : Tx → Tx) (hf : ∀ x, (f x).level = x.level ∧ (f x).start = x.start ∧ (f x).begun = x.begun) (hl : (f (e.tx i)).alive = true) : Later e0 (e.upd i f) := by
  have hal : ∀ j, ((e.upd i f).tx j).alive = (e.tx j).alive := fun j => by
    rw [Eng.upd_tx]; split
    · rename_i hc; rw [← hc.1, ha, hl]
    · rfl
  refine ⟨by rw [Eng.upd_len]; exact h.len, fun j hj => ?_, fun j hj hb => h.live j hj (by rw [← hal]; exact hb), fun j hj hb => ?_, fun j hj h1 h2 => ?_, h.count, fun j hj hb hlv K hK => h.view j hj (by rw [← hal]; exact hb) hlv K hK⟩
  · rw [Eng.upd_keep (·.level) f (fun x => (hf x).1), Eng.upd_keep (·.start) f (fun x => (hf x).2.1), Eng.upd_keep (·.begun) f (fun x => (hf x).2.2)]
    exact h.fix j hj
  · have hji : i ≠ j := by
      intro e1; subst e1
      rw [alive_of_state (h.over i hj hb).1, hb] at ha; cases ha
    rw [Eng.upd_ne hji]; exact h.over j hj hb
  · rw [hal] at h2
    have hji : i ≠ j := by intro e1; subst e1; rw [ha] at h2; cases h2
    rw [Eng.upd_ne hji]; exact h.ended j hj h1 h2
theorem Later.table (h : Later e0 e) (t : Tbl) : Later e0 (e.table t) := ⟨h.len, h.fix, h.live, h.over, h.ended, h.count, h.view⟩
theorem Later.noteK (h : Later e0 e) (a b : Nat) : Later e0 (e.note a b) := h.trans ((Stays.refl e).note a b).later
theorem state_alive {x : Tx} (h : x.state = 0) : x.alive = true := by simp [Tx.alive, h]
def Eng.fresh (e : Eng) (level : Int) : Tx := { Tx.zero with level := level, start := e.last, begun := e.count + 1 }
theorem begin_out (e : Eng) (level : Int) : ((e.begin_ level).2.2 = 0 ∧ (e.begin_ level).2.1 = (e.txs.length : Int) + 1 ∧ (e.begin_ level).1 = e.grown (e.fresh level)) ∨ ((e.begin_ level).2.2 ≠ 0 ∧ (e.begin_ level).1 = e) := by
  unfold Eng.begin_
  split
  · exact .inr ⟨by simp, rfl⟩
  · split
    · exact .inr ⟨by simp, rfl⟩
    · split
      · exact .inr ⟨by simp, rfl⟩
      · exact .inl ⟨rfl, rfl, rfl⟩
theorem later_begin (e : Eng) (level : Int) : Later e (e.begin_ level).1 := by
  rcases begin_out e level with ⟨_, _, b3⟩ | ⟨_, b2⟩
  · rw [b3]
    have hg : ∀ j, j < e.txs.length → (e.grown (e.fresh level)).tx j = e.tx j := fun j hj => Eng.grown_tx hj
    refine ⟨by rw [Eng.grown_len]; omega, fun j hj => ?_, fun j hj ha => ?_, fun j hj ha => ?_, fun j hj h1 h2 => ?_, by show e.count ≤ e.count + 1; omega, fun j hj ha hl K hK => rfl⟩
    · rw [hg j hj]; exact ⟨rfl, rfl, rfl⟩
    · rw [hg j hj] at ha; exact ha
    · rw [hg j hj]; exact ⟨rfl, rfl, rfl, rfl⟩
    · rw [hg j hj, h1] at h2; cases h2
  · rw [b2]; exact .refl e
theorem noted_tx (e : Eng) (i : Nat) (key : Int) {β : Type} (g : Tx → β) (hg : ∀ x l, g { x with reads := l } = g x) (j : Nat) : g ((e.noted i key).tx j) = g (e.tx j) := Eng.upd_keep g _ (fun x => hg x _) j
theorem later_noted (ha : (e.tx i).alive = true) (key : Int) : Later e (e.noted i key) := (Later.refl e).upd ha _ (fun _ => ⟨rfl, rfl, rfl⟩) (by simpa [Tx.alive] using ha)
theorem OkT.noted1 (h : OkT N e U) (hi : i < e.txs.length) (key : Int) : OkT (N + 1) (e.noted i key) U := h.reads_in hi _
theorem noted_len (e : Eng) (i : Nat) (key : Int) : (e.noted i key).txs.length = e.txs.length := Eng.upd_len ..
theorem later_read (h : OkT N e []) (n key : Int) : Later e (e.read n key).1 := by
  have hc := read_case e n key
  generalize e.read n key = r at hc
  cases hc with
  | err x h0 h8 => exact .refl e
  | own i v hn hi hs hv => exact .refl e
  | plain i hn hi hs hv hk hl => exact later_noted (state_alive hs) key
  | seen i hn hi hs hv hk hl hr => exact (sees_keep (P := fun f => Later (e.noted i key) f) (fun f a b hf => hf.noteK a b) (.refl _)) |> (later_noted (state_alive hs) key).trans
  | gone i hn hi hs hv hk hl hr =>
    have h1 := h.noted1 hi key
    have hi1 : i < (e.noted i key).txs.length := by rw [noted_len]; exact hi
    obtain ⟨g1, g2, g3, _⟩ := sees_ok h1 hi1 key
    have hal : (((e.noted i key).sees i key).1.tx i).alive = true := by
      rw [alive_of_state (g3 i)]
      rw [noted_tx e i key (·.alive) (fun _ _ => rfl)]; exact state_alive hs
    exact ((later_noted (state_alive hs) key).trans (sees_keep (P := fun f => Later (e.noted i key) f) (fun f a b hf => hf.noteK a b) (.refl _))).trans (same_goes g1 (by rw [g2]; exact hi1) hal 13).later
theorem wanting_tx (e : Eng) (i : Nat) (w : Int × Int) {β : Type} (g : Tx → β) (hg : ∀ x u, g { x with want := u } = g x) (j : Nat) : g ((e.wanting i w).tx j) = g (e.tx j) := Eng.upd_keep g _ (fun x => hg x _) j
theorem later_wanting (ha : (e.tx i).alive = true) (w : Int × Int) : Later e (e.wanting i w) := (Later.refl e).upd ha _ (fun _ => ⟨rfl, rfl, rfl⟩) (by simpa [Tx.alive] using ha)
/-- One that wants to write, and may: what holds of the engine then. -/
theorem put_ok (h : OkT N e []) {key value : Int} (hi : i < e.txs.length) (hs : (e.tx i).state = 0) (hk : keyOk key) (hv : valOk value) {t' : Tbl} (ht : t' = { e.t with hold := mput e.t.hold key ((i : Int) + 1) } ∧ mget e.t.hold key = none ∨ t' = e.t ∧ mget e.t.hold key = some ((i : Int) + 1)) :
    OkT (N + 200) ((e.wanting i (key, value)).table t') [.put i (key, value)] ∧ i < ((e.wanting i (key, value)).table t').txs.length ∧ (((e.wanting i (key, value)).table t').tx i).state = 0 := by
  have h1 := h.wanted hi (w := (key, value)) hk hv
  have hlen : (e.wanting i (key, value)).txs.length = e.txs.length := Eng.upd_len ..
  have hs1 : ((e.wanting i (key, value)).tx i).state = 0 := (wanting_tx e i _ (·.state) (fun _ _ => rfl) i).trans hs
  have hi1 : i < (e.wanting i (key, value)).txs.length := by omega
  have h2 : OkT N ((e.wanting i (key, value)).table t') [] := by
    rcases ht with ⟨rfl, hh⟩ | ⟨rfl, hh⟩
    · exact OkT.got (e := e.wanting i (key, value)) h1 hi1 hs1 hk hh
    · exact h1
  exact ⟨h2.to_put hi1 hs1 hk hv, hi1, hs1⟩
theorem cycle_ok (h : OkT N e []) {key value : Int} (hi : i < e.txs.length) (hk : keyOk key) (hv : valOk value) : OkT N ((e.wanting i (key, value)).table e.t) [] := h.wanted hi (w := (key, value)) hk hv
theorem same_puts {w : Int × Int} (h : OkT N e [.put i w]) : Stays e (e.puts i w) := (same_rule e).putsE h (.refl e)
theorem later_write (h : OkT N e []) (n key value : Int) : Later e (e.write n key value).1 := by
  have hc := write_case h n key value
  generalize e.write n key value = r at hc
  cases hc with
  | err x h0 => exact .refl e
  | cycle i hn hi hs hk hv =>
    have ha : (((e.wanting i (key, value)).table e.t).tx i).alive = true := (wanting_tx e i _ (·.alive) (fun _ _ => rfl) i).trans (state_alive hs)
    have hl : Later e ((e.wanting i (key, value)).table e.t) := (later_wanting (state_alive hs) _).table _
    exact hl.trans (same_goes (cycle_ok h hi hk hv) (by show i < (e.wanting i (key, value)).txs.length; rw [show (e.wanting i (key, value)).txs.length = e.txs.length from Eng.upd_len ..]; exact hi) ha 11).later
  | waits i a hn hi hs hk hv hh ha =>
    have hl : Later e ((e.wanting i (key, value)).table (waitT e.t ((i : Int) + 1) key)) := (later_wanting (state_alive hs) _).table _
    refine hl.upd ?_ _ (fun _ => ⟨rfl, rfl, rfl⟩) (by simp [Tx.alive])
    exact (wanting_tx e i _ (·.alive) (fun _ _ => rfl) i).trans (state_alive hs)
  | puts i t' hn hi hs hk hv ht r hr =>
    have hl : Later e ((e.wanting i (key, value)).table t') := (later_wanting (state_alive hs) _).table _
    exact hl.trans (same_puts (put_ok h hi hs hk hv ht).1).later
theorem later_over2 (h : OkT N e []) (hi : i < e.txs.length) (ha : (e.tx i).alive = true) (hl : e.last ≤ e.count) (hr : RowsOk e) (hst : ∀ j, j < e.txs.length → (e.tx j).start ≤ e.last) : Later e ((e.over2 i).lets i) := by
  have htx : ∀ j, ((e.over2 i).lets i).tx j = if i = j ∧ j < e.txs.length then { e.tx j with state := 2, ended := e.count + 1 } else e.tx j := fun j => by
    have := Eng.upd_tx (e.told i) i (fun x => { x with state := 2, ended := e.count + 1 }) j
    have e1 : (e.told i).tx j = e.tx j := by unfold Eng.tx; rw [(told_txs e i).1]
    rw [(told_txs e i).1, e1] at this
    exact this
  have hlen : ((e.over2 i).lets i).txs.length = e.txs.length := by
    have := Eng.upd_len (e.told i) i (fun x => { x with state := 2, ended := e.count + 1 })
    rw [(told_txs e i).1] at this
    exact this
  refine ⟨Nat.le_of_eq hlen.symm, fun j _ => ?_, fun j hj hb => ?_, fun j hj hb => ?_, fun j hj h1 h2 => ?_, by show e.count ≤ e.count + 1; omega, fun j hj hb hlv K hK => ?_⟩
  · rw [htx]; split <;> exact ⟨rfl, rfl, rfl⟩
  · rw [htx] at hb
    split at hb
    · simp [Tx.alive] at hb
    · exact hb
  · rw [htx, if_neg]
    · exact ⟨rfl, rfl, rfl, rfl⟩
    · rintro ⟨rfl, _⟩; rw [ha] at hb; cases hb
  · rw [htx] at h2 ⊢
    split
    · show e.count < e.count + 1; omega
    · rename_i hc; rw [if_neg hc, h1] at h2; cases h2
  · show readV (rowOf (e.told i).V K) _ = _
    rw [told_row h hi hl hr hK]
    have := hst j hj
    split
    · rw [readV_snoc, if_neg (by omega)]
    · rw [List.append_nil]
theorem same_frees (h : OkT N e []) (hi : i < e.txs.length) (ha : (e.tx i).alive = true) : Stays ((e.over2 i).lets i) ((e.over2 i).frees i) := (same_rule _).frees h hi ha (.refl _)
theorem later_commit (h : OkT N e []) (hl : e.last ≤ e.count) (hr : RowsOk e) (hst : ∀ j, j < e.txs.length → (e.tx j).start ≤ e.last) (n : Int) : Later e (e.commit n).1 := by
  by_cases h0 : e.ready n = 0
  · obtain ⟨i, rfl, hi, hs⟩ := ready_at h0
    rw [commit_eq e i h0]
    exact (later_over2 h hi (state_alive hs) hl hr hst).trans (same_frees h hi (state_alive hs)).later
  · unfold Eng.commit
    rw [if_pos h0]
    simp only
    split
    · rename_i h13
      obtain ⟨i, rfl, hi, hs⟩ := ready_13 h13
      have hi2 : ((i : Int) + 1).toNat - 1 = i := by omega
      rw [hi2]
      exact (same_goes h hi (state_alive hs) 13).later
    · exact .refl e
theorem abort_case (e : Eng) (n : Int) : (∃ x, x ≠ 0 ∧ e.abort n = (e, x)) ∨ ∃ i : Nat, n = (i : Int) + 1 ∧ i < e.txs.length ∧ ¬ 1 < (e.tx i).state ∧ e.abort n = (e.goes i 0, 0) := by
  unfold Eng.abort
  by_cases he : e.err n false ≠ 0
  · rw [if_pos he]; exact .inl ⟨_, he, rfl⟩
  · rw [if_neg he]
    obtain ⟨i, rfl, hi, _⟩ := err_num (Decidable.not_not.1 he)
    have hi2 : ((i : Int) + 1).toNat - 1 = i := by omega
    simp only [hi2]
    by_cases h1 : 1 < (e.tx i).state
    · rw [if_pos h1]; exact .inl ⟨6, by decide, rfl⟩
    · rw [if_neg h1]; exact .inr ⟨i, rfl, hi, h1, rfl⟩
theorem later_abort (h : OkT N e []) (n : Int) : Later e (e.abort n).1 := by
  rcases abort_case e n with ⟨x, _, hx⟩ | ⟨i, rfl, hi, hs, hx⟩
  · rw [hx]; exact .refl e
  · rw [hx]
    exact (same_goes h hi (by simp [Tx.alive]; omega) 0).later
theorem later_sweep (hr : RowsOk e) : Later e e.sweep.1 :=
  ⟨Nat.le_refl _, fun _ _ => ⟨rfl, rfl, rfl⟩, fun _ _ h => h, fun _ _ _ => ⟨rfl, rfl, rfl, rfl⟩, fun j _ h1 h2 => (by rw [show ((e.sweep.1).tx j).alive = (e.tx j).alive from rfl, h1] at h2; cases h2), Int.le_refl _,
    fun j hj ha hl K _ => ((sweep_rel hr (floor_le hj ha hl) K).read (Int.le_refl _)).symm⟩
end
end Go.Proofs.YtaghjcdlghcjeaaGreatDoor
/- Transactions at the same time: who holds what it wrote; of two that overlap, and are not loose, no two wrote the same key. No walk in sight. -/
namespace Go.Proofs.YtaghjcdlghcjeaaGreatDoor
open Go Go.RowKit Go.Sep

section
variable {e e' e0 : Eng} {i j : Nat} {N : Nat} {T U : List Task}
structure Sure (e : Eng) (T : List Task) : Prop where
  cnt : ∀ i, i < e.txs.length → (e.tx i).begun ≤ e.count ∧ (e.tx i).ended ≤ e.count ∧ (e.tx i).start ≤ e.last
  rows : RowsOk e
  lastc : e.last ≤ e.count
  held : ∀ i K, (e.tx i).alive = true → (e.tx i).wrote K = true → mget e.t.hold K = some ((i : Int) + 1)
  newer : ∀ i k K, i < e.txs.length → (e.tx i).alive = true → (e.tx i).level ≠ 0 → (e.tx k).state = 2 → (e.tx i).begun < (e.tx k).ended → (e.tx k).wrote K = true → newerL (e.row K) (e.tx i).start ≠ []
  apart : ∀ i k K, i < e.txs.length → i ≠ k → (e.tx i).level ≠ 0 → ((e.tx i).alive = true ∨ ((e.tx i).state = 2 ∧ (e.tx k).level ≠ 0 ∧ (e.tx k).begun < (e.tx i).ended)) → (e.tx k).state = 2 → (e.tx i).begun < (e.tx k).ended → (e.tx k).wrote K = true → (e.tx i).wrote K = false
  wantk : ∀ (j : Nat) k, mget e.t.wait ((j : Int) + 1) = some k → (e.tx j).want.1 = k
  handk : ∀ w, Task.hand w ∈ T → (e.tx (w.2.toNat - 1)).want.1 = w.1 ∧ mget e.t.hold w.1 = some w.2
  putk : ∀ i w, Task.put i w ∈ T → mget e.t.hold w.1 = some ((i : Int) + 1) ∧ w = (e.tx i).want
theorem wrote_lt {K : Int} (h : (e.tx i).wrote K = true) : i < e.txs.length := by
  refine Classical.byContradiction fun hn => ?_
  rw [Eng.tx_far hn] at h
  cases h
theorem OkT.wrote_ok (h : OkT N e U) {K : Int} (hw : (e.tx i).wrote K = true) : keyOk K := by
  have hx := h.at (wrote_lt hw)
  unfold Tx.wrote at hw
  obtain ⟨v, hv⟩ := Option.isSome_iff_exists.1 hw
  exact (hx.own _ (mget_some hv)).1
theorem Sure.start : Sure Eng.zero [] where
  cnt i hi := by simp [Eng.zero] at hi
  rows vs hv := by
    simp only [Eng.zero, List.mem_replicate] at hv
    rw [hv.2]; simp
  lastc := by decide
  held i K _ hw := by have := wrote_lt hw; simp [Eng.zero] at this
  newer i k K hi := by simp [Eng.zero] at hi
  apart i k K hi := by simp [Eng.zero] at hi
  wantk j k h := by simp [Eng.zero, mget_nil] at h
  handk w h := by simp at h
  putk i w h := by simp at h
/-- What is asked depends on some fields alone. -/
theorem Sure.congr (h : Sure e T) (hV : e'.V = e.V) (hl : e'.last = e.last) (hc : e'.count = e.count) (ht : e'.t = e.t) (hlen : e'.txs.length = e.txs.length)
    (hx : ∀ j, (e'.tx j).level = (e.tx j).level ∧ (e'.tx j).state = (e.tx j).state ∧ (e'.tx j).start = (e.tx j).start ∧ (e'.tx j).begun = (e.tx j).begun ∧ (e'.tx j).ended = (e.tx j).ended ∧ (e'.tx j).writes = (e.tx j).writes ∧ (e'.tx j).want = (e.tx j).want) : Sure e' T := by
  have x1 := fun j => (hx j).1
  have x2 := fun j => (hx j).2.1
  have x3 := fun j => (hx j).2.2.1
  have x4 := fun j => (hx j).2.2.2.1
  have x5 := fun j => (hx j).2.2.2.2.1
  have x6 := fun j K => show (e'.tx j).wrote K = (e.tx j).wrote K by unfold Tx.wrote; rw [(hx j).2.2.2.2.2.1]
  have x7 := fun j => (hx j).2.2.2.2.2.2
  have x8 := fun j => alive_of_state (x2 j)
  have x9 := fun K => show e'.row K = e.row K by unfold Eng.row; rw [hV]
  refine ⟨fun i hi => ?_, by unfold RowsOk; rw [hV, hl]; exact h.rows, by rw [hl, hc]; exact h.lastc, fun i K => ?_, fun i k K => ?_, fun i k K => ?_, fun j k => ?_, fun w => ?_, fun i w => ?_⟩
  · rw [x3, x4, x5, hl, hc]; exact h.cnt i (by rw [← hlen]; exact hi)
  · rw [x8, x6, ht]; exact h.held i K
  · rw [hlen, x8, x1, x2, x3, x4, x5, x6, x9]; exact h.newer i k K
  · rw [hlen, x8, x1, x1, x2, x2, x4, x4, x5, x5, x6, x6]; exact h.apart i k K
  · rw [ht, x7]; exact h.wantk j k
  · rw [ht, x7]; exact h.handk w
  · rw [ht, x7]; exact h.putk i w
theorem Sure.sub {T' : List Task} (h : Sure e T) (ht : ∀ t ∈ T', t ∈ T ∨ ∃ i k l, t = .ask i k l) : Sure e T' :=
  ⟨h.cnt, h.rows, h.lastc, h.held, h.newer, h.apart, h.wantk, fun w hw => (ht _ hw).elim (h.handk w) (fun ⟨_, _, _, h1⟩ => by cases h1), fun i w hw => (ht _ hw).elim (h.putk i w) (fun ⟨_, _, _, h1⟩ => by cases h1)⟩
theorem note_all (e : Eng) (a b j : Nat) : ((e.note a b).tx j).level = (e.tx j).level ∧ ((e.note a b).tx j).state = (e.tx j).state ∧ ((e.note a b).tx j).start = (e.tx j).start ∧ ((e.note a b).tx j).begun = (e.tx j).begun ∧ ((e.note a b).tx j).ended = (e.tx j).ended ∧ ((e.note a b).tx j).writes = (e.tx j).writes ∧ ((e.note a b).tx j).want = (e.tx j).want :=
  ⟨Eng.note_keep (·.level) (fun _ _ => rfl) (fun _ _ => rfl) a b j, Eng.note_keep (·.state) (fun _ _ => rfl) (fun _ _ => rfl) a b j, Eng.note_keep (·.start) (fun _ _ => rfl) (fun _ _ => rfl) a b j, Eng.note_keep (·.begun) (fun _ _ => rfl) (fun _ _ => rfl) a b j,
    Eng.note_keep (·.ended) (fun _ _ => rfl) (fun _ _ => rfl) a b j, Eng.note_keep (·.writes) (fun _ _ => rfl) (fun _ _ => rfl) a b j, Eng.note_keep (·.want) (fun _ _ => rfl) (fun _ _ => rfl) a b j⟩
theorem Sure.note (h : Sure e T) (a b : Nat) : Sure (e.note a b) T := h.congr rfl rfl rfl rfl (Eng.note_len ..) (note_all e a b)
/-- One is turned from waiting to open, or back. -/
theorem Sure.restate (h : Sure e T) (hs : (e.tx i).alive = true) (s : Int) (h1 : s ≤ 1) : Sure (e.upd i fun x => { x with state := s }) T := by
  have hx : ∀ {β : Type} (g : Tx → β) (_ : ∀ x s, g { x with state := s } = g x) (j : Nat), g ((e.upd i fun x => { x with state := s }).tx j) = g (e.tx j) := fun g hg j => Eng.upd_keep g _ (fun x => hg x _) j
  have x1 := hx (·.level) (fun _ _ => rfl)
  have x3 := hx (·.start) (fun _ _ => rfl)
  have x4 := hx (·.begun) (fun _ _ => rfl)
  have x5 := hx (·.ended) (fun _ _ => rfl)
  have x6 := fun K => hx (·.wrote K) (fun _ _ => rfl)
  have x7 := hx (·.want) (fun _ _ => rfl)
  have hcase : ∀ j, ((e.upd i fun x => { x with state := s }).tx j).alive = (e.tx j).alive ∧ (((e.upd i fun x => { x with state := s }).tx j).state = 2 ↔ (e.tx j).state = 2) := fun j => by
    rw [Eng.upd_tx]
    split
    · rename_i hc
      obtain ⟨rfl, _⟩ := hc
      refine ⟨by rw [hs]; simp [Tx.alive, h1], ?_⟩
      simp only [Tx.alive, decide_eq_true_eq] at hs
      constructor
      · intro h
        have h : s = 2 := h
        omega
      · intro h; omega
    · exact ⟨rfl, Iff.rfl⟩
  have x8 := fun j => (hcase j).1
  have x2 := fun j => (hcase j).2
  refine ⟨fun i' hi => ?_, h.rows, h.lastc, fun i' K => ?_, fun i' k K => ?_, fun i' k K => ?_, fun j k => ?_, fun w => ?_, fun i' w => ?_⟩
  · rw [x3, x4, x5]; exact h.cnt i' (by rw [Eng.upd_len] at hi; exact hi)
  · rw [x8, x6]; exact h.held i' K
  · rw [Eng.upd_len, x8, x1, x2, x3, x4, x5, x6]; exact h.newer i' k K
  · rw [Eng.upd_len, x8, x1, x1, x2, x2, x4, x4, x5, x5, x6, x6]; exact h.apart i' k K
  · rw [x7]; exact h.wantk j k
  · rw [x7]; exact h.handk w
  · rw [x7]; exact h.putk i' w
theorem strike_head {l : List Int} {tx x : Int} (h : l.head? = some x) (hx : x ≠ tx) : (strike l tx).head? = some x := by
  cases l with
  | nil => cases h
  | cons a l =>
    simp only [List.head?_cons, Option.some.injEq] at h
    subst h
    rw [strike_cons, if_neg hx]; rfl
/-- What is left of the table, when one lets go. -/
theorem lets_hold (h : OkT N e U) {K : Int} (hj : mget e.t.hold K = some ((j : Int) + 1)) (hji : j ≠ i) : mget (e.lets i).t.hold K = some ((j : Int) + 1) := by
  obtain ⟨Q, hQ⟩ := h.tab
  have hd := (hQ.tab.dropped hQ.hold ((i : Int) + 1)).1
  show mget (tbDrop e.t ((i : Int) + 1)).1.hold K = _
  rw [hd.hold]
  refine strike_head ?_ (by omega)
  rw [← hQ.tab.hold]; exact hj
theorem lets_wait (h : OkT N e U) {x K : Int} (hx : mget (e.lets i).t.wait x = some K) : mget e.t.wait x = some K := by
  obtain ⟨Q, hQ⟩ := h.tab
  have hd := (hQ.tab.dropped hQ.hold ((i : Int) + 1)).1
  have h1 := (hd.wait x K).1 hx
  exact (hQ.tab.wait x K).2 (strike_tail_sub h1)
theorem lets_heir (h : OkT N e U) {w : Int × Int} (hw : w ∈ e.heirs i) : mget e.t.wait w.2 = some w.1 ∧ mget (e.lets i).t.hold w.1 = some w.2 ∧ 1 ≤ w.2 ∧ w.2 ≠ (i : Int) + 1 := by
  obtain ⟨Q, hQ⟩ := h.tab
  have hd := (hQ.tab.dropped hQ.hold ((i : Int) + 1)).1
  have hp := (heir_iff hQ.tab hQ.hold ((i : Int) + 1) w).1 hw
  obtain ⟨a1, a2⟩ := hp.waits
  refine ⟨(hQ.tab.wait _ _).2 a1, ?_, (hQ.key _ _ (List.mem_of_mem_tail a1)).2.1, a2⟩
  show mget (tbDrop e.t ((i : Int) + 1)).1.hold w.1 = _
  rw [hd.hold]
  obtain ⟨m, hm⟩ := hp.next
  rw [hm]; rfl
theorem left_tx (e : Eng) (i : Nat) (why : Int) (j : Nat) : (e.left i why).tx j = if i = j ∧ j < e.txs.length then { e.tx j with state := 3, why := why, ended := e.count + 1 } else e.tx j := Eng.mark_tx e i why j
theorem left_len (e : Eng) (i : Nat) (why : Int) : (e.left i why).txs.length = e.txs.length := Eng.mark_len e i why
theorem Sure.left (h : Sure e T) (hok : OkT N e T) (hi : i < e.txs.length) (ha : (e.tx i).alive = true) (hne : ∀ u ∈ T, u.who ≠ i) (why : Int) : Sure (e.left i why) ((e.heirs i).map .hand ++ T) := by
  have hx : ∀ {β : Type} (g : Tx → β) (_ : ∀ x s y c, g { x with state := s, why := y, ended := c } = g x) (j : Nat), g ((e.left i why).tx j) = g (e.tx j) := fun g hg j => by
    rw [left_tx]; split
    · exact hg _ _ _ _
    · rfl
  have x1 := hx (·.level) (fun _ _ _ _ => rfl)
  have x3 := hx (·.start) (fun _ _ _ _ => rfl)
  have x4 := hx (·.begun) (fun _ _ _ _ => rfl)
  have x6 := fun K => hx (·.wrote K) (fun _ _ _ _ => rfl)
  have x7 := hx (·.want) (fun _ _ _ _ => rfl)
  have hself : ((e.left i why).tx i).state = 3 := by rw [left_tx, if_pos ⟨rfl, hi⟩]
  have hother : ∀ j, j ≠ i → (e.left i why).tx j = e.tx j := fun j hj => by rw [left_tx, if_neg (fun x => hj x.1.symm)]
  have x8 : ∀ j, ((e.left i why).tx j).alive = true → j ≠ i ∧ (e.tx j).alive = true := fun j hj => by
    by_cases hji : j = i
    · subst hji; simp [Tx.alive, hself] at hj
    · rw [hother j hji] at hj; exact ⟨hji, hj⟩
  have x2 : ∀ j, ((e.left i why).tx j).state = 2 → j ≠ i ∧ (e.tx j).state = 2 ∧ ((e.left i why).tx j).ended = (e.tx j).ended := fun j hj => by
    by_cases hji : j = i
    · subst hji; omega
    · rw [hother j hji] at hj ⊢; exact ⟨hji, hj, rfl⟩
  refine ⟨fun j hj => ?_, h.rows, by have := h.lastc; show e.last ≤ e.count + 1; omega, fun j K hj hw => ?_, fun j k K hj hal hlv hk hlt hw => ?_, fun j k K hj hjk hlv hor hk hlt hw => ?_, fun j k hw => ?_, fun w hw => ?_, fun j w hw => ?_⟩
  · rw [left_len] at hj
    obtain ⟨a1, a2, a3⟩ := h.cnt j hj
    rw [x4, x3]
    refine ⟨by show _ ≤ e.count + 1; omega, ?_, a3⟩
    rw [left_tx]; split
    · exact Int.le_refl _
    · show _ ≤ e.count + 1; omega
  · obtain ⟨b1, b2⟩ := x8 j hj
    rw [x6] at hw
    exact lets_hold hok (h.held j K b2 hw) b1
  · obtain ⟨b1, b2⟩ := x8 j hal
    obtain ⟨c1, c2, c3⟩ := x2 k hk
    rw [x1] at hlv
    rw [x4, c3] at hlt
    rw [x6] at hw
    rw [x3]
    exact h.newer j k K (by rw [← left_len e i why]; exact hj) b2 hlv c2 hlt hw
  · obtain ⟨c1, c2, c3⟩ := x2 k hk
    rw [x1] at hlv
    rw [x4, c3] at hlt
    rw [x6] at hw ⊢
    refine h.apart j k K (by rw [← left_len e i why]; exact hj) hjk hlv ?_ c2 hlt hw
    rcases hor with ho | ⟨o1, o2, o3⟩
    · exact .inl (x8 j ho).2
    · obtain ⟨d1, d2, d3⟩ := x2 j o1
      rw [x1] at o2
      rw [x4, d3] at o3
      exact .inr ⟨d2, o2, o3⟩
  · rw [x7]; exact h.wantk j k (lets_wait hok hw)
  · rw [x7]
    rcases List.mem_append.1 hw with hw | hw
    · obtain ⟨w', hw', e1⟩ := List.mem_map.1 hw
      cases e1
      obtain ⟨a1, a2, a3, a4⟩ := lets_heir hok hw'
      refine ⟨?_, a2⟩
      refine h.wantk (w.2.toNat - 1) w.1 ?_
      rw [show ((w.2.toNat - 1 : Nat) : Int) + 1 = w.2 by omega]; exact a1
    · obtain ⟨b1, b2⟩ := h.handk w hw
      have hwho := hne _ hw
      have hpos := ((hok.ok _ hw).hand w rfl).1
      simp only [Task.who] at hwho
      refine ⟨b1, ?_⟩
      have e1 : w.2 = ((w.2.toNat - 1 : Nat) : Int) + 1 := by omega
      rw [e1] at b2 ⊢
      exact lets_hold hok b2 hwho
  · rcases List.mem_append.1 hw with hw | hw
    · obtain ⟨w', _, e1⟩ := List.mem_map.1 hw
      cases e1
    · obtain ⟨b1, b2⟩ := h.putk j w hw
      have hwho := hne _ hw
      simp only [Task.who] at hwho
      rw [x7]
      exact ⟨lets_hold hok b1 hwho, b2⟩
theorem wput_tx (e : Eng) (i : Nat) (w : Int × Int) (j : Nat) : (e.wput i w).tx j = if i = j ∧ j < e.txs.length then { e.tx j with writes := mput (e.tx j).writes w.1 w.2 } else e.tx j := Eng.upd_tx e i _ j
theorem wrote_put (x : Tx) (w : Int × Int) (K : Int) : ({ x with writes := mput x.writes w.1 w.2 } : Tx).wrote K = (decide (K = w.1) || x.wrote K) := by
  unfold Tx.wrote
  simp only [mget_put]
  by_cases h : K = w.1 <;> simp [h]
theorem Sure.wput {w : Int × Int} (h : Sure e (.put i w :: T)) (hok : OkT N e (.put i w :: T)) (hl : ¬ e.late i w.1) : Sure (e.wput i w) T := by
  obtain ⟨hi, ha⟩ := hok.put_lt
  obtain ⟨hp, _⟩ := h.putk i w (List.mem_cons_self ..)
  have hx : ∀ {β : Type} (g : Tx → β) (_ : ∀ x s, g { x with writes := s } = g x) (j : Nat), g ((e.wput i w).tx j) = g (e.tx j) := fun g hg j => Eng.upd_keep g _ (fun x => hg x _) j
  have x1 := hx (·.level) (fun _ _ => rfl)
  have x2 := hx (·.state) (fun _ _ => rfl)
  have x3 := hx (·.start) (fun _ _ => rfl)
  have x4 := hx (·.begun) (fun _ _ => rfl)
  have x5 := hx (·.ended) (fun _ _ => rfl)
  have x7 := hx (·.want) (fun _ _ => rfl)
  have x8 := hx (·.alive) (fun _ _ => rfl)
  have xo : ∀ j, (e.tx j).alive = false → ∀ K, ((e.wput i w).tx j).wrote K = (e.tx j).wrote K := fun j hj K => by
    rw [wput_tx, if_neg]
    rintro ⟨rfl, _⟩; rw [ha] at hj; cases hj
  have x6 : ∀ j K, ((e.wput i w).tx j).wrote K = true → (e.tx j).wrote K = true ∨ (j = i ∧ K = w.1) := fun j K hw => by
    rw [wput_tx] at hw
    split at hw
    · rename_i hc
      rw [wrote_put] at hw
      rcases Bool.or_eq_true _ _ ▸ hw with h1 | h1
      · exact .inr ⟨hc.1.symm, by simpa using h1⟩
      · exact .inl h1
    · exact .inl hw
  have hno2 : ∀ k, (e.tx k).state = 2 → (e.tx k).alive = false := fun k hk => by simp [Tx.alive, hk]
  have hlen : (e.wput i w).txs.length = e.txs.length := Eng.upd_len ..
  refine ⟨fun j hj => ?_, h.rows, h.lastc, fun j K hj hw => ?_, fun j k K => ?_, fun j k K hj hjk hlv hor hk hlt hw => ?_, fun j k => ?_, fun w' hw' => ?_, fun j w' hw' => ?_⟩
  · rw [x3, x4, x5]; exact h.cnt j (by rw [← hlen]; exact hj)
  · rw [x8] at hj
    rcases x6 j K hw with h1 | ⟨rfl, rfl⟩
    · exact h.held j K hj h1
    · exact hp
  · rw [hlen, x8, x1, x2, x3, x4, x5]
    intro a1 a2 a3 a4 a5 a6
    rw [xo k (hno2 k a4)] at a6
    exact h.newer j k K a1 a2 a3 a4 a5 a6
  · rw [hlen] at hj
    rw [x1] at hlv
    rw [x8, x2, x1, x4, x5] at hor
    rw [x2] at hk
    rw [x4, x5] at hlt
    rw [xo k (hno2 k hk)] at hw
    cases hq : ((e.wput i w).tx j).wrote K with
    | false => rfl
    | true =>
      rcases x6 j K hq with h1 | ⟨rfl, rfl⟩
      · rw [h.apart j k K hj hjk hlv hor hk hlt hw] at h1; cases h1
      · exact absurd ⟨hlv, h.newer j k _ hj ha hlv hk hlt hw⟩ hl
  · rw [x7]; exact h.wantk j k
  · rw [x7]; exact h.handk w' (List.mem_cons_of_mem _ hw')
  · rw [x7]; exact h.putk j w' (List.mem_cons_of_mem _ hw')
theorem sure_rule : Rule Sure where
  hand N e w T h p := by
    have hl := h.hand_lt
    have h1 := p.restate (i := w.2.toNat - 1) hl.2.1 0 (by decide)
    obtain ⟨b1, b2⟩ := p.handk w (List.mem_cons_self ..)
    have hwant : ((e.opens (w.2.toNat - 1)).tx (w.2.toNat - 1)).want = (e.tx (w.2.toNat - 1)).want := Eng.upd_keep (·.want) (fun x => { x with state := 0 }) (fun _ => rfl) _
    refine ⟨h1.cnt, h1.rows, h1.lastc, h1.held, h1.newer, h1.apart, h1.wantk, fun w' hw' => ?_, fun i' w' hw' => ?_⟩
    · rcases List.mem_cons.1 hw' with hw' | hw'
      · cases hw'
      · exact h1.handk w' (List.mem_cons_of_mem _ hw')
    · rcases List.mem_cons.1 hw' with hw' | hw'
      · cases hw'
        refine ⟨?_, hwant.symm⟩
        show mget e.t.hold _ = _
        rw [b1, b2, hl.2.2.2]
      · exact h1.putk i' w' (List.mem_cons_of_mem _ hw')
  late N e i w T h hl p := (p.sub fun t ht => .inl (List.mem_cons_of_mem _ ht)).left (h.tail (by simp)) h.put_lt.1 h.put_lt.2 h.who_ne 10
  put N e i w T h hl _ p := p.wput h hl
  puts N e i w T h hl _ p := (p.wput h hl).sub fun t ht => by
    rcases List.mem_cons.1 ht with rfl | ht
    · exact .inr ⟨_, _, _, rfl⟩
    · exact .inl ht
  asked N e i key T h p := p.sub fun t ht => .inl (List.mem_cons_of_mem _ ht)
  skip N e i j key l T h _ p := p.sub fun t ht => by
    rcases List.mem_cons.1 ht with rfl | ht
    · exact .inr ⟨_, _, _, rfl⟩
    · exact .inl (List.mem_cons_of_mem _ ht)
  note N e i j key l T h _ _ p := (p.note j i).sub fun t ht => by
    rcases List.mem_cons.1 ht with rfl | ht
    · exact .inr ⟨_, _, _, rfl⟩
    · exact .inl (List.mem_cons_of_mem _ ht)
  wrong N e i j key l T h _ _ p := ((p.note j i).sub fun t ht => .inl (List.mem_cons_of_mem _ ht)).left (h.noted.tail (by simp)) h.noted.ask_lt.1 h.noted.ask_lt.2 h.noted.who_ne 13
theorem Sure.goes (h : Sure e []) (hok : OkT N e []) (hi : i < e.txs.length) (ha : (e.tx i).alive = true) (why : Int) : Sure (e.goes i why) [] := by
  have h1 := h.left hok hi ha (by simp) why
  rw [List.append_nil] at h1
  exact sure_rule.goes hok hi ha why h1

/-! ### What each operation keeps -/
theorem Sure.begun (h : Sure e []) (hok : OkT N e []) (level : Int) : Sure (e.begin_ level).1 [] := by
  rcases begin_out e level with ⟨_, _, b3⟩ | ⟨_, b2⟩
  · rw [b3]
    · skip
      · skip
        have hg : ∀ j, j < e.txs.length → (e.grown (e.fresh level)).tx j = e.tx j := fun j hj => Eng.grown_tx hj
        have hlen := Eng.grown_len (e := e) (e.fresh level)
        have hnew := Eng.grown_last (e := e) (e.fresh level)
        have hcase : ∀ j, j < e.txs.length + 1 → j < e.txs.length ∨ j = e.txs.length := fun j hj => by omega
        have hs2 : ∀ k, ((e.grown (e.fresh level)).tx k).state = 2 → k < e.txs.length := fun k hk => by
          by_cases h1 : k < e.txs.length
          · exact h1
          · by_cases h2 : k = e.txs.length
            · subst h2; rw [hnew] at hk; exact absurd (show (0 : Int) = 2 from hk) (by decide)
            · rw [Eng.tx_far (by rw [hlen]; omega)] at hk; exact absurd (show (0 : Int) = 2 from hk) (by decide)
        refine ⟨fun j hj => ?_, h.rows, by have := h.lastc; show e.last ≤ e.count + 1; omega, fun j K hj hw => ?_, fun j k K hj hal hlv hk hlt hw => ?_, fun j k K hj hjk hlv hor hk hlt hw => ?_, fun j k hw => ?_, by simp, by simp⟩
        · rw [hlen] at hj
          rcases hcase j hj with h1 | rfl
          · rw [hg j h1]
            obtain ⟨a1, a2, a3⟩ := h.cnt j h1
            exact ⟨by show _ ≤ e.count + 1; omega, by show _ ≤ e.count + 1; omega, a3⟩
          · rw [hnew]
            have := hok.cnt
            exact ⟨by show e.count + 1 ≤ e.count + 1; omega, by show (0 : Int) ≤ e.count + 1; omega, Int.le_refl _⟩
        · have h1 := wrote_lt hw
          rw [hlen] at h1
          rcases hcase j h1 with h2 | rfl
          · rw [hg j h2] at hj hw; exact h.held j K hj hw
          · rw [hnew] at hw; cases hw
        · have hk2 := hs2 k hk
          rw [hg k hk2] at hk hlt hw
          rw [hlen] at hj
          rcases hcase j hj with h1 | rfl
          · rw [hg j h1] at hal hlv hlt ⊢
            exact h.newer j k K h1 hal hlv hk hlt hw
          · rw [hnew] at hlt
            have := (h.cnt k hk2).2.1
            have hlt' : e.count + 1 < (e.tx k).ended := hlt
            omega
        · have hk2 := hs2 k hk
          rw [hg k hk2] at hk hlt hw hor
          rw [hlen] at hj
          rcases hcase j hj with h1 | rfl
          · rw [hg j h1] at hlv hlt hor ⊢
            exact h.apart j k K h1 hjk hlv hor hk hlt hw
          · rw [hnew]; rfl
        · have hj : j < e.txs.length := by
            obtain ⟨Q, hQ⟩ := hok.tab
            have := hQ.key k _ (List.mem_of_mem_tail ((hQ.tab.wait _ _).1 hw))
            omega
          rw [hg j hj]; exact h.wantk j k hw
  · rw [b2]; exact h
theorem Sure.noted (h : Sure e []) (key : Int) : Sure (e.noted i key) [] :=
  h.congr rfl rfl rfl rfl (noted_len ..) fun j => ⟨noted_tx e i key (·.level) (fun _ _ => rfl) j, noted_tx e i key (·.state) (fun _ _ => rfl) j, noted_tx e i key (·.start) (fun _ _ => rfl) j, noted_tx e i key (·.begun) (fun _ _ => rfl) j, noted_tx e i key (·.ended) (fun _ _ => rfl) j, noted_tx e i key (·.writes) (fun _ _ => rfl) j, noted_tx e i key (·.want) (fun _ _ => rfl) j⟩
theorem Sure.red (h : Sure e []) (hok : OkT N e []) (n key : Int) : Sure (e.read n key).1 [] := by
  have hc := read_case e n key
  generalize e.read n key = r at hc
  cases hc with
  | err x h0 h8 => exact h
  | own i v hn hi hs hv => exact h
  | plain i hn hi hs hv hk hl => exact h.noted key
  | seen i hn hi hs hv hk hl hr => exact sees_keep (P := fun f => Sure f []) (fun f a b hf => hf.note a b) (h.noted key)
  | gone i hn hi hs hv hk hl hr =>
    have h1 := hok.noted1 hi key
    have hi1 : i < (e.noted i key).txs.length := by rw [noted_len]; exact hi
    obtain ⟨g1, g2, g3, _⟩ := sees_ok h1 hi1 key
    have hal : (((e.noted i key).sees i key).1.tx i).alive = true := by
      rw [alive_of_state (g3 i)]
      rw [noted_tx e i key (·.alive) (fun _ _ => rfl)]; exact state_alive hs
    exact (sees_keep (P := fun f => Sure f []) (fun f a b hf => hf.note a b) (h.noted key)).goes g1 (by rw [g2]; exact hi1) hal 13
theorem Sure.wanting (h : Sure e []) (hok : OkT N e []) (hs : (e.tx i).state = 0) (w : Int × Int) : Sure (e.wanting i w) [] := by
  have x := fun {β : Type} (g : Tx → β) (hg : ∀ x u, g { x with want := u } = g x) (j : Nat) => wanting_tx e i w g hg j
  have hlen : (e.wanting i w).txs.length = e.txs.length := Eng.upd_len ..
  refine ⟨fun j hj => ?_, h.rows, h.lastc, fun j K => ?_, fun j k K => ?_, fun j k K => ?_, fun j k hw => ?_, by simp, by simp⟩
  · rw [x (·.begun) (fun _ _ => rfl), x (·.ended) (fun _ _ => rfl), x (·.start) (fun _ _ => rfl)]; exact h.cnt j (by rw [← hlen]; exact hj)
  · rw [x (·.alive) (fun _ _ => rfl), x (·.wrote K) (fun _ _ => rfl)]; exact h.held j K
  · rw [hlen, x (·.alive) (fun _ _ => rfl), x (·.level) (fun _ _ => rfl), x (·.state) (fun _ _ => rfl), x (·.begun) (fun _ _ => rfl), x (·.ended) (fun _ _ => rfl), x (·.start) (fun _ _ => rfl), x (·.wrote K) (fun _ _ => rfl)]; exact h.newer j k K
  · rw [hlen, x (·.alive) (fun _ _ => rfl), x (·.level) (fun _ _ => rfl), x (·.level) (fun _ _ => rfl), x (·.state) (fun _ _ => rfl), x (·.state) (fun _ _ => rfl), x (·.begun) (fun _ _ => rfl), x (·.begun) (fun _ _ => rfl), x (·.ended) (fun _ _ => rfl), x (·.ended) (fun _ _ => rfl), x (·.wrote K) (fun _ _ => rfl), x (·.wrote K) (fun _ _ => rfl)]; exact h.apart j k K
  · have hji : i ≠ j := by
      rintro rfl
      have hw' : mget e.t.wait ((i : Int) + 1) = some k := hw
      rw [hok.wait_none (i := i) (by omega)] at hw'; cases hw'
    unfold Eng.wanting
    rw [Eng.upd_ne hji]; exact h.wantk j k hw
theorem Sure.table (h : Sure e []) {t' : Tbl} (h1 : ∀ K x, mget e.t.hold K = some x → mget t'.hold K = some x) (h2 : ∀ (j : Nat) k, mget t'.wait ((j : Int) + 1) = some k → (e.tx j).want.1 = k) : Sure (e.table t') [] :=
  ⟨h.cnt, h.rows, h.lastc, fun j K a b => h1 K _ (h.held j K a b), h.newer, h.apart, h2, by simp, by simp⟩
theorem Sure.wrote (h : Sure e []) (hok : OkT N e []) (n key value : Int) : Sure (e.write n key value).1 [] := by
  have hc := write_case hok n key value
  generalize e.write n key value = r at hc
  cases hc with
  | err x h0 => exact h
  | cycle i hn hi hs hk hv =>
    have ha : (((e.wanting i (key, value)).table e.t).tx i).alive = true := (wanting_tx e i _ (·.alive) (fun _ _ => rfl) i).trans (state_alive hs)
    have h1 := h.wanting hok hs (key, value)
    have h2 : Sure ((e.wanting i (key, value)).table e.t) [] := h1.table (fun _ _ h => h) h1.wantk
    exact h2.goes (cycle_ok hok hi hk hv) (by show i < (e.wanting i (key, value)).txs.length; rw [show (e.wanting i (key, value)).txs.length = e.txs.length from Eng.upd_len ..]; exact hi) ha 11
  | waits i a hn hi hs hk hv hh ha =>
    have h1 := h.wanting hok hs (key, value)
    refine Sure.restate (h1.table (t' := waitT e.t ((i : Int) + 1) key) (fun _ _ h => h) fun j k hw => ?_) ?_ 1 (by decide)
    · have hw' : mget (mput e.t.wait ((i : Int) + 1) key) ((j : Int) + 1) = some k := hw
      rw [mget_put] at hw'
      split at hw'
      · rename_i hji
        obtain rfl : j = i := by omega
        cases hw'
        unfold Eng.wanting
        rw [Eng.upd_self hi]
      · exact h1.wantk j k hw'
    · exact (wanting_tx e i _ (·.alive) (fun _ _ => rfl) i).trans (state_alive hs)
  | puts i t' hn hi hs hk hv ht r hr =>
    have h1 := h.wanting hok hs (key, value)
    have h2 : Sure ((e.wanting i (key, value)).table t') [] := by
      rcases ht with ⟨rfl, hh⟩ | ⟨rfl, hh⟩
      · refine h1.table (fun K x hx => ?_) h1.wantk
        show mget (mput e.t.hold key ((i : Int) + 1)) K = _
        rw [mget_put]
        split
        · rename_i hK; subst hK
          have hx' : mget e.t.hold K = some x := hx
          rw [hh] at hx'; cases hx'
        · exact hx
      · exact h1.table (fun _ _ h => h) h1.wantk
    obtain ⟨p1, p2, p3⟩ := put_ok hok hi hs hk hv ht
    refine sure_rule.putsE p1 ⟨h2.cnt, h2.rows, h2.lastc, h2.held, h2.newer, h2.apart, h2.wantk, by simp, fun i' w' hw' => ?_⟩
    simp only [List.mem_singleton] at hw'
    cases hw'
    refine ⟨?_, ?_⟩
    · show mget t'.hold key = _
      rcases ht with ⟨rfl, hh⟩ | ⟨rfl, hh⟩
      · show mget (mput e.t.hold key ((i : Int) + 1)) key = _
        rw [mget_put, if_pos rfl]
      · exact hh
    · show _ = ((e.wanting i (key, value)).tx i).want
      unfold Eng.wanting
      rw [Eng.upd_self hi]
theorem over2_tx (e : Eng) (i j : Nat) : ((e.over2 i).lets i).tx j = if i = j ∧ j < e.txs.length then { e.tx j with state := 2, ended := e.count + 1 } else e.tx j := by
  have := Eng.upd_tx (e.told i) i (fun x => { x with state := 2, ended := e.count + 1 }) j
  have e1 : (e.told i).tx j = e.tx j := by unfold Eng.tx; rw [(told_txs e i).1]
  rw [(told_txs e i).1, e1] at this
  exact this
theorem over2_len (e : Eng) (i : Nat) : ((e.over2 i).lets i).txs.length = e.txs.length := by
  have := Eng.upd_len (e.told i) i (fun x => { x with state := 2, ended := e.count + 1 })
  rw [(told_txs e i).1] at this
  exact this
theorem Sure.over2 (h : Sure e []) (hok : OkT N e []) (hi : i < e.txs.length) (ha : (e.tx i).alive = true) : Sure ((e.over2 i).lets i) (((e.over2 i).heirs i).map .hand) := by
  have hx : ∀ {β : Type} (g : Tx → β) (_ : ∀ x s c, g { x with state := s, ended := c } = g x) (j : Nat), g (((e.over2 i).lets i).tx j) = g (e.tx j) := fun g hg j => by
    rw [over2_tx]; split
    · exact hg _ _ _
    · rfl
  have x1 := hx (·.level) (fun _ _ _ => rfl)
  have x3 := hx (·.start) (fun _ _ _ => rfl)
  have x4 := hx (·.begun) (fun _ _ _ => rfl)
  have x6 := fun K => hx (·.wrote K) (fun _ _ _ => rfl)
  have x7 := hx (·.want) (fun _ _ _ => rfl)
  have hself : (((e.over2 i).lets i).tx i).state = 2 ∧ (((e.over2 i).lets i).tx i).ended = e.count + 1 := by rw [over2_tx, if_pos ⟨rfl, hi⟩]; exact ⟨rfl, rfl⟩
  have hother : ∀ j, j ≠ i → ((e.over2 i).lets i).tx j = e.tx j := fun j hj => by rw [over2_tx, if_neg (fun x => hj x.1.symm)]
  have x8 : ∀ j, (((e.over2 i).lets i).tx j).alive = true → j ≠ i ∧ (e.tx j).alive = true := fun j hj => by
    by_cases hji : j = i
    · subst hji; simp [Tx.alive, hself.1] at hj
    · rw [hother j hji] at hj; exact ⟨hji, hj⟩
  have x2 : ∀ j, (((e.over2 i).lets i).tx j).state = 2 → j = i ∨ (j ≠ i ∧ (e.tx j).state = 2 ∧ (((e.over2 i).lets i).tx j).ended = (e.tx j).ended) := fun j hj => by
    by_cases hji : j = i
    · exact .inl hji
    · rw [hother j hji] at hj ⊢; exact .inr ⟨hji, hj, rfl⟩
  have htab : ((e.over2 i).lets i).t = (e.lets i).t := by show (tbDrop (e.told i).t _).1 = (tbDrop e.t _).1; rw [(told_txs e i).2.1]
  have hheir : (e.over2 i).heirs i = e.heirs i := over2_heirs e i
  have hcount : ((e.over2 i).lets i).count = e.count + 1 := rfl
  have hlast : ((e.over2 i).lets i).last = (e.told i).last := rfl
  have hrow : ∀ K, ((e.over2 i).lets i).row K = rowOf (e.told i).V K := fun K => rfl
  have hlc := h.lastc
  obtain ⟨l1, l2, l3⟩ := told_last hok hi hlc
  have hboth : ∀ j K, j ≠ i → (e.tx j).alive = true → (e.tx j).wrote K = true → (e.tx i).wrote K = true → False := fun j K hji hj hw1 hw2 => by
    have h1 := h.held j K hj hw1
    rw [h.held i K ha hw2] at h1
    have := Option.some.inj h1
    omega
  refine ⟨fun j hj => ?_, ?_, by rw [hcount, hlast]; omega, fun j K hj hw => ?_, fun j k K hj hal hlv hk hlt hw => ?_, fun j k K hj hjk hlv hor hk hlt hw => ?_, fun j k hw => ?_, fun w hw => ?_, fun j w hw => ?_⟩
  · rw [over2_len] at hj
    obtain ⟨a1, a2, a3⟩ := h.cnt j hj
    rw [x4, x3, hcount, hlast]
    refine ⟨by omega, ?_, by omega⟩
    rw [over2_tx]; split
    · exact Int.le_refl _
    · omega
  · exact told_rows hok hi hlc h.rows
  · obtain ⟨b1, b2⟩ := x8 j hj
    rw [x6] at hw
    rw [htab]
    exact lets_hold hok (h.held j K b2 hw) b1
  · rw [over2_len] at hj
    obtain ⟨b1, b2⟩ := x8 j hal
    rw [x1] at hlv
    rw [x6] at hw
    rw [x3, hrow, told_row hok hi hlc h.rows (hok.wrote_ok hw), newerL_append]
    rcases x2 k hk with rfl | ⟨c1, c2, c3⟩
    · unfold Tx.wrote at hw
      obtain ⟨v, hv⟩ := Option.isSome_iff_exists.1 hw
      rw [hv]
      have := (h.cnt j hj).2.2
      simp [newerL]
      intro _
      omega
    · rw [x4, c3] at hlt
      have := h.newer j k K hj b2 hlv c2 hlt hw
      intro e1
      exact this (List.append_eq_nil_iff.1 e1).1
  · rw [over2_len] at hj
    rw [x1] at hlv
    rw [x6] at hw ⊢
    cases hq : (e.tx j).wrote K with
    | false => rfl
    | true =>
      exfalso
      by_cases hji : j = i
      · subst hji
        rcases x2 k hk with rfl | ⟨c1, c2, c3⟩
        · exact hjk rfl
        · rw [x4, c3] at hlt
          rw [h.apart j k K hj hjk hlv (.inl ha) c2 hlt hw] at hq; cases hq
      · rw [hother j hji, x1, x4] at hor
        rcases x2 k hk with rfl | ⟨c1, c2, c3⟩
        · rcases hor with ho | ⟨o1, o2, o3⟩
          · exact hboth j K hji ho hq hw
          · rw [h.apart k j K hi (fun x => hjk x.symm) o2 (.inl ha) o1 o3 hq] at hw; cases hw
        · rw [x4, c3] at hlt
          rw [h.apart j k K hj hjk hlv hor c2 hlt hw] at hq; cases hq
  · rw [htab] at hw
    rw [x7]; exact h.wantk j k (lets_wait hok hw)
  · rw [hheir] at hw
    obtain ⟨w', hw', e1⟩ := List.mem_map.1 hw
    cases e1
    obtain ⟨a1, a2, a3, a4⟩ := lets_heir hok hw'
    rw [x7, htab]
    refine ⟨h.wantk (w.2.toNat - 1) w.1 ?_, a2⟩
    rw [show ((w.2.toNat - 1 : Nat) : Int) + 1 = w.2 by omega]; exact a1
  · obtain ⟨w', _, e1⟩ := List.mem_map.1 hw
    cases e1
theorem Sure.committed (h : Sure e []) (hok : OkT N e []) (n : Int) : Sure (e.commit n).1 [] := by
  by_cases h0 : e.ready n = 0
  · obtain ⟨i, rfl, hi, hs⟩ := ready_at h0
    rw [commit_eq e i h0]
    exact sure_rule.frees hok hi (state_alive hs) (h.over2 hok hi (state_alive hs))
  · unfold Eng.commit
    rw [if_pos h0]
    simp only
    split
    · rename_i h13
      obtain ⟨i, rfl, hi, hs⟩ := ready_13 h13
      have hi2 : ((i : Int) + 1).toNat - 1 = i := by omega
      rw [hi2]
      exact h.goes hok hi (state_alive hs) 13
    · exact h
theorem Sure.aborted (h : Sure e []) (hok : OkT N e []) (n : Int) : Sure (e.abort n).1 [] := by
  rcases abort_case e n with ⟨x, _, hx⟩ | ⟨i, rfl, hi, hs, hx⟩
  · rw [hx]; exact h
  · rw [hx]; exact h.goes hok hi (by simp [Tx.alive]; omega) 0
theorem Sure.swept (h : Sure e []) : Sure e.sweep.1 [] := by
  refine ⟨h.cnt, fun vs hvs => ?_, h.lastc, h.held, fun i k K hi ha hlv hk hlt hw => ?_, h.apart, h.wantk, by simp, by simp⟩
  · obtain ⟨a, ha, rfl⟩ := List.mem_map.1 (show vs ∈ e.V.map (Proofs.YtaghjcdlghcjeaaGreatDoor.swept e.floor) from hvs)
    obtain ⟨h1, h2⟩ := h.rows a ha
    obtain ⟨_, _, _, h4⟩ := sweptN_spec e.floor a
    rw [h4]
    exact ⟨h1.sublist (List.drop_sublist _ _), fun p hp => h2 p (List.mem_of_mem_drop hp)⟩
  · have := (sweep_rel h.rows (floor_le hi ha hlv) K).newer (Int.le_refl _)
    rw [show ((e.sweep.1).tx i).start = (e.tx i).start from rfl, ← this]
    exact h.newer i k K hi ha hlv hk hlt hw
theorem Sure.later_commit (h : Sure e []) (hok : OkT N e []) (n : Int) : Later e (e.commit n).1 := Proofs.YtaghjcdlghcjeaaGreatDoor.later_commit hok h.lastc h.rows (fun j hj => (h.cnt j hj).2.2) n
end
end Go.Proofs.YtaghjcdlghcjeaaGreatDoor
namespace Go.Proofs.YtaghjcdlghcjeaaGreatDoor
open Go Go.RowKit Go.Sep

section
variable {e e' e0 : Eng} {i j : Nat} {N : Nat} {T U : List Task}
/-- What one wrote, with what it waits to write. -/
def Tx.owns (x : Tx) (w : Bool) (K : Int) : Option Int := if w = true ∧ K = x.want.1 then some x.want.2 else mget x.writes K
structure Eff (g : Nat → Int → Option Int) (e : Eng) (T : List Task) : Prop where
  wait : ∀ j K, (e.tx j).state = 1 → g j K = (e.tx j).owns true K
  put : ∀ j K w, Task.put j w ∈ T → g j K = (e.tx j).owns true K
  open_ : ∀ j K, (e.tx j).state = 0 → (∀ w, Task.put j w ∉ T) → g j K = mget (e.tx j).writes K
variable {g : Nat → Int → Option Int}
theorem Eff.congr (h : Eff g e T) (hs : ∀ j, (e'.tx j).state = (e.tx j).state) (hw : ∀ j, (e'.tx j).writes = (e.tx j).writes) (hk : ∀ j, (e'.tx j).want = (e.tx j).want) {T' : List Task} (ht : ∀ j w, Task.put j w ∈ T' ↔ Task.put j w ∈ T) : Eff g e' T' := by
  refine ⟨fun j K h1 => ?_, fun j K w h1 => ?_, fun j K h1 h2 => ?_⟩
  · unfold Tx.owns; rw [hw, hk]; exact h.wait j K (by rw [← hs]; exact h1)
  · unfold Tx.owns; rw [hw, hk]; exact h.put j K w ((ht j w).1 h1)
  · rw [hw]; exact h.open_ j K (by rw [← hs]; exact h1) fun w hw' => h2 w ((ht j w).2 hw')
theorem Eff.note (h : Eff g e T) (a b : Nat) {T' : List Task} (ht : ∀ j w, Task.put j w ∈ T' ↔ Task.put j w ∈ T) : Eff g (e.note a b) T' :=
  h.congr (fun j => (note_all e a b j).2.1) (fun j => (note_all e a b j).2.2.2.2.2.1) (fun j => (note_all e a b j).2.2.2.2.2.2) ht
theorem Eff.left (h : Eff g e T) (hi : i < e.txs.length) (hne : ∀ u ∈ T, u.who ≠ i) (why : Int) : Eff g (e.left i why) ((e.heirs i).map .hand ++ T) := by
  have hself : ((e.left i why).tx i).state = 3 := by rw [left_tx, if_pos ⟨rfl, hi⟩]
  have hother : ∀ j, j ≠ i → (e.left i why).tx j = e.tx j := fun j hj => by rw [left_tx, if_neg (fun x => hj x.1.symm)]
  have ht : ∀ j w, Task.put j w ∈ (e.heirs i).map .hand ++ T ↔ Task.put j w ∈ T := fun j w => by
    rw [List.mem_append]
    constructor
    · rintro (h1 | h1)
      · obtain ⟨_, _, h2⟩ := List.mem_map.1 h1; cases h2
      · exact h1
    · exact .inr
  refine ⟨fun j K h1 => ?_, fun j K w h1 => ?_, fun j K h1 h2 => ?_⟩
  · by_cases hji : j = i
    · subst hji; omega
    · rw [hother j hji] at h1 ⊢; exact h.wait j K h1
  · have h2 := (ht j w).1 h1
    have hji : j ≠ i := hne _ h2
    rw [hother j hji]; exact h.put j K w h2
  · by_cases hji : j = i
    · subst hji; omega
    · rw [hother j hji] at h1 ⊢
      exact h.open_ j K h1 fun w hw => h2 w ((ht j w).2 hw)
theorem Eff.wput {w : Int × Int} (h : Eff g e (.put i w :: T)) (hS : Sure e (.put i w :: T)) (hok : OkT N e (.put i w :: T)) {T' : List Task} (ht : ∀ j w, Task.put j w ∈ T' ↔ Task.put j w ∈ T) : Eff g (e.wput i w) T' := by
  obtain ⟨hi, ha⟩ := hok.put_lt
  have hst := (hok.ok _ (List.mem_cons_self ..)).put _ _ rfl |>.1
  obtain ⟨_, hw⟩ := hS.putk i w (List.mem_cons_self ..)
  have hno : ∀ w', Task.put i w' ∉ T := fun w' h1 => hok.who_ne _ h1 rfl
  have hother : ∀ j, j ≠ i → (e.wput i w).tx j = e.tx j := fun j hj => by rw [wput_tx, if_neg (fun x => hj x.1.symm)]
  have hself : (e.wput i w).tx i = { e.tx i with writes := mput (e.tx i).writes w.1 w.2 } := by rw [wput_tx, if_pos ⟨rfl, hi⟩]
  refine ⟨fun j K h1 => ?_, fun j K w' h1 => ?_, fun j K h1 h2 => ?_⟩
  · by_cases hji : j = i
    · subst hji; rw [hself] at h1; simp only at h1; omega
    · rw [hother j hji] at h1 ⊢; exact h.wait j K h1
  · have h2 := (ht j w').1 h1
    have hji : j ≠ i := by rintro rfl; exact hno _ h2
    rw [hother j hji]; exact h.put j K w' (List.mem_cons_of_mem _ h2)
  · by_cases hji : j = i
    · subst hji
      rw [h.put j K w (List.mem_cons_self ..), hself]
      simp only [Tx.owns, mget_put]
      rw [← hw]
      simp only [true_and]
    · rw [hother j hji] at h1 ⊢
      refine h.open_ j K h1 fun w' hw' => ?_
      rcases List.mem_cons.1 hw' with e1 | e1
      · cases e1; exact hji rfl
      · exact h2 w' ((ht j w').2 e1)
theorem eff_rule (g : Nat → Int → Option Int) : Rule fun e T => Sure e T ∧ Eff g e T where
  hand N e w T h p := by
    refine ⟨sure_rule.hand N e w T h p.1, ?_⟩
    obtain ⟨hi, ha, hs1, _⟩ := h.hand_lt
    have p2 := p.2
    have hopen : (e.opens (w.2.toNat - 1)).tx (w.2.toNat - 1) = { e.tx (w.2.toNat - 1) with state := 0 } := by unfold Eng.opens; rw [Eng.upd_self hi]
    have hother : ∀ j, j ≠ w.2.toNat - 1 → (e.opens (w.2.toNat - 1)).tx j = e.tx j := fun j hj => by unfold Eng.opens; rw [Eng.upd_ne (fun x => hj x.symm)]
    refine ⟨fun j K h1 => ?_, fun j K w' h1 => ?_, fun j K h1 h2 => ?_⟩
    · by_cases hji : j = w.2.toNat - 1
      · subst hji; rw [hopen] at h1; cases h1
      · rw [hother j hji] at h1 ⊢; exact p2.wait j K h1
    · rcases List.mem_cons.1 h1 with e1 | e1
      · cases e1
        rw [hopen]
        exact p2.wait _ K hs1
      · have hji : j ≠ w.2.toNat - 1 := h.who_ne _ e1
        rw [hother j hji]; exact p2.put j K w' (List.mem_cons_of_mem _ e1)
    · by_cases hji : j = w.2.toNat - 1
      · subst hji; exact absurd (List.mem_cons_self ..) (h2 _)
      · rw [hother j hji] at h1 ⊢
        refine p2.open_ j K h1 fun w' hw' => ?_
        rcases List.mem_cons.1 hw' with e1 | e1
        · cases e1
        · exact h2 w' (List.mem_cons_of_mem _ e1)
  late N e i w T h hl p := by
    refine ⟨sure_rule.late N e i w T h hl p.1, ?_⟩
    have hi := h.put_lt.1
    have hT := h.tail (by simp)
    have hst := (h.ok _ (List.mem_cons_self ..)).put _ _ rfl |>.1
    have hother : ∀ j, j ≠ i → (e.left i 10).tx j = e.tx j := fun j hj => by rw [left_tx, if_neg (fun x => hj x.1.symm)]
    have hself : ((e.left i 10).tx i).state = 3 := by rw [left_tx, if_pos ⟨rfl, hi⟩]
    have ht : ∀ j w, Task.put j w ∈ (e.heirs i).map .hand ++ T → Task.put j w ∈ T := fun j w h1 => by
      rcases List.mem_append.1 h1 with h1 | h1
      · obtain ⟨_, _, h2⟩ := List.mem_map.1 h1; cases h2
      · exact h1
    refine ⟨fun j K h1 => ?_, fun j K w' h1 => ?_, fun j K h1 h2 => ?_⟩
    · by_cases hji : j = i
      · subst hji; omega
      · rw [hother j hji] at h1 ⊢; exact p.2.wait j K h1
    · have h2 := ht j w' h1
      have hji : j ≠ i := h.who_ne _ h2
      rw [hother j hji]; exact p.2.put j K w' (List.mem_cons_of_mem _ h2)
    · by_cases hji : j = i
      · subst hji; omega
      · rw [hother j hji] at h1 ⊢
        refine p.2.open_ j K h1 fun w' hw' => ?_
        rcases List.mem_cons.1 hw' with e1 | e1
        · cases e1; exact hji rfl
        · exact h2 w' (List.mem_append_right _ e1)
  put N e i w T h hl h2 p := ⟨sure_rule.put N e i w T h hl h2 p.1, p.2.wput p.1 h fun _ _ => Iff.rfl⟩
  puts N e i w T h hl h2 p := ⟨sure_rule.puts N e i w T h hl h2 p.1, p.2.wput p.1 h fun _ _ => by simp⟩
  asked N e i key T h p := ⟨sure_rule.asked N e i key T h p.1, p.2.congr (fun _ => rfl) (fun _ => rfl) (fun _ => rfl) fun _ _ => by simp⟩
  skip N e i j key l T h hs p := ⟨sure_rule.skip N e i j key l T h hs p.1, p.2.congr (fun _ => rfl) (fun _ => rfl) (fun _ => rfl) fun _ _ => by simp⟩
  note N e i j key l T h hs hb p := ⟨sure_rule.note N e i j key l T h hs hb p.1, p.2.note j i fun _ _ => by simp⟩
  wrong N e i j key l T h hs hb p := by
    refine ⟨sure_rule.wrong N e i j key l T h hs hb p.1, ?_⟩
    have h1 : Eff g (e.note j i) T := p.2.note j i fun _ _ => by simp
    exact h1.left h.noted.ask_lt.1 h.noted.who_ne 13
/-- What one owns. -/
def Eng.owns (e : Eng) (j : Nat) (K : Int) : Option Int := (e.tx j).owns (decide ((e.tx j).state = 1)) K
theorem Eff.of (e : Eng) : Eff e.owns e [] :=
  ⟨fun j K h => by unfold Eng.owns; simp [h], by simp, fun j K h _ => by unfold Eng.owns Tx.owns; simp [h]⟩
theorem TxOk.alive_cases {n : Nat} {x : Tx} (h : TxOk n x) (ha : x.alive = true) : x.state = 0 ∨ x.state = 1 := by
  have := h.state
  simp only [Tx.alive, decide_eq_true_eq] at ha
  omega
theorem Eff.owns (h : Eff g e []) (hok : OkT N e U) (hj : j < e.txs.length) (ha : (e.tx j).alive = true) (K : Int) : e.owns j K = g j K := by
  rcases (hok.at hj).alive_cases ha with h0 | h1
  · rw [h.open_ j K h0 (by simp)]
    unfold Eng.owns Tx.owns; simp [h0]
  · rw [h.wait j K h1]
    unfold Eng.owns; simp [h1]
theorem owns_congr (hs : (e'.tx j).state = (e.tx j).state) (hw : (e'.tx j).writes = (e.tx j).writes) (hk : (e'.tx j).want = (e.tx j).want) (K : Int) : e'.owns j K = e.owns j K := by
  unfold Eng.owns Tx.owns; rw [hs, hw, hk]
/-- What is owned is as it was. -/
def Owns (e e' : Eng) : Prop := ∀ j, j < e.txs.length → (e'.tx j).alive = true → ∀ K, e'.owns j K = e.owns j K
theorem owns_goes (h : Sure e []) (hok : OkT N e []) (hi : i < e.txs.length) (ha : (e.tx i).alive = true) (why : Int) : Owns e (e.goes i why) := by
  have h1 := h.left hok hi ha (by simp) why
  have h2 := (Eff.of e).left hi (by simp) why
  rw [List.append_nil] at h1 h2
  have h3 := ((eff_rule e.owns).goes hok hi ha why ⟨h1, h2⟩).2
  intro j hj hal K
  exact h3.owns (goes_kept hok hi ha why) (by rw [goes_len]; exact hj) hal K
theorem Owns.trans {a b c : Eng} (h : Owns a b) (g : Owns b c) (hl : Later b c) (hlen : a.txs.length ≤ b.txs.length) : Owns a c := fun j hj ha K => (g j (by omega) ha K).trans (h j hj (hl.live j (by omega) ha) K)
theorem owns_noted (key : Int) : Owns e (e.noted i key) := fun j _ _ K => owns_congr (noted_tx e i key (·.state) (fun _ _ => rfl) j) (noted_tx e i key (·.writes) (fun _ _ => rfl) j) (noted_tx e i key (·.want) (fun _ _ => rfl) j) K
theorem owns_note (h : Owns e0 e) (a b : Nat) : Owns e0 (e.note a b) := fun j hj ha K => by
  obtain ⟨_, n2, _, _, _, n6, n7⟩ := note_all e a b j
  rw [owns_congr n2 n6 n7]
  exact h j hj (by rw [← alive_of_state n2]; exact ha) K
theorem owns_sees (key : Int) : Owns e (e.sees i key).1 := sees_keep (P := fun f => Owns e f) (fun _ a b hf => owns_note hf a b) (fun _ _ _ _ => rfl)
theorem owns_begin (e : Eng) (level : Int) : Owns e (e.begin_ level).1 := by
  rcases begin_out e level with ⟨_, _, b3⟩ | ⟨_, b2⟩
  · rw [b3]
    intro j hj ha K
    have hg : (e.grown (e.fresh level)).tx j = e.tx j := Eng.grown_tx hj
    exact owns_congr (congrArg (·.state) hg) (congrArg (·.writes) hg) (congrArg (·.want) hg) K
  · rw [b2]; exact fun _ _ _ _ => rfl
theorem owns_read (h : Sure e []) (hok : OkT N e []) (n key : Int) : Owns e (e.read n key).1 := by
  have hc := read_case e n key
  generalize e.read n key = r at hc
  cases hc with
  | err x h0 h8 => exact fun _ _ _ _ => rfl
  | own i v hn hi hs hv => exact fun _ _ _ _ => rfl
  | plain i hn hi hs hv hk hl => exact owns_noted key
  | seen i hn hi hs hv hk hl hr =>
    exact (owns_noted (e := e) (i := i) key).trans (owns_sees key) (sees_keep (P := fun f => Later (e.noted i key) f) (fun f a b hf => hf.noteK a b) (.refl _)) (Nat.le_of_eq (noted_len ..).symm)
  | gone i hn hi hs hv hk hl hr =>
    have h1 := hok.noted1 hi key
    have hi1 : i < (e.noted i key).txs.length := by rw [noted_len]; exact hi
    obtain ⟨g1, g2, g3, _⟩ := sees_ok h1 hi1 key
    have hal : (((e.noted i key).sees i key).1.tx i).alive = true := by
      rw [alive_of_state (g3 i)]
      rw [noted_tx e i key (·.alive) (fun _ _ => rfl)]; exact state_alive hs
    have hS := sees_keep (P := fun f => Sure f []) (fun f a b hf => hf.note a b) (h.noted (i := i) key) (i := i) (key := key)
    have o1 := (owns_noted (e := e) (i := i) key).trans (owns_sees (i := i) key) (sees_keep (P := fun f => Later (e.noted i key) f) (fun f a b hf => hf.noteK a b) (.refl _)) (Nat.le_of_eq (noted_len ..).symm)
    exact o1.trans (owns_goes hS g1 (by rw [g2]; exact hi1) hal 13) (same_goes g1 (by rw [g2]; exact hi1) hal 13).later (by rw [g2, noted_len]; exact Nat.le_refl _)
/-- What a write turns. -/
theorem owns_write (h : Sure e []) (hok : OkT N e []) (n key value : Int) : ∀ j, j < e.txs.length → ((e.write n key value).1.tx j).alive = true → ∀ K, (e.write n key value).1.owns j K = if (e.tx j).state = 0 ∧ n = (j : Int) + 1 ∧ (e.write n key value).2.2 = 0 ∧ K = key then some value else e.owns j K := by
  have hc := write_case hok n key value
  generalize e.write n key value = r at hc
  have hw : ∀ (i : Nat) (t : Tbl), i < e.txs.length → Owns e ((e.wanting i (key, value)).table t) ∨ True := fun _ _ _ => .inr trivial
  have howns0 : ∀ (i : Nat) (t : Tbl) j, j < e.txs.length → (e.tx i).state = 0 → ∀ K, ((e.wanting i (key, value)).table t).owns j K = e.owns j K := fun i t j hj hs K => by
    by_cases hji : j = i
    · subst hji
      have e1 : ((e.wanting j (key, value)).table t).tx j = { e.tx j with want := (key, value) } := by show (e.wanting j (key, value)).tx j = _; unfold Eng.wanting; rw [Eng.upd_self hj]
      unfold Eng.owns Tx.owns
      rw [e1]
      simp [hs]
    · have e1 : ((e.wanting i (key, value)).table t).tx j = e.tx j := by show (e.wanting i (key, value)).tx j = _; unfold Eng.wanting; rw [Eng.upd_ne (fun x => hji x.symm)]
      exact owns_congr (congrArg (·.state) e1) (congrArg (·.writes) e1) (congrArg (·.want) e1) K
  cases hc with
  | err x h0 => intro j hj ha K; rw [if_neg (fun c => h0 c.2.2.1)]
  | cycle i hn hi hs hk hv =>
    intro j hj ha K
    rw [if_neg (fun c => absurd (show (11 : Int) = 0 from c.2.2.1) (by decide))]
    have hai : (((e.wanting i (key, value)).table e.t).tx i).alive = true := (wanting_tx e i _ (·.alive) (fun _ _ => rfl) i).trans (state_alive hs)
    have h1 := h.wanting hok hs (key, value)
    have h2 : Sure ((e.wanting i (key, value)).table e.t) [] := h1.table (fun _ _ h => h) h1.wantk
    have hlen : ((e.wanting i (key, value)).table e.t).txs.length = e.txs.length := Eng.upd_len ..
    rw [owns_goes h2 (cycle_ok hok hi hk hv) (by rw [hlen]; exact hi) hai 11 j (by rw [hlen]; exact hj) ha K]
    exact howns0 i _ j hj hs K
  | waits i a hn hi hs hk hv hh ha =>
    intro j hj hal K
    by_cases hji : j = i
    · subst hji
      have hlen : ((e.wanting j (key, value)).table (waitT e.t ((j : Int) + 1) key)).txs.length = e.txs.length := Eng.upd_len ..
      have e1 : (((e.wanting j (key, value)).table (waitT e.t ((j : Int) + 1) key)).upd j fun x => { x with state := 1 }).tx j = { e.tx j with want := (key, value), state := 1 } := by
        rw [Eng.upd_self (by rw [hlen]; exact hi)]
        have : ((e.wanting j (key, value)).table (waitT e.t ((j : Int) + 1) key)).tx j = { e.tx j with want := (key, value) } := by show (e.wanting j (key, value)).tx j = _; unfold Eng.wanting; rw [Eng.upd_self hj]
        rw [this]
      unfold Eng.owns Tx.owns
      rw [e1]
      by_cases hK : K = key
      · simp [hK, hs, hn]
      · simp [hK, hs]
    · rw [if_neg (fun c => hji (by have := c.2.1; omega))]
      have e1 : (((e.wanting i (key, value)).table (waitT e.t ((i : Int) + 1) key)).upd i fun x => { x with state := 1 }).tx j = e.tx j := by
        rw [Eng.upd_ne (fun x => hji x.symm)]
        show (e.wanting i (key, value)).tx j = _; unfold Eng.wanting; rw [Eng.upd_ne (fun x => hji x.symm)]
      exact owns_congr (congrArg (·.state) e1) (congrArg (·.writes) e1) (congrArg (·.want) e1) K
  | puts i t' hn hi hs hk hv ht r hr =>
    intro j hj hal K
    have h1 := h.wanting hok hs (key, value)
    obtain ⟨p1, p2, p3⟩ := put_ok hok hi hs hk hv ht
    have h2 : Sure ((e.wanting i (key, value)).table t') [.put i (key, value)] := by
      have h3 : Sure ((e.wanting i (key, value)).table t') [] := by
        rcases ht with ⟨rfl, hh⟩ | ⟨rfl, hh⟩
        · refine h1.table (fun K x hx => ?_) h1.wantk
          show mget (mput e.t.hold key ((i : Int) + 1)) K = _
          rw [mget_put]
          split
          · rename_i hK; subst hK
            have hx' : mget e.t.hold K = some x := hx
            rw [hh] at hx'; cases hx'
          · exact hx
        · exact h1.table (fun _ _ h => h) h1.wantk
      refine ⟨h3.cnt, h3.rows, h3.lastc, h3.held, h3.newer, h3.apart, h3.wantk, by simp, fun i' w' hw' => ?_⟩
      simp only [List.mem_singleton] at hw'
      cases hw'
      refine ⟨?_, ?_⟩
      · show mget t'.hold key = _
        rcases ht with ⟨rfl, hh⟩ | ⟨rfl, hh⟩
        · show mget (mput e.t.hold key ((i : Int) + 1)) key = _
          rw [mget_put, if_pos rfl]
        · exact hh
      · show _ = ((e.wanting i (key, value)).tx i).want
        unfold Eng.wanting
        rw [Eng.upd_self hi]
    have hself : ((e.wanting i (key, value)).table t').tx i = { e.tx i with want := (key, value) } := by show (e.wanting i (key, value)).tx i = _; unfold Eng.wanting; rw [Eng.upd_self hi]
    have hE : Eff (fun j K => if j = i ∧ K = key then some value else e.owns j K) ((e.wanting i (key, value)).table t') [.put i (key, value)] := by
      have h0 := Eff.of ((e.wanting i (key, value)).table t')
      refine ⟨fun j K h4 => ?_, fun j K w h4 => ?_, fun j K h4 h5 => ?_⟩
      · have hji : j ≠ i := by rintro rfl; rw [hself] at h4; simp only at h4; omega
        simp only [hji, false_and, if_false]
        by_cases hjl : j < e.txs.length
        · rw [← h0.wait j K h4]; exact (howns0 i t' j hjl hs K).symm
        · rw [Eng.tx_far (by show ¬ j < (e.wanting i (key, value)).txs.length; rw [show (e.wanting i (key, value)).txs.length = e.txs.length from Eng.upd_len ..]; exact hjl)] at h4
          cases h4
      · simp only [List.mem_singleton] at h4
        cases h4
        rw [hself]
        simp only [Tx.owns, true_and]
        by_cases hK : K = key
        · simp [hK]
        · simp only [hK, if_false]
          unfold Eng.owns Tx.owns
          simp [hs]
      · have hji : j ≠ i := by rintro rfl; exact h5 _ (List.mem_singleton.2 rfl)
        simp only [hji, false_and, if_false]
        by_cases hjl : j < e.txs.length
        · rw [← howns0 i t' j hjl hs K, h0.open_ j K h4 (by simp)]
        · have e1 : e.tx j = .zero := Eng.tx_far hjl
          have e2 : ((e.wanting i (key, value)).table t').tx j = .zero := Eng.tx_far (by show ¬ j < (e.wanting i (key, value)).txs.length; rw [show (e.wanting i (key, value)).txs.length = e.txs.length from Eng.upd_len ..]; exact hjl)
          rw [e2]; unfold Eng.owns Tx.owns; rw [e1]; rfl
    have h6 := ((eff_rule _).putsE p1 ⟨h2, hE⟩).2
    have h7 := (putsG_ok (goesOk ((e.wanting i (key, value)).table t').open_) p1 (Nat.le_refl _)).1
    have hlen : (((e.wanting i (key, value)).table t').puts i (key, value)).txs.length = e.txs.length := by rw [puts_len]; exact Eng.upd_len ..
    rw [h6.owns h7 (by rw [← hlen] at hj; exact hj) hal K]
    by_cases hji : j = i
    · subst hji
      have hr2 : r.2 = 0 := by
        rw [if_neg] at hr
        · rw [hr]
        · intro h8
          rw [Tx.alive, h8] at hal
          simp at hal
      simp only [hs, hn, hr2, true_and]
    · rw [if_neg (fun c => hji c.1), if_neg (fun c => hji (by have := c.2.1; omega))]
theorem owns_commit (h : Sure e []) (hok : OkT N e []) (n : Int) : Owns e (e.commit n).1 := by
  by_cases h0 : e.ready n = 0
  · obtain ⟨i, rfl, hi, hs⟩ := ready_at h0
    rw [commit_eq e i h0]
    have hS := h.over2 hok hi (state_alive hs)
    have hE : Eff e.owns ((e.over2 i).lets i) (((e.over2 i).heirs i).map .hand) := by
      have h0 := Eff.of e
      have hself : (((e.over2 i).lets i).tx i).state = 2 := by rw [over2_tx, if_pos ⟨rfl, hi⟩]
      have hother : ∀ j, j ≠ i → ((e.over2 i).lets i).tx j = e.tx j := fun j hj => by rw [over2_tx, if_neg (fun x => hj x.1.symm)]
      refine ⟨fun j K h1 => ?_, fun j K w h1 => ?_, fun j K h1 h2 => ?_⟩
      · by_cases hji : j = i
        · subst hji; omega
        · rw [hother j hji] at h1 ⊢; exact h0.wait j K h1
      · obtain ⟨_, _, h2⟩ := List.mem_map.1 h1; cases h2
      · by_cases hji : j = i
        · subst hji; omega
        · rw [hother j hji] at h1 ⊢; exact h0.open_ j K h1 (by simp)
    have h3 := ((eff_rule e.owns).frees hok hi (state_alive hs) ⟨hS, hE⟩).2
    intro j hj hal K
    exact h3.owns (frees_kept hok hi (state_alive hs)) (by rw [frees_len, ← over2_len e i] at *; exact hj) hal K
  · unfold Eng.commit
    rw [if_pos h0]
    simp only
    split
    · rename_i h13
      obtain ⟨i, rfl, hi, hs⟩ := ready_13 h13
      have hi2 : ((i : Int) + 1).toNat - 1 = i := by omega
      rw [hi2]
      exact owns_goes h hok hi (state_alive hs) 13
    · exact fun _ _ _ _ => rfl
theorem owns_abort (h : Sure e []) (hok : OkT N e []) (n : Int) : Owns e (e.abort n).1 := by
  rcases abort_case e n with ⟨x, _, hx⟩ | ⟨i, rfl, hi, hs, hx⟩
  · rw [hx]; exact fun _ _ _ _ => rfl
  · rw [hx]; exact owns_goes h hok hi (by simp [Tx.alive]; omega) 0
end
end Go.Proofs.YtaghjcdlghcjeaaGreatDoor
