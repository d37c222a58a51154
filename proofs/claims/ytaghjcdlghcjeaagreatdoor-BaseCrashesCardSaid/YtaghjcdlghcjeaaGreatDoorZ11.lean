/- The program's engine: Read. -/
import Derived.Test.YtaghjcdlghcjeaaGreatDoorZ10
import Derived.Test.YtaghjcdlghcjeaaGreatDoorZ5
import Derived.Test.YtaghjcdlghcjeaaGreatDoorZ8
import Derived.Test.YtaghjcdlghcjeaaGreatDoorZ9
import Derived.Test.YtaghjcdlghcjeaaGreatDoorZ2
import Derived.Deep.DeepCutAuto
import Derived.Deep.CutBlock
/- Transactions at the same time: who is not gone has no reason to be, and no two things happen at one step, whatever is asked. No walk in sight. -/
namespace Go.Proofs.YtaghjcdlghcjeaaGreatDoor
open Go Go.RowKit Go.Sep
section
variable {e e' : Eng} {i j : Nat} {N : Nat} {T U : List Task}

/-- Who is not gone has no reason to be. -/
def Whys (e : Eng) : Prop := ∀ j, j < e.txs.length → (e.tx j).state ≠ 3 → (e.tx j).why = 0
theorem Whys.start : Whys Eng.zero := fun j h => by simp [Eng.zero] at h
theorem Whys.same (h : Whys e) (ht : e'.txs = e.txs) : Whys e' := by
  intro j hj hs
  unfold Eng.tx at hs ⊢
  rw [ht] at hj hs ⊢
  exact h j hj hs
theorem Whys.upd {f : Tx → Tx} (h : Whys e) (hf : i < e.txs.length → (f (e.tx i)).state ≠ 3 → (f (e.tx i)).why = 0) : Whys (e.upd i f) := by
  intro j hj hs
  rw [Eng.upd_len] at hj
  rw [Eng.upd_tx] at hs ⊢
  split at hs
  · rename_i hc
    obtain ⟨rfl, h2⟩ := hc
    rw [if_pos ⟨rfl, h2⟩]
    exact hf h2 hs
  · rename_i hc
    rw [if_neg hc]
    exact h j hj hs
theorem Whys.note (h : Whys e) (a b : Nat) : Whys (e.note a b) := by
  intro j hj hs
  rw [Eng.note_len] at hj
  rw [Eng.note_state] at hs
  rw [Eng.note_keep (·.why) (fun _ _ => rfl) (fun _ _ => rfl)]
  exact h j hj hs
theorem Whys.left (h : Whys e) (i : Nat) (why : Int) : Whys (e.left i why) := by
  intro j hj hs
  rw [left_tx] at hs ⊢
  have hj2 : j < e.txs.length := by rw [← Eng.mark_len e i why]; exact hj
  split at hs
  · exact absurd rfl hs
  · rename_i hc; rw [if_neg hc]; exact h j hj2 hs
theorem why_rule : Rule fun e _ => Whys e where
  hand N e w T h p := p.upd fun hi _ => by
    have h1 := h.hand_lt.2.2.1
    exact p _ hi (by omega)
  late N e i w T h hl p := p.left i 10
  put N e i w T h hl h2 p := p.upd fun hi hs => p _ hi hs
  puts N e i w T h hl h2 p := p.upd fun hi hs => p _ hi hs
  asked N e i key T h p := p
  skip N e i j key l T h hs p := p
  note N e i j key l T h hs hb p := p.note _ _
  wrong N e i j key l T h hs hb p := (p.note _ _).left i 13
theorem Whys.goes (p : Whys e) (h : OkT N e []) (hi : i < e.txs.length) (ha : (e.tx i).alive = true) (why : Int) : Whys (e.goes i why) := why_rule.goes h hi ha why (p.left i why)
theorem nowait2 (i : Nat) : Rule fun e _ => (e.tx i).state ≠ 1 where
  hand N e w T h p := by
    unfold Eng.opens; rw [Eng.upd_tx]; split
    · simp
    · exact p
  late N e j w T h hl p := by
    rw [left_tx]; split
    · simp
    · exact p
  put N e j w T h hl h2 p := by
    rw [wput_tx]; split
    · exact p
    · exact p
  puts N e j w T h hl h2 p := by
    rw [wput_tx]; split
    · exact p
    · exact p
  asked N e j key T h p := p
  skip N e j k key l T h hs p := p
  note N e j k key l T h hs hb p := by rw [Eng.note_state]; exact p
  wrong N e j k key l T h hs hb p := by
    rw [left_tx]; split
    · simp
    · rw [Eng.note_state]; exact p
/-- Who wrote is open, or gone. -/
theorem puts_open (h : OkT N e []) (hi : i < e.txs.length) (hs : (e.tx i).state = 0) {w : Int × Int} (hk : keyOk w.1) (hv : valOk w.2) : ((e.puts i w).tx i).state = 0 ∨ ((e.puts i w).tx i).state = 3 := by
  have p1 := h.to_put hi hs hk hv
  have h1 : ((e.puts i w).tx i).state ≠ 1 := (nowait2 i).putsE p1 (by omega)
  have h2 := (h.puts hi hs hk hv).at (i := i) (by rw [puts_len]; exact hi)
  rcases (same_puts p1).live i (state_alive hs) with ha | ha
  · rcases h2.alive_cases ha with h3 | h3
    · exact .inl h3
    · exact absurd h3 h1
  · exact .inr ha.1
theorem Whys.puts (p : Whys e) (h : OkT N e []) (hi : i < e.txs.length) (hs : (e.tx i).state = 0) {w : Int × Int} (hk : keyOk w.1) (hv : valOk w.2) : Whys (e.puts i w) := why_rule.putsE (h.to_put hi hs hk hv) p

/-! ### Whatever is asked -/
theorem Whys.begun (p : Whys e) (level : Int) : Whys (e.begin_ level).1 := by
  unfold Eng.begin_
  split
  · exact p
  split
  · exact p
  split
  · exact p
  intro j hj hs
  simp only [List.length_append, List.length_singleton] at hj
  unfold Eng.tx at hs ⊢
  simp only at hs ⊢
  by_cases hlt : j < e.txs.length
  · rw [List.getElem?_append_left hlt] at hs ⊢
    exact p j hlt hs
  · obtain rfl : j = e.txs.length := by omega
    simp [Tx.zero]
theorem Whys.red (p : Whys e) (h : OkT N e []) (n key : Int) : Whys (e.read n key).1 := by
  have hc := read_case e n key
  generalize e.read n key = r at *
  cases hc with
  | err => exact p
  | own => exact p
  | plain i hn hi => exact p.upd fun hi hs => p _ hi hs
  | seen i hn hi => exact sees_keep (P := Whys) (fun e a b h => h.note a b) (p.upd fun hi hs => p _ hi hs)
  | gone i hn hi hs hv hk hl hr =>
    have p1 : Whys (e.noted i key) := p.upd fun hi hs => p _ hi hs
    have p2 := sees_keep (P := Whys) (fun e a b h => h.note a b) (i := i) (key := key) p1
    have h1 := h.noted1 hi key
    have hi1 : i < (e.noted i key).txs.length := by unfold Eng.noted; rw [Eng.upd_len]; exact hi
    obtain ⟨g1, g2, g3, _⟩ := sees_ok h1 hi1 key
    have hs1 : ((e.noted i key).tx i).state = 0 := (Eng.upd_keep (·.state) (fun x => { x with reads := x.reads ++ [(key, (mget e.wr (((readV (e.row key) (e.asOf i)).map (·.1)).getD 0)).getD 0)] }) (fun _ => rfl) i).trans hs
    exact p2.goes g1 (by omega) (state_alive (by rw [g3, hs1])) 13
theorem Whys.wrote (p : Whys e) (h : OkT N e []) (n key value : Int) : Whys (e.write n key value).1 := by
  have hc := write_case h n key value
  generalize e.write n key value = r at *
  cases hc with
  | err => exact p
  | cycle i hn hi hs hk hv =>
    have p1 : Whys ((e.wanting i (key, value)).table e.t) := Whys.same (Whys.upd (e := e) (i := i) (f := fun x => { x with want := (key, value) }) p fun hi hs => p _ hi hs) rfl
    have h1 := cycle_ok h hi hk hv
    exact p1.goes h1 (by show i < (e.upd i _).txs.length; rw [Eng.upd_len]; exact hi) (state_alive ((Eng.upd_keep (·.state) (fun x => { x with want := (key, value) }) (fun _ => rfl) i).trans hs)) 11
  | waits i a hn hi hs hk hv hh ha =>
    have p1 : Whys ((e.wanting i (key, value)).table (waitT e.t ((i : Int) + 1) key)) := Whys.same (Whys.upd (e := e) (i := i) (f := fun x => { x with want := (key, value) }) p fun hi hs => p _ hi hs) rfl
    refine p1.upd fun hi1 _ => ?_
    have hs2 : (((e.wanting i (key, value)).table (waitT e.t ((i : Int) + 1) key)).tx i).state = 0 := (Eng.upd_keep (·.state) (fun x => { x with want := (key, value) }) (fun _ => rfl) i).trans hs
    exact p1 i hi1 (by rw [hs2]; decide)
  | puts i t' hn hi hs hk hv ht r hr =>
    have p1 : Whys ((e.wanting i (key, value)).table t') := Whys.same (Whys.upd (e := e) (i := i) (f := fun x => { x with want := (key, value) }) p fun hi hs => p _ hi hs) rfl
    obtain ⟨g1, g2, g3⟩ := put_ok h hi hs hk hv ht
    exact why_rule.putsE g1 p1
theorem Whys.over2 (p : Whys e) (_hi : i < e.txs.length) (hs : (e.tx i).state = 0) : Whys (e.over2 i) := by
  have h1 : Whys (e.upd i fun x => { x with state := 2, ended := e.count + 1 }) := p.upd fun hi _ => p i hi (by rw [hs]; decide)
  refine h1.same ?_
  show ((e.told i).upd i (fun x => { x with state := 2, ended := e.count + 1 })).txs = _
  unfold Eng.upd
  rw [(told_txs e i).1]
theorem Whys.committed (p : Whys e) (h : OkT N e []) (n : Int) : Whys (e.commit n).1 := by
  by_cases h0 : e.ready n = 0
  · obtain ⟨i, rfl, hi, hs⟩ := ready_at h0
    rw [commit_eq e i h0]
    exact why_rule.frees h hi (state_alive hs) ((p.over2 hi hs).same rfl)
  · unfold Eng.commit
    rw [if_pos h0]
    simp only
    split
    · rename_i h13
      obtain ⟨i, rfl, hi, hs⟩ := ready_13 h13
      rw [show ((i : Int) + 1).toNat - 1 = i by omega]
      exact p.goes h hi (state_alive hs) 13
    · exact p
theorem Whys.aborted (p : Whys e) (h : OkT N e []) (n : Int) : Whys (e.abort n).1 := by
  unfold Eng.abort
  split
  · exact p
  · rename_i hx
    obtain ⟨i, rfl, hi, _⟩ := err_num (Decidable.not_not.1 hx)
    rw [show ((i : Int) + 1).toNat - 1 = i by omega]
    split
    · exact p
    · rename_i hs
      exact p.goes h hi (by simp only [Tx.alive, decide_eq_true_eq]; omega) 0

/-! ### Times -/
theorem Times.same (h : Times e) (ht : e'.txs = e.txs) (hc : e'.count = e.count) : Times e' := by
  have hx : ∀ j, e'.tx j = e.tx j := fun j => by unfold Eng.tx; rw [ht]
  refine ⟨fun j hj => ?_, fun j hj => ?_, fun i j hi hj hs => ?_⟩
  · rw [hx, hc]; exact h.begun j (by rw [← ht]; exact hj)
  · rw [hx, hc]; exact h.ended j (by rw [← ht]; exact hj)
  · rw [hx] at hs ⊢; rw [hx]; exact h.apart i j (by rw [← ht]; exact hi) (by rw [← ht]; exact hj) hs
theorem Times.begin_ (h : Times e) (h0 : 0 ≤ e.count) (level : Int) : Times (e.begin_ level).1 := by
  unfold Eng.begin_
  split
  · exact h
  split
  · exact h
  split
  · exact h
  have hx : ∀ j, j < e.txs.length → ∀ x c, ({ e with count := c, txs := e.txs ++ [x] } : Eng).tx j = e.tx j := fun j hj x c => by
    unfold Eng.tx; simp only; rw [List.getElem?_append_left hj]
  have hn : ∀ x c, ({ e with count := c, txs := e.txs ++ [x] } : Eng).tx e.txs.length = x := fun x c => by unfold Eng.tx; simp
  refine ⟨fun j hj => ?_, fun j hj => ?_, fun i j hi hj hs => ?_⟩
  · simp only [List.length_append, List.length_singleton] at hj
    by_cases hlt : j < e.txs.length
    · rw [hx j hlt]; have := h.begun j hlt; show _ ≤ e.count + 1; omega
    · obtain rfl : j = e.txs.length := by omega
      rw [hn]; exact Int.le_refl _
  · simp only [List.length_append, List.length_singleton] at hj
    by_cases hlt : j < e.txs.length
    · rw [hx j hlt]; have := h.ended j hlt; show _ ≤ e.count + 1; omega
    · obtain rfl : j = e.txs.length := by omega
      rw [hn]
      show (0 : Int) ≤ e.count + 1
      omega
  · simp only [List.length_append, List.length_singleton] at hi hj
    by_cases hli : i < e.txs.length
    · rw [hx i hli] at hs ⊢
      by_cases hlt : j < e.txs.length
      · rw [hx j hlt]; exact h.apart i j hli hlt hs
      · obtain rfl : j = e.txs.length := by omega
        rw [hn]
        have := h.ended i hli
        show (e.tx i).ended ≠ e.count + 1
        omega
    · obtain rfl : i = e.txs.length := by omega
      rw [hn] at hs
      exact absurd hs (by simp [Tx.zero])
theorem Times.goes (h : Times e) (i : Nat) (why : Int) : Times (e.goes i why) := Times.goesN _ e i why h
theorem Times.puts (h : Times e) (i : Nat) (w : Int × Int) : Times (e.puts i w) := Times.putsG (fun e i why h => Times.goesN _ e i why h) h i w
theorem Times.red (p : Times e) (n key : Int) : Times (e.read n key).1 := by
  have hc := read_case e n key
  generalize e.read n key = r at *
  cases hc with
  | err => exact p
  | own => exact p
  | plain i hn hi => exact p.upd rfl rfl id
  | seen i hn hi => exact sees_keep (P := Times) (fun e a b h => h.note a b) (p.upd rfl rfl id)
  | gone i hn hi hs hv hk hl hr =>
    exact (sees_keep (P := Times) (fun e a b h => h.note a b) (i := i) (key := key) (e := e.noted i key) (p.upd rfl rfl id)).goes i 13
theorem Times.wrote (p : Times e) (h : OkT N e []) (n key value : Int) : Times (e.write n key value).1 := by
  have hc := write_case h n key value
  have p1 : ∀ (i : Nat) (t' : Tbl), Times ((e.wanting i (key, value)).table t') := fun i t' => Times.same (Times.upd (e := e) (i := i) (f := fun x => { x with want := (key, value) }) p rfl rfl id) rfl rfl
  generalize e.write n key value = r at *
  cases hc with
  | err => exact p
  | cycle i hn hi hs hk hv => exact (p1 i _).goes i 11
  | waits i a hn hi hs hk hv hh ha => exact (p1 i _).upd rfl rfl (by simp)
  | puts i t' hn hi hs hk hv ht r hr => exact (p1 i t').puts i _
theorem Times.over2 (p : Times e) : Times (e.over2 i) := by
  have h1 : Times { e.upd i (fun x => { x with state := 2, ended := e.count + 1 }) with count := e.count + 1 } := p.over rfl rfl
  refine h1.same ?_ rfl
  show ((e.told i).upd i (fun x => { x with state := 2, ended := e.count + 1 })).txs = _
  unfold Eng.upd
  rw [(told_txs e i).1]
theorem Times.committed (p : Times e) (n : Int) : Times (e.commit n).1 := by
  by_cases h0 : e.ready n = 0
  · obtain ⟨i, rfl, hi, hs⟩ := ready_at h0
    rw [commit_eq e i h0]
    unfold Eng.frees freesG
    exact Times.freesL (fun e i why h => Times.goesN _ e i why h) _ _ (p.over2.lets i)
  · unfold Eng.commit
    rw [if_pos h0]
    simp only
    split
    · exact p.goes _ 13
    · exact p
theorem Times.aborted (p : Times e) (n : Int) : Times (e.abort n).1 := by
  unfold Eng.abort
  split
  · exact p
  · split
    · exact p
    · exact p.goes _ 0
end
end Go.Proofs.YtaghjcdlghcjeaaGreatDoor
/- The plain engine over values that there are. No walk in sight. -/
namespace Go.Proofs.YtaghjcdlghcjeaaGreatDoor
open Go Go.RowKit Go.Sep

/-- An engine over values that there are, as of a time. -/
def Eng.over (at_ : Int) (l : Vers) : Eng := if instOk 0 at_ l then { Eng.zero with V := putAll at_ (List.replicate 10 []) l, last := at_ } else Eng.zero
theorem instOk_at {at_ : Int} {l : Vers} (h : instOk 0 at_ l = true) : 0 < at_ ∧ at_ ≤ 1099511627776 := by
  unfold instOk at h
  rw [Bool.and_eq_true, decide_eq_true_eq] at h
  exact h.1
theorem instOk_nil : instOk 0 0 [] = false := by decide
theorem OkT.over (at_ : Int) (l : Vers) : OkT 10 (Eng.over at_ l) [] := by
  unfold Eng.over
  by_cases h : instOk 0 at_ l = true
  · rw [if_pos h]
    have h0 := OkT.start
    have h1 := instOk_at h
    refine ⟨h0.few, by show (putAll at_ (List.replicate 10 []) l).length = 10; rw [putAll_length]; rfl, h0.txs, h0.wr, h0.tab.imp fun Q hQ => ⟨hQ.tab, hQ.rk, hQ.hold, hQ.key, hQ.alive, hQ.waits⟩, h0.all, h0.six, h0.cnt, fun vs hv => ?_, h0.wrs, ⟨by show 0 ≤ at_; omega, h1.2⟩, h0.hist, h0.reads, h0.fits, by simp, by simp⟩
    have h2 := putAll_row (n := 0) (at_ := at_) l (V := List.replicate 10 []) (fun vs hv => .inl (by rw [(List.mem_replicate.1 hv).2]; exact Nat.le_refl _)) vs hv
    show (vs.length : Int) ≤ 0 + 1
    rcases h2 with h2 | h2
    · omega
    · omega
  · rw [if_neg h]; exact OkT.start
theorem Times.overs (at_ : Int) (l : Vers) : Times (Eng.over at_ l) := by
  unfold Eng.over
  split
  · exact Times.start.same rfl rfl
  · exact Times.start
theorem Whys.overs (at_ : Int) (l : Vers) : Whys (Eng.over at_ l) := by
  unfold Eng.over
  split
  · exact Whys.start.same rfl
  · exact Whys.start
theorem instErr_nil {at_ : Int} {l : Vers} (h : instOk 0 at_ l = true) : instErr 0 at_ l = .nil := by
  unfold instOk at h
  rw [Bool.and_eq_true, decide_eq_true_eq, Option.isNone_iff_eq_none] at h
  unfold instErr
  rw [if_pos h.1, h.2]
theorem badAt_ne : ∀ {l : Vers} {m : Nat} {x p : Int}, badAt m l = some (x, p) → x ≠ 0
  | [], _, _, _, h => by simp [badAt] at h
  | q :: l, m, x, p, h => by
    unfold badAt at h
    split at h
    · simp only [Option.some.injEq, Prod.mk.injEq] at h; omega
    · split at h
      · simp only [Option.some.injEq, Prod.mk.injEq] at h; omega
      · exact badAt_ne h
theorem instErr_some {at_ : Int} {l : Vers} (h : ¬ instOk 0 at_ l = true) : Err.errno (instErr 0 at_ l) ≠ 0 := by
  unfold instErr
  split
  · rename_i hc
    cases hb : badAt 0 l with
    | none => exact absurd (by unfold instOk; simp [hc, hb]) h
    | some q => obtain ⟨x, p⟩ := q; exact badAt_ne hb
  · decide
end Go.Proofs.YtaghjcdlghcjeaaGreatDoor
/- The program's engine over values that there are: Over. -/
namespace Go.Proofs.YtaghjcdlghcjeaaGreatDoor
open Go Go.RowKit Go.Sep
section
variable {w w0 : World} {L : List HProp} {b : Nat} {k : EngV}
/-- What an engine over values is in memory. -/
theorem eng_over (at_ : Int) (l : Vers) (h : S w0 w (storeP 84 b 0 (if instOk 0 at_ l then putAll at_ (List.replicate 10 []) l else List.replicate 10 []) (if instOk 0 at_ l then at_ else 0) :: tabP 3 b 11 Eng.zero.t :: engO b [] k Eng.zero :: L)) : S w0 w (engP b [] (Eng.over at_ l) :: L) := by
  have e0 : (Eng.over at_ l).V = if instOk 0 at_ l then putAll at_ (List.replicate 10 []) l else List.replicate 10 [] := by unfold Eng.over; split <;> rfl
  have e1 : (Eng.over at_ l).last = if instOk 0 at_ l then at_ else 0 := by unfold Eng.over; split <;> rfl
  have e2 : (Eng.over at_ l).t = Eng.zero.t := by unfold Eng.over; split <;> rfl
  have e4 : engO b [] k (Eng.over at_ l) = engO b [] k Eng.zero := by unfold Eng.over; split <;> rfl
  refine S.eng_shut (k := k) ?_
  rw [e0, e1, e2, e4]
  exact h
end
set_option maxRecDepth 40000 in
theorem eover_zero (w0 w : World) (a : Option Addr) (c : Nat) (L : List HProp) (hs : S w0 w L) :
    Calls Tryz.prog 22 #[.int .i64 0, .slice a 0 c] w fun r w' => ∃ b, r = .returned (.tuple #[.pointer (some ⟨b, 0, none⟩), .nilIface]) ∧ S w0 w' (engP b [] (Eng.over 0 []) :: L) := by
  have HS := hid hs
  have he : Eng.over 0 [] = Eng.zero := by unfold Eng.over; rw [instOk_nil]; rfl
  rw [he]
  clear hs he
  go_enter Tryz.func22, Tryz.ntmps22
  go_wp2_with fail
  with_reducible refine (new_any w0 w L HS.out).mono ?_
  rintro r w1 ⟨rfl, hs1⟩
  have H1 := hid hs1
  clear hs1 HS
  go_wp2_with fail
  go_ret2
  exact ⟨_, rfl, H1.out⟩
set_option maxRecDepth 40000 in
theorem eover_ok (w0 w : World) (at_ : Int) (a : Option Addr) (c : Nat) (l : Vers) (L : List HProp) (hs : S w0 w L) (hr : ∀ M, RdK w0 M (.slice a l.length c) l.length (pcells l)) (hk : instOk 0 at_ l = true) (hl : l.length ≤ 1000) :
    Calls Tryz.prog 22 #[.int .i64 at_, .slice a l.length c] w fun r w' => ∃ b, r = .returned (.tuple #[.pointer (some ⟨b, 0, none⟩), .nilIface]) ∧ S w0 w' (engP b [] (Eng.over at_ l) :: L) := by
  have hat := instOk_at hk
  have HS := hid hs; have HR := hid hr; have he := hid (instErr_nil hk)
  have hb0 : (at_ == 0) = false := by simp; omega
  clear hs hr hk hat
  go_enter Tryz.func22, Tryz.ntmps22
  go_wp2_with fail
  with_reducible refine (new_any w0 w L HS.out).mono ?_
  rintro r w1 ⟨rfl, hs1⟩
  generalize w.heap.size + 1 = b at *
  obtain ⟨k, hs2⟩ := hs1.eng_open
  have hcall := install2 w0 w1 b 0 Eng.zero.V Eng.zero.last at_ (.slice a l.length c) l _ 0 hs2 (HR.out _) (fun vs hv => by rw [(List.mem_replicate.1 hv).2]; exact Nat.le_refl _) (by omega)
  have HC := hid hcall
  clear hs1 hs2 hcall HS
  go_wp2_with fail
  with_reducible refine HC.out.mono ?_
  rintro r w2 ⟨u, rfl, hs3⟩
  rw [show instErr Eng.zero.last at_ l = .nil from he.out] at hs3
  obtain ⟨rfl, hs4⟩ := S.pur_elim hs3
  have H4 := hid (eng_over at_ l hs4)
  clear hs3 hs4 HC
  go_wp2_with fail
  go_ret2
  exact ⟨_, rfl, H4.out⟩
set_option maxRecDepth 40000 in
theorem eover_no (w0 w : World) (at_ : Int) (a : Option Addr) (c : Nat) (l : Vers) (L : List HProp) (hs : S w0 w L) (hr : ∀ M, RdK w0 M (.slice a l.length c) l.length (pcells l)) (h0 : ¬ (at_ = 0 ∧ l = [])) (hk : ¬ instOk 0 at_ l = true) (hl : l.length ≤ 1000) :
    Calls Tryz.prog 22 #[.int .i64 at_, .slice a l.length c] w fun r w' => ∃ u, r = .returned (.tuple #[.pointer none, u]) ∧ S w0 w' (errP 56 107 105 u (instErr 0 at_ l) :: L) := by
  have hne := instErr_some hk
  have HS := hid hs; have HR := hid hr; have HNE := hid hne
  have hE : (¬ at_ = 0) ∨ (at_ = 0 ∧ l.length ≠ 0) := by
    by_cases h : at_ = 0
    · exact .inr ⟨h, fun hl => h0 ⟨h, List.length_eq_zero_iff.1 hl⟩⟩
    · exact .inl h
  have hu : ∀ (W : World) (M : List HProp) u, S w0 W (errP 56 107 105 u (instErr 0 at_ l) :: M) → ∃ T x, u = .iface T x := fun W M u h => by
    generalize instErr 0 at_ l = er at h hne
    cases er with
    | nil => exact absurd rfl hne
    | no e => exact ⟨_, _, (S.pur_elim h).1⟩
    | at_ e p =>
      obtain ⟨g, h⟩ := h.ex_elim
      exact ⟨_, _, h.sep_elim.pur_elim.1⟩
  have HE := hid hE; have HU := hid hu
  clear hs hr hk h0 hne hE hu
  rcases HE.out with ha | ⟨ha, hl0⟩
  · have hb0 : (at_ == 0) = false := by simpa using ha
    clear ha HE
    go_enter Tryz.func22, Tryz.ntmps22
    go_wp2_with fail
    with_reducible refine (new_any w0 w L HS.out).mono ?_
    rintro r w1 ⟨rfl, hs1⟩
    generalize w.heap.size + 1 = b at *
    obtain ⟨k, hs2⟩ := hs1.eng_open
    have hcall := install2 w0 w1 b 0 Eng.zero.V Eng.zero.last at_ (.slice a l.length c) l _ 0 hs2 (HR.out _) (fun vs hv => by rw [(List.mem_replicate.1 hv).2]; exact Nat.le_refl _) (by omega)
    have HC := hid hcall
    clear hs1 hs2 hcall HS
    go_wp2_with fail
    with_reducible refine HC.out.mono ?_
    rintro r w2 ⟨u, rfl, hs3⟩
    obtain ⟨T, x, rfl⟩ := HU.out _ _ _ hs3
    have H4 := hid (hs3.conv (M := storeP 84 b 0 (if instOk Eng.zero.last at_ l then putAll at_ Eng.zero.V l else Eng.zero.V) (if instOk Eng.zero.last at_ l then at_ else Eng.zero.last) :: tabP 3 b 11 Eng.zero.t :: engO b [] k Eng.zero :: errP 56 107 105 (.iface T x) (instErr Eng.zero.last at_ l) :: L) (by simp only [all]; ac_rfl)).tail.tail.tail
    clear hs3 HC
    go_wp2_with fail
    go_ret2
    exact ⟨_, rfl, H4.out⟩
  · have hb0 : ((l.length : Int) == 0) = false := by simpa using hl0
    subst ha
    clear hl0 HE
    go_enter Tryz.func22, Tryz.ntmps22
    go_wp2_with fail
    with_reducible refine (new_any w0 w L HS.out).mono ?_
    rintro r w1 ⟨rfl, hs1⟩
    generalize w.heap.size + 1 = b at *
    obtain ⟨k, hs2⟩ := hs1.eng_open
    have hcall := install2 w0 w1 b 0 Eng.zero.V Eng.zero.last 0 (.slice a l.length c) l _ 0 hs2 (HR.out _) (fun vs hv => by rw [(List.mem_replicate.1 hv).2]; exact Nat.le_refl _) (by omega)
    have HC := hid hcall
    clear hs1 hs2 hcall HS
    go_wp2_with fail
    with_reducible refine HC.out.mono ?_
    rintro r w2 ⟨u, rfl, hs3⟩
    obtain ⟨T, x, rfl⟩ := HU.out _ _ _ hs3
    have H4 := hid (hs3.conv (M := storeP 84 b 0 (if instOk Eng.zero.last 0 l then putAll 0 Eng.zero.V l else Eng.zero.V) (if instOk Eng.zero.last 0 l then 0 else Eng.zero.last) :: tabP 3 b 11 Eng.zero.t :: engO b [] k Eng.zero :: errP 56 107 105 (.iface T x) (instErr Eng.zero.last 0 l) :: L) (by simp only [all]; ac_rfl)).tail.tail.tail
    clear hs3 HC
    go_wp2_with fail
    go_ret2
    exact ⟨_, rfl, H4.out⟩
end Go.Proofs.YtaghjcdlghcjeaaGreatDoor
namespace Go.Proofs.YtaghjcdlghcjeaaGreatDoor
open Go Go.RowKit Go.Sep
section
variable {w w0 : World} {L : List HProp} {b : Nat} {bs : List Nat} {k : EngV} {e : Eng} {i : Nat}
/-- A transaction's reads, taken out. -/
def rdX (b : Nat) (bs : List Nat) (k : EngV) (e : Eng) (i : Nat) : HProp :=
  sep (blk (blkOf bs i) 80 (txF (k.v i) (e.tx i))) (sep (mp encI (fun _ => True) (k.v i).mb (ienc (e.tx i).writes)) (sep (sl 77 1 (k.v i).fv (e.tx i).fore.length (ptrs bs (e.tx i).fore)) (sep (sl 77 1 (k.v i).av (e.tx i).aft.length (ptrs bs (e.tx i).aft)) (engX b bs k e i))))
theorem _root_.Go.Sep.S.rd_open (h : S w0 w (engO b bs k e :: L)) (hi : i < e.txs.length) : S w0 w (sl 89 2 (k.v i).rv (e.tx i).reads.length (pcells (e.tx i).reads) :: rdX b bs k e i :: L) := by
  refine (h.eng_tx hi).conv ?_
  simp only [all, rdX]
  rw [txK_parts]
  ac_rfl
theorem _root_.Go.Sep.S.rd_see (h : S w0 w (rdX b bs k e i :: L)) : w.cell? ⟨blkOf bs i, 5, none⟩ = some (k.v i).rv ∧ w.frozen? ⟨blkOf bs i, 5, none⟩ = false ∧ w.cell? ⟨b, 16, none⟩ = some (.map (some k.wb)) ∧ MapAt encI (fun _ => True) w k.wb (ienc e.wr) := by
  have h1 : S w0 w (blk (blkOf bs i) 80 (txF (k.v i) (e.tx i)) :: engX b bs k e i :: mp encI (fun _ => True) (k.v i).mb (ienc (e.tx i).writes) :: sl 77 1 (k.v i).fv (e.tx i).fore.length (ptrs bs (e.tx i).fore) :: sl 77 1 (k.v i).av (e.tx i).aft.length (ptrs bs (e.tx i).aft) :: L) :=
    h.conv (by simp only [all, rdX]; ac_rfl)
  obtain ⟨_, h2⟩ := h1.swap.sep_elim.pur_elim
  obtain ⟨_, h3, _, h5, _⟩ := h2.engG_see
  exact ⟨h1.blk_cell 5 rfl, h1.blk_free 5, (h3 2 _ rfl).1, h5⟩
theorem _root_.Go.Sep.S.rd_close {v' : Value} {r : Int × Int} (hi : i < e.txs.length) (h : S w0 w (sl 89 2 v' ((e.tx i).reads.length + 1) (pcells (e.tx i).reads ++ pcells [r]) :: rdX b bs k e i :: L)) :
    ∃ k', k'.txv = k.txv ∧ S w0 (w.setCell ⟨blkOf bs i, 5, none⟩ v') (engO b bs k' (e.upd i fun x => { x with reads := x.reads ++ [r] }) :: L) := by
  let x : Tx := { e.tx i with reads := (e.tx i).reads ++ [r] }
  let v : TxV := { k.v i with rv := v' }
  have h1 : S w0 w (blk (blkOf bs i) 80 (txF (k.v i) (e.tx i)) :: sl 89 2 v' ((e.tx i).reads.length + 1) (pcells (e.tx i).reads ++ pcells [r]) :: mp encI (fun _ => True) (k.v i).mb (ienc (e.tx i).writes) :: sl 77 1 (k.v i).fv (e.tx i).fore.length (ptrs bs (e.tx i).fore) :: sl 77 1 (k.v i).av (e.tx i).aft.length (ptrs bs (e.tx i).aft) :: engX b bs k e i :: L) :=
    h.conv (by simp only [all, rdX]; ac_rfl)
  have h2 := h1.blk_set 5 (by simp [txF]) v'
  have h3 : S w0 (w.setCell ⟨blkOf bs i, 5, none⟩ v') (txK bs (blkOf bs i) v x :: engX b bs k e i :: L) := by
    refine h2.conv ?_
    rw [txK_parts]
    have e1 : (txF (k.v i) (e.tx i)).set 5 v' = txF v x := rfl
    have e2 : pcells (e.tx i).reads ++ pcells [r] = pcells x.reads := by simp [x, pcells]
    have e3 : (e.tx i).reads.length + 1 = x.reads.length := by simp [x]
    rw [e1, e2, e3]
    simp only [all]
    show _ = sep (sep _ (sep (sl _ 2 v' _ _) (sep (mp encI (fun _ => True) (k.v i).mb (ienc (e.tx i).writes)) (sep (sl _ 1 (k.v i).fv (e.tx i).fore.length (ptrs bs (e.tx i).fore)) (sl _ 1 (k.v i).av (e.tx i).aft.length (ptrs bs (e.tx i).aft)))))) _
    ac_rfl
  have h4 := h3.eng_back hi
  refine ⟨k.set i v, rfl, ?_⟩
  have e4 : (e.upd i fun x => { x with reads := x.reads ++ [r] }) = { e with txs := e.txs.set i x } := by
    have := Eng.upd_set hi fun x => { x with reads := x.reads ++ [r] }
    show ({ e with txs := _ } : Eng) = _
    rw [show e.txs.modify i (fun x => { x with reads := x.reads ++ [r] }) = e.txs.set i x from this]
  rw [e4]
  exact h4
/-- .. and what the store told. -/
def rdV (b : Nat) (bs : List Nat) (k : EngV) (e : Eng) (i vb : Nat) (a v : Int) : HProp := sep (rdX b bs k e i) (blk vb 84 [.int .i64 a, .int .i64 v])
end
theorem Tryz.info89 : (Tryz.prog.info? 89).map (fun i => (i.zero, i.size, i.bytes)) = some (some (.agg #[.int .i64 0, .int .i64 0]), 2, 16) := by kernel_rfl
theorem one_pair (p : Int × Int) : ∀ u ∈ pcells [p], u.oneCell' = true := by
  intro u hu
  simp [pcells] at hu
  rcases hu with rfl | rfl <;> rfl
/-- What the store's Read answers, and what Tell makes of it. -/
def ranErr (r : Option (Int × Int)) : Int := if r.isSome then 0 else 8
theorem readAns_eq (r : Option (Int × Int)) : readAns r = .tuple #[.agg #[.int .i64 ((r.map (·.1)).getD 0), .int .i64 ((r.map (·.2)).getD 0)], errV (ranErr r)] := by
  cases r with
  | none => rfl
  | some p => rfl
theorem tell_errV (x : Int) (w0 w : World) (L : List HProp) (hE : ErrT w0) (hs : S w0 w L) : Calls Tryz.prog 27 #[errV x] w fun ev w' => ev = .returned (.int .i64 x) ∧ S w0 w' L := by
  by_cases h : x = 0
  · subst h
    rw [errV_0]
    exact (tell_nil w).mono fun ev w' ⟨h1, h2⟩ => ⟨h1, h2 ▸ hs⟩
  · rw [errV_ne h]
    exact tell_no x w0 w L hE hs
set_option linter.unusedSimpArgs false in
set_option maxRecDepth 100000 in
set_option maxHeartbeats 8000000 in
theorem eread_any (w0 w : World) (b : Nat) (bs : List Nat) (e : Eng) (n key : Int) (L : List HProp) (N : Nat) (hE : ErrT w0) (hok : OkT N e []) (hN : N ≤ 90000000) (hs : S w0 w (engP b bs e :: L)) :
    Calls Tryz.prog 10 #[.pointer (some ⟨b, 0, none⟩), .int .i64 n, .int .i64 key] w fun r w' => r = .returned (.tuple #[.int .i64 (e.read n key).2.1, errV (e.read n key).2.2]) ∧ S w0 w' (engP b bs (e.read n key).1 :: L) := by
  have HS := hid hs
  obtain ⟨k, hs⟩ := hs.eng_open
  have hO : S w0 w (engO b bs k e :: storeP 84 b 0 e.V e.last :: tabP 3 b 11 e.t :: L) := hs.conv (by simp only [all]; ac_rfl)
  rcases e.err_cases n true with ⟨h1, h2⟩ | ⟨i, rfl, hi, ⟨h1, h2, h3⟩ | ⟨h1, h2⟩⟩
  · have hf : e.read n key = (e, 0, 7) := by unfold Eng.read; rw [if_pos (by rw [h1]; decide), h1]
    have HF := hid hf; have HC := hid (of_miss w0 w b bs k e n true _ hO h2)
    clear hs hO h1 h2 hf hok
    go_enter Tryz.func10, Tryz.ntmps10
    go_wp2_with fail
    with_reducible refine HC.out.mono ?_
    rintro r w' ⟨rfl, rfl⟩
    go_wp2_with fail
    go_ret2
    exact ⟨by rw [HF.out]; rfl, by rw [HF.out]; exact HS.out⟩
  · have hf : e.read ((i : Int) + 1) key = (e, 0, 6) := by unfold Eng.read; rw [if_pos (by rw [h1]; decide), h1]
    have HF := hid hf; have HC := hid (of_shut w0 w b bs k e i _ hO hi h3)
    clear hs hO h1 h2 h3 hf hok
    go_enter Tryz.func10, Tryz.ntmps10
    go_wp2_with fail
    with_reducible refine HC.out.mono ?_
    rintro r w' ⟨rfl, rfl⟩
    go_wp2_with fail
    go_ret2
    exact ⟨by rw [HF.out]; rfl, by rw [HF.out]; exact HS.out⟩
  · have hi2 : ((i : Int) + 1).toNat - 1 = i := by omega
    have hc := of_ok w0 w b bs k e i true _ hO hi h2
    unfold ptr at hc
    have hx := (hO.eng_txc hi).2
    have c0 := hx.level
    have c2 := hx.start
    have c6 := hx.writes
    have l6 := Tryz.look2 hx.map key
    have HC := hid hc
    cases hw : mget (e.tx i).writes key with
    | some v =>
      have hf : e.read ((i : Int) + 1) key = (e, v, 0) := by unfold Eng.read; rw [if_neg (by rw [h1]; decide)]; simp only [hi2, hw]
      have HF := hid hf
      rw [hw] at l6
      simp only [Option.getD_some, Option.isSome_some] at l6
      clear hs hO h1 h2 hf hc hok hi2 hx hw
      go_enter Tryz.func10, Tryz.ntmps10
      go_wp2_with fail
      with_reducible refine HC.out.mono ?_
      rintro r w' ⟨rfl, rfl⟩
      go_wp2_with fail
      go_ret2
      exact ⟨by rw [HF.out]; rfl, by rw [HF.out]; exact HS.out⟩
    | none =>
      rw [hw] at l6
      simp only [Option.getD_none, Option.isSome_none] at l6
      have hl := last_any b 0 e.last w hs.store_last.1
      have HL := hid hl
      by_cases hk : keyOk key
      · obtain ⟨kn, rfl⟩ : ∃ kn : Nat, key = kn := ⟨key.toNat, by have := hk.1; omega⟩
        have hkn : kn < 10 := by have := hk.2; omega
        obtain ⟨vs, hvs⟩ : ∃ vs, e.V[kn]? = some vs := ⟨e.V[kn]'(by rw [hok.v10]; exact hkn), by simp⟩
        have hvl := hok.row_le vs (List.mem_of_getElem? hvs)
        have hrow : e.row (kn : Int) = vs := by unfold Eng.row; simp [hvs]
        have hcall := fun at_ => read_any b 0 e.V e.last at_ kn vs w0 w _ hkn hs hvs (by omega)
        obtain ⟨r, hr⟩ : ∃ r, readV vs (e.asOf i) = r := ⟨_, rfl⟩
        obtain ⟨va, hva⟩ : ∃ va, (r.map (·.1)).getD 0 = va := ⟨_, rfl⟩
        obtain ⟨vv, hvv⟩ : ∃ vv, (r.map (·.2)).getD 0 = vv := ⟨_, rfl⟩
        obtain ⟨E, hEE⟩ : ∃ E, ranErr r = E := ⟨_, rfl⟩
        obtain ⟨fr, hfr⟩ : ∃ fr, (mget e.wr va).getD 0 = fr := ⟨_, rfl⟩
        have hE2 : (E == 2) = false := by rw [← hEE]; unfold ranErr; split <;> rfl
        obtain ⟨e1, he1⟩ : ∃ e1, (e.upd i fun x => { x with reads := x.reads ++ [((kn : Int), fr)] }) = e1 := ⟨_, rfl⟩
        have hf : e.read ((i : Int) + 1) (kn : Int) = if (e.tx i).level = 2 then (if (e1.sees i (kn : Int)).2 = true then ((e1.sees i (kn : Int)).1, vv, E) else ((e1.sees i (kn : Int)).1.goes i 13, 0, 13)) else (e1, vv, E) := by
          unfold Eng.read
          rw [if_neg (by rw [h1]; decide)]
          simp only [hi2, hw, hrow, hr, hva, hvv, hfr, he1]
          rw [if_neg (by simpa using hk)]
          rw [← hEE]; rfl
        have hok1 : OkT (N + 1) e1 [] := by rw [← he1]; exact hok.reads_in hi _
        have hlen1 : e1.txs.length = e.txs.length := by rw [← he1]; exact Eng.upd_len ..
        have hst1 : (e1.tx i).state = 0 := by rw [← he1]; exact (Eng.upd_keep (·.state) (fun x => { x with reads := x.reads ++ [((kn : Int), fr)] }) (fun _ => rfl) i).trans (h2 rfl)
        have hlv1 : (e1.tx i).level = (e.tx i).level := by rw [← he1]; exact Eng.upd_keep (·.level) (fun x => { x with reads := x.reads ++ [((kn : Int), fr)] }) (fun _ => rfl) i
        have hi1 : i < e1.txs.length := by omega
        obtain ⟨hok2, hlen2, hst2, _⟩ := sees_ok hok1 hi1 (kn : Int)
        have hrn : (e.tx i).reads.length + 1 ≤ 1000000000000 := by have := hok.reads _ (Eng.tx_mem hi); omega
        have hal1 : (e1.tx i).alive = true := by simp [Tx.alive, hst1]
        have hi3 : i < (e1.sees i (kn : Int)).1.txs.length := by omega
        have hal3 : ((e1.sees i (kn : Int)).1.tx i).alive = true := by unfold Tx.alive; rw [hst2, hst1]; rfl
        have hrdo : ∀ W M, S w0 W (storeP 84 b 0 e.V e.last :: tabP 3 b 11 e.t :: engO b bs k e :: M) → S w0 W (sl 89 2 (k.v i).rv (e.tx i).reads.length (pcells (e.tx i).reads) :: rdX b bs k e i :: storeP 84 b 0 e.V e.last :: tabP 3 b 11 e.t :: M) := fun W M h =>
          S.rd_open (h.conv (M := engO b bs k e :: storeP 84 b 0 e.V e.last :: tabP 3 b 11 e.t :: M) (by simp only [all]; ac_rfl)) hi
        obtain ⟨ar, cr, hvr, hcr, hcr2, _⟩ := (hrdo _ _ hs).sl_val
        rw [hvr] at hrdo
        have hq0 : ∀ (vb : Nat) W M, S w0 W (rdV b bs k e i vb va vv :: M) → W.cell? ⟨blkOf bs i, 5, none⟩ = some (.slice ar (e.tx i).reads.length cr) ∧ W.cell? ⟨b, 16, none⟩ = some (.map (some k.wb)) ∧ (Instr.lookup 36 (.map (some k.wb)) (.int .i64 va) false).run Tryz.prog W = .ok (.int .i64 fr) W ∧ W.cell? ⟨vb, 0, none⟩ = some (.int .i64 va) := fun vb W M h => by
          obtain ⟨g1, g2, g3, g4⟩ := h.sep_elim.rd_see
          have g5 := Tryz.look1 g4 va
          rw [hfr] at g5
          exact ⟨by rw [g1, hvr], g3, g5, h.sep_elim.swap.blk_cell 0 rfl⟩
        have hf0 : ∀ (vb : Nat) W M, S w0 W (rdV b bs k e i vb va vv :: M) → W.frozen? ⟨blkOf bs i, 5, none⟩ = false := fun vb W M h => h.sep_elim.rd_see.2.1
        have hcl : ∀ (vb : Nat) W v' M, S w0 W (sl 89 2 v' ((e.tx i).reads.length + 1) (pcells (e.tx i).reads ++ pcells [((kn : Int), fr)]) :: rdV b bs k e i vb va vv :: storeP 84 b 0 e.V e.last :: tabP 3 b 11 e.t :: M :: L) →
            S w0 (W.setCell ⟨blkOf bs i, 5, none⟩ v') (engP b bs e1 :: blk vb 84 [.int .i64 va, .int .i64 vv] :: L) := fun vb W v' M h => by
          have g1 : S w0 W (sl 89 2 v' ((e.tx i).reads.length + 1) (pcells (e.tx i).reads ++ pcells [((kn : Int), fr)]) :: rdX b bs k e i :: blk vb 84 [.int .i64 va, .int .i64 vv] :: storeP 84 b 0 e.V e.last :: tabP 3 b 11 e.t :: M :: L) := h.conv (by simp only [all, rdV]; ac_rfl)
          obtain ⟨k', _, g2⟩ := S.rd_close hi g1
          rw [he1] at g2
          have g3 : S w0 (W.setCell ⟨blkOf bs i, 5, none⟩ v') (storeP 84 b 0 e1.V e1.last :: tabP 3 b 11 e1.t :: engO b bs k' e1 :: blk vb 84 [.int .i64 va, .int .i64 vv] :: M :: L) := by
            rw [show e1.V = e.V by rw [← he1]; rfl, show e1.last = e.last by rw [← he1]; rfl, show e1.t = e.t by rw [← he1]; rfl]
            exact g2.conv (by simp only [all]; ac_rfl)
          exact (g3.eng_shut).conv (M := M :: engP b bs e1 :: blk vb 84 [.int .i64 va, .int .i64 vv] :: L) (by simp only [all]; ac_rfl) |>.tail
        have hlv : ∀ W M, S w0 W (engP b bs e1 :: M) → W.cell? ⟨blkOf bs i, 0, none⟩ = some (.int .i64 (e.tx i).level) := fun W M h => by
          obtain ⟨k', g⟩ := h.eng_open
          have g2 : S w0 W (engO b bs k' e1 :: storeP 84 b 0 e1.V e1.last :: tabP 3 b 11 e1.t :: M) := g.conv (by simp only [all]; ac_rfl)
          rw [← hlv1]; exact (g2.eng_txc hi1).2.level
        have HRD := hid hrdo; have HQ0 := hid hq0; have HF0 := hid hf0; have HCL0 := hid hcl; have HLV := hid hlv; have HA := hid hrn
        have HOK1 := hid hok1; have HOK2 := hid hok2; have HI1 := hid hi1; have HAL1 := hid hal1; have HI2 := hid hi3; have HAL2 := hid hal3; have HKEY := hid hk
        obtain ⟨i0, hi0, hz0, hz1, hz2⟩ := info_parts Tryz.info89
        by_cases hl0 : (e.tx i).level = 0
        ·
          have hat : e.asOf i = e.last := by unfold Eng.asOf; rw [if_pos hl0]
          have hcl2 := hcall e.last
          rw [← hat, hr, readAns_eq, hva, hvv, hEE, hat] at hcl2
          have hff : e.read ((i : Int) + 1) (kn : Int) = (e1, vv, E) := by rw [hf, if_neg (by omega)]
          have HRC := hid hcl2; have HFF := hid hff
          rw [hl0] at c0 HLV
          clear hs hO h1 h2 hc hok hi2 hx hw hl hk hkn hvs hvl hrow hcall hr hva hvv hEE hfr he1 hf hok1 hlen1 hst1 hlv1 hok2 hlen2 hst2 hrn hi1 hal1 hi3 hal3 hrdo hvr hcr hcr2 hq0 hf0 hcl hlv hl0 hat hcl2 hff HOK1 HOK2 HI1 HAL1 HI2 HAL2 HKEY
          go_enter Tryz.func10, Tryz.ntmps10
          go_wp2_with fail
          with_reducible refine HC.out.mono ?_
          rintro r1 w1 ⟨rfl, rfl⟩
          go_wp2_with (go_at_call 24; with_reducible refine HL.out.mono ?_; rintro r1 w1 ⟨rfl, rfl⟩)
          with_reducible refine HRC.out.mono ?_
          rintro r1 wv ⟨rfl, hs2⟩
          have hs3 := HRD.out _ _ ((hs2.alloc #[.int .i64 va, .int .i64 vv] 84).conv (M := storeP 84 b 0 e.V e.last :: tabP 3 b 11 e.t :: engO b bs k e :: blk wv.heap.size 84 [.int .i64 va, .int .i64 vv] :: L) (by simp only [all]; ac_rfl))
          have hs3 : S w0 _ (sl 89 2 (.slice ar (e.tx i).reads.length cr) (e.tx i).reads.length (pcells (e.tx i).reads) :: rdV b bs k e i wv.heap.size va vv :: storeP 84 b 0 e.V e.last :: tabP 3 b 11 e.t :: L) := hs3.conv (by simp only [all, rdV]; ac_rfl)
          have H3 := hid hs3
          clear hs2 hs3 HC HL HRC
          go_wp2_with fail
          with_reducible refine (tell_errV E w0 _ _ hE H3.out).mono ?_
          rintro r1 w3 ⟨rfl, hs4⟩
          have H4 := hid hs4
          clear hs4 H3
          go_wp2_with fail
          have HS0 := H4
          have HQ := hid (HQ0.out wv.heap.size); have HF := hid (HF0.out wv.heap.size); have HCL := hid (HCL0.out wv.heap.size)
          clear HQ0 HF0 HCL0 H4 HRD
          refine region_U (S := fun w' => w'.cell? ⟨blkOf bs i, 5, none⟩ = some (.slice ar (e.tx i).reads.length cr) ∧ w'.cell? ⟨b, 16, none⟩ = some (.map (some k.wb)) ∧ (Instr.lookup 36 (.map (some k.wb)) (.int .i64 va) false).run Tryz.prog w' = .ok (.int .i64 fr) w' ∧ w'.cell? ⟨wv.heap.size, 0, none⟩ = some (.int .i64 va)) (u := 18) (by kernel_rfl) (HQ.out _ _ (HS0.out.drew.nth 1 rfl)) (fun hHeld => ?_)
          refine anyU_take (i := 0) (v := ?_) rfl (by kernel_rfl) (fun _ _ _ h => h) (Or.inl ⟨by rfl, ?_⟩) hHeld ?_
          rotate_left
          · (intro w hSw; (try dsimp only at hSw); go_simp) <;> with_reducible rfl
          try simp only [Act.put, List.setIfInBounds_toArray, List.getElem_toArray, List.getElem_cons_zero, List.getElem_cons_succ, List.set_cons_zero, List.set_cons_succ]
          refine anyU_take (i := 1) (v := ?_) rfl (by kernel_rfl) (fun _ _ _ h => h) (Or.inl ⟨by rfl, ?_⟩) hHeld ?_
          rotate_left
          · (intro w hSw; (try dsimp only at hSw); go_simp) <;> with_reducible rfl
          try simp only [Act.put, List.setIfInBounds_toArray, List.getElem_toArray, List.getElem_cons_zero, List.getElem_cons_succ, List.set_cons_zero, List.set_cons_succ]
          refine anyU_take (i := 2) (v := ?_) rfl (by kernel_rfl) (fun _ _ _ h => h) (Or.inl ⟨by rfl, ?_⟩) hHeld ?_
          rotate_left
          · (intro w hSw; (try dsimp only at hSw); go_simp) <;> with_reducible rfl
          try simp only [Act.put, List.setIfInBounds_toArray, List.getElem_toArray, List.getElem_cons_zero, List.getElem_cons_succ, List.set_cons_zero, List.set_cons_succ]
          refine anyU_take (i := 3) (v := ?_) rfl (by kernel_rfl) (fun _ _ _ h => h) (Or.inl ⟨by rfl, ?_⟩) hHeld ?_
          rotate_left
          · (intro w hSw; (try dsimp only at hSw); go_simp) <;> with_reducible rfl
          try simp only [Act.put, List.setIfInBounds_toArray, List.getElem_toArray, List.getElem_cons_zero, List.getElem_cons_succ, List.set_cons_zero, List.set_cons_succ]
          refine anyU_take (i := 4) (v := ?_) rfl (by kernel_rfl) (fun _ _ _ h => h) (Or.inl ⟨by rfl, ?_⟩) hHeld ?_
          rotate_left
          · (intro w hSw; (try dsimp only at hSw); go_simp) <;> with_reducible rfl
          try simp only [Act.put, List.setIfInBounds_toArray, List.getElem_toArray, List.getElem_cons_zero, List.getElem_cons_succ, List.set_cons_zero, List.set_cons_succ]
          refine anyU_take (i := 5) (v := ?_) rfl (by kernel_rfl) (fun _ _ _ h => h) (Or.inl ⟨by rfl, ?_⟩) hHeld ?_
          rotate_left
          · (intro w hSw; (try dsimp only at hSw); go_simp) <;> with_reducible rfl
          try simp only [Act.put, List.setIfInBounds_toArray, List.getElem_toArray, List.getElem_cons_zero, List.getElem_cons_succ, List.set_cons_zero, List.set_cons_succ]
          refine anyU_take (i := 6) (v := ?_) rfl (by kernel_rfl) (fun _ _ _ h => h) (Or.inl ⟨by rfl, ?_⟩) hHeld ?_
          rotate_left
          · (intro w hSw; (try dsimp only at hSw); go_simp) <;> with_reducible rfl
          try simp only [Act.put, List.setIfInBounds_toArray, List.getElem_toArray, List.getElem_cons_zero, List.getElem_cons_succ, List.set_cons_zero, List.set_cons_succ]
          refine anyU_take (i := 7) (v := ?_) rfl (by kernel_rfl) (fun _ _ _ h => h) (Or.inl ⟨by rfl, ?_⟩) hHeld ?_
          rotate_left
          · (intro w hSw; (try dsimp only at hSw); go_simp) <;> with_reducible rfl
          try simp only [Act.put, List.setIfInBounds_toArray, List.getElem_toArray, List.getElem_cons_zero, List.getElem_cons_succ, List.set_cons_zero, List.set_cons_succ]
          refine anyU_take (i := 8) (v := ?_) rfl (by kernel_rfl) (fun _ _ _ h => h) (Or.inl ⟨by rfl, ?_⟩) hHeld ?_
          rotate_left
          · (intro w hSw; (try dsimp only at hSw); go_simp) <;> with_reducible rfl
          try simp only [Act.put, List.setIfInBounds_toArray, List.getElem_toArray, List.getElem_cons_zero, List.getElem_cons_succ, List.set_cons_zero, List.set_cons_succ]
          refine anyU_take (i := 9) (v := ?_) rfl (by kernel_rfl) (fun _ _ _ h => h) (Or.inl ⟨by rfl, ?_⟩) hHeld ?_
          rotate_left
          · (intro w hSw; (try dsimp only at hSw); go_simp) <;> with_reducible rfl
          try simp only [Act.put, List.setIfInBounds_toArray, List.getElem_toArray, List.getElem_cons_zero, List.getElem_cons_succ, List.set_cons_zero, List.set_cons_succ]
          refine anyU_take (i := 10) (v := ?_) rfl (by kernel_rfl) (fun _ _ _ h => h) (Or.inl ⟨by rfl, ?_⟩) hHeld ?_
          rotate_left
          · (intro w hSw; (try dsimp only at hSw); go_simp) <;> with_reducible rfl
          try simp only [Act.put, List.setIfInBounds_toArray, List.getElem_toArray, List.getElem_cons_zero, List.getElem_cons_succ, List.set_cons_zero, List.set_cons_succ]
          refine anyU_take (i := 11) (v := ?_) rfl (by kernel_rfl) (fun _ _ _ h => h) (Or.inl ⟨by rfl, ?_⟩) hHeld ?_
          rotate_left
          · (intro w hSw; (try dsimp only at hSw); go_simp) <;> with_reducible rfl
          try simp only [Act.put, List.setIfInBounds_toArray, List.getElem_toArray, List.getElem_cons_zero, List.getElem_cons_succ, List.set_cons_zero, List.set_cons_succ]
          refine anyU_take (i := 12) (v := ?_) rfl (by kernel_rfl) (fun _ _ _ h => h) (Or.inl ⟨by rfl, ?_⟩) hHeld ?_
          rotate_left
          · (intro w hSw; (try dsimp only at hSw); go_simp) <;> with_reducible rfl
          try simp only [Act.put, List.setIfInBounds_toArray, List.getElem_toArray, List.getElem_cons_zero, List.getElem_cons_succ, List.set_cons_zero, List.set_cons_succ]
          refine anyU_take (i := 13) (v := ?_) rfl (by kernel_rfl) (fun _ _ _ h => h) (Or.inl ⟨by rfl, ?_⟩) hHeld ?_
          rotate_left
          · (intro w hSw; (try dsimp only at hSw); go_simp) <;> with_reducible rfl
          try simp only [Act.put, List.setIfInBounds_toArray, List.getElem_toArray, List.getElem_cons_zero, List.getElem_cons_succ, List.set_cons_zero, List.set_cons_succ]
          have HS := hid HS0.out.drew
          clear hHeld
          refine anyU_world (fun w => Hid (S w0 w _)) HS (fun w1 HS => ?_)
          clear HS0
          refine anyU_next (rs := [14]) (by kernel_rfl) (by simp) ?_
          refine NextU.cons rfl (fun K hK => ?_) ?_
          · go_simp
            replace HS := hid (HS.out.alloc_slU (e := 89) (size := 2) (pcells [((kn : Int), fr)]) 1 rfl (by unfold maxLen; omega))
            generalize w1.heap.size = b14 at HS ⊢
            refine act_any (fun w => Hid (S w0 w _)) HS (fun w2 HS => ?_)
            refine hK.out _ _ (fun _ => (HQ.out _ _ (HS.out.nth 2 rfl))) ?_
            clear hK K
            refine anyU_next (rs := [15]) (by kernel_rfl) (by simp) ?_
            refine NextU.cons rfl (fun K hK => ?_) ?_
            · refine step_appU rfl (.tmp 64) (.tmp 74) 78 rfl 89 i0 _ 2 16 Tryz.underlying78 hi0 hz0 hz1 hz2 rfl (by decide) HS.out 1 (by rfl) (by rfl) _ 1 1 (pcells [((kn : Int), fr)]) (by rfl) rfl (HS.out.news_slK 0 (by rfl)) (one_pair _) HA.out (by decide) ?_
              intro v15 w3 hs
              replace HS := hid hs
              clear hs
              obtain ⟨p15, c15, rfl, _, _, _⟩ := HS.out.sl_val
              refine hK.out _ _ (fun _ => (HQ.out _ _ (HS.out.nth 2 rfl))) ?_
              clear hK K
              try simp only [Act.put, List.setIfInBounds_toArray, List.getElem_toArray, List.getElem_cons_zero, List.getElem_cons_succ, List.set_cons_zero, List.set_cons_succ]
              refine anyU_pure (i := 16) (v := ?_) rfl (by kernel_rfl) (fun _ _ _ h => h) (Or.inl ⟨by rfl, ?_⟩) (fun _ => (HQ.out _ _ (HS.out.nth 2 rfl))) ?_
              rotate_left
              · (intro w _; go_simp) <;> with_reducible rfl
              try simp only [Act.put, List.setIfInBounds_toArray, List.getElem_toArray, List.getElem_cons_zero, List.getElem_cons_succ, List.set_cons_zero, List.set_cons_succ]
              refine anyU_take (i := 17) (v := ?_) rfl (by kernel_rfl) (fun _ _ _ h => h) (Or.inl ⟨by rfl, ?_⟩) (HQ.out _ _ (HS.out.nth 2 rfl)) ?_
              rotate_left
              · (intro w hSw; (try dsimp only at hSw); go_simp) <;> with_reducible rfl
              try simp only [Act.put, List.setIfInBounds_toArray, List.getElem_toArray, List.getElem_cons_zero, List.getElem_cons_succ, List.set_cons_zero, List.set_cons_succ]
              refine anyU_next (rs := [18]) (by kernel_rfl) (by simp) ?_
              refine NextU.cons rfl (fun K hK => ?_) ?_
              · have q1 := (HQ.out _ _ (HS.out.nth 2 rfl)).1
                have q2 := HF.out _ _ (HS.out.nth 2 rfl)
                go_simp
                refine hK.out _ _ (fun h => Bool.noConfusion (show true = false from h)) ?_
                clear hK K q1 q2
                refine anyU_done (by kernel_rfl) ?_ _
                have HZ := HS.out
                simp only [List.eraseIdx_cons_succ, List.eraseIdx_cons_zero] at HZ
                have h5 := HCL.out _ _ _ (HZ.conv (M := sl 89 2 (.slice p15 ((e.tx i).reads.length + 1) c15) ((e.tx i).reads.length + 1) (pcells (e.tx i).reads ++ pcells [((kn : Int), fr)]) :: rdV b bs k e i wv.heap.size va vv :: storeP 84 b 0 e.V e.last :: tabP 3 b 11 e.t :: sl 89 2 (.slice (some ⟨b14, 0, none⟩) 1 1) 1 (pcells [((kn : Int), fr)]) :: L) (by simp only [all]; ac_rfl))
                have H5 := hid h5
                have q0 := HLV.out _ _ h5
                have q9 := h5.swap.blk_cell 1 rfl
                clear HZ h5 HS HCL HQ HF HLV
                go_wp2_with fail
                go_ret2
                exact ⟨by rw [HFF.out]; rfl, by rw [HFF.out]; exact H5.out.swap.tail⟩
              exact NextU.nil
            exact NextU.nil
          exact NextU.nil
        · by_cases hl2 : (e.tx i).level = 2
          ·
            have hat : e.asOf i = (e.tx i).start := by unfold Eng.asOf; rw [if_neg hl0]
            have hcl2 := hcall (e.tx i).start
            rw [← hat, hr, readAns_eq, hva, hvv, hEE, hat] at hcl2
            rw [if_pos hl2] at hf
            have hff := hf
            have HRC := hid hcl2; have HFF := hid hff
            rw [hl2] at c0 HLV
            clear hs hO h1 h2 hc hok hi2 hx hw hl hk hkn hvs hvl hrow hcall hr hva hvv hEE hfr he1 hf hok1 hlen1 hst1 hlv1 hok2 hlen2 hst2 hrn hi1 hal1 hi3 hal3 hrdo hvr hcr hcr2 hq0 hf0 hcl hlv hl0 hl2 hat hcl2 hff
            go_enter Tryz.func10, Tryz.ntmps10
            go_wp2_with fail
            with_reducible refine HC.out.mono ?_
            rintro r1 w1 ⟨rfl, rfl⟩
            go_wp2_with fail
            with_reducible refine HRC.out.mono ?_
            rintro r1 wv ⟨rfl, hs2⟩
            have hs3 := HRD.out _ _ ((hs2.alloc #[.int .i64 va, .int .i64 vv] 84).conv (M := storeP 84 b 0 e.V e.last :: tabP 3 b 11 e.t :: engO b bs k e :: blk wv.heap.size 84 [.int .i64 va, .int .i64 vv] :: L) (by simp only [all]; ac_rfl))
            have hs3 : S w0 _ (sl 89 2 (.slice ar (e.tx i).reads.length cr) (e.tx i).reads.length (pcells (e.tx i).reads) :: rdV b bs k e i wv.heap.size va vv :: storeP 84 b 0 e.V e.last :: tabP 3 b 11 e.t :: L) := hs3.conv (by simp only [all, rdV]; ac_rfl)
            have H3 := hid hs3
            clear hs2 hs3 HC HL HRC
            go_wp2_with fail
            with_reducible refine (tell_errV E w0 _ _ hE H3.out).mono ?_
            rintro r1 w3 ⟨rfl, hs4⟩
            have H4 := hid hs4
            clear hs4 H3
            go_wp2_with fail
            have HS0 := H4
            have HQ := hid (HQ0.out wv.heap.size); have HF := hid (HF0.out wv.heap.size); have HCL := hid (HCL0.out wv.heap.size)
            clear HQ0 HF0 HCL0 H4 HRD
            refine region_U (S := fun w' => w'.cell? ⟨blkOf bs i, 5, none⟩ = some (.slice ar (e.tx i).reads.length cr) ∧ w'.cell? ⟨b, 16, none⟩ = some (.map (some k.wb)) ∧ (Instr.lookup 36 (.map (some k.wb)) (.int .i64 va) false).run Tryz.prog w' = .ok (.int .i64 fr) w' ∧ w'.cell? ⟨wv.heap.size, 0, none⟩ = some (.int .i64 va)) (u := 18) (by kernel_rfl) (HQ.out _ _ (HS0.out.drew.nth 1 rfl)) (fun hHeld => ?_)
            refine anyU_take (i := 0) (v := ?_) rfl (by kernel_rfl) (fun _ _ _ h => h) (Or.inl ⟨by rfl, ?_⟩) hHeld ?_
            rotate_left
            · (intro w hSw; (try dsimp only at hSw); go_simp) <;> with_reducible rfl
            try simp only [Act.put, List.setIfInBounds_toArray, List.getElem_toArray, List.getElem_cons_zero, List.getElem_cons_succ, List.set_cons_zero, List.set_cons_succ]
            refine anyU_take (i := 1) (v := ?_) rfl (by kernel_rfl) (fun _ _ _ h => h) (Or.inl ⟨by rfl, ?_⟩) hHeld ?_
            rotate_left
            · (intro w hSw; (try dsimp only at hSw); go_simp) <;> with_reducible rfl
            try simp only [Act.put, List.setIfInBounds_toArray, List.getElem_toArray, List.getElem_cons_zero, List.getElem_cons_succ, List.set_cons_zero, List.set_cons_succ]
            refine anyU_take (i := 2) (v := ?_) rfl (by kernel_rfl) (fun _ _ _ h => h) (Or.inl ⟨by rfl, ?_⟩) hHeld ?_
            rotate_left
            · (intro w hSw; (try dsimp only at hSw); go_simp) <;> with_reducible rfl
            try simp only [Act.put, List.setIfInBounds_toArray, List.getElem_toArray, List.getElem_cons_zero, List.getElem_cons_succ, List.set_cons_zero, List.set_cons_succ]
            refine anyU_take (i := 3) (v := ?_) rfl (by kernel_rfl) (fun _ _ _ h => h) (Or.inl ⟨by rfl, ?_⟩) hHeld ?_
            rotate_left
            · (intro w hSw; (try dsimp only at hSw); go_simp) <;> with_reducible rfl
            try simp only [Act.put, List.setIfInBounds_toArray, List.getElem_toArray, List.getElem_cons_zero, List.getElem_cons_succ, List.set_cons_zero, List.set_cons_succ]
            refine anyU_take (i := 4) (v := ?_) rfl (by kernel_rfl) (fun _ _ _ h => h) (Or.inl ⟨by rfl, ?_⟩) hHeld ?_
            rotate_left
            · (intro w hSw; (try dsimp only at hSw); go_simp) <;> with_reducible rfl
            try simp only [Act.put, List.setIfInBounds_toArray, List.getElem_toArray, List.getElem_cons_zero, List.getElem_cons_succ, List.set_cons_zero, List.set_cons_succ]
            refine anyU_take (i := 5) (v := ?_) rfl (by kernel_rfl) (fun _ _ _ h => h) (Or.inl ⟨by rfl, ?_⟩) hHeld ?_
            rotate_left
            · (intro w hSw; (try dsimp only at hSw); go_simp) <;> with_reducible rfl
            try simp only [Act.put, List.setIfInBounds_toArray, List.getElem_toArray, List.getElem_cons_zero, List.getElem_cons_succ, List.set_cons_zero, List.set_cons_succ]
            refine anyU_take (i := 6) (v := ?_) rfl (by kernel_rfl) (fun _ _ _ h => h) (Or.inl ⟨by rfl, ?_⟩) hHeld ?_
            rotate_left
            · (intro w hSw; (try dsimp only at hSw); go_simp) <;> with_reducible rfl
            try simp only [Act.put, List.setIfInBounds_toArray, List.getElem_toArray, List.getElem_cons_zero, List.getElem_cons_succ, List.set_cons_zero, List.set_cons_succ]
            refine anyU_take (i := 7) (v := ?_) rfl (by kernel_rfl) (fun _ _ _ h => h) (Or.inl ⟨by rfl, ?_⟩) hHeld ?_
            rotate_left
            · (intro w hSw; (try dsimp only at hSw); go_simp) <;> with_reducible rfl
            try simp only [Act.put, List.setIfInBounds_toArray, List.getElem_toArray, List.getElem_cons_zero, List.getElem_cons_succ, List.set_cons_zero, List.set_cons_succ]
            refine anyU_take (i := 8) (v := ?_) rfl (by kernel_rfl) (fun _ _ _ h => h) (Or.inl ⟨by rfl, ?_⟩) hHeld ?_
            rotate_left
            · (intro w hSw; (try dsimp only at hSw); go_simp) <;> with_reducible rfl
            try simp only [Act.put, List.setIfInBounds_toArray, List.getElem_toArray, List.getElem_cons_zero, List.getElem_cons_succ, List.set_cons_zero, List.set_cons_succ]
            refine anyU_take (i := 9) (v := ?_) rfl (by kernel_rfl) (fun _ _ _ h => h) (Or.inl ⟨by rfl, ?_⟩) hHeld ?_
            rotate_left
            · (intro w hSw; (try dsimp only at hSw); go_simp) <;> with_reducible rfl
            try simp only [Act.put, List.setIfInBounds_toArray, List.getElem_toArray, List.getElem_cons_zero, List.getElem_cons_succ, List.set_cons_zero, List.set_cons_succ]
            refine anyU_take (i := 10) (v := ?_) rfl (by kernel_rfl) (fun _ _ _ h => h) (Or.inl ⟨by rfl, ?_⟩) hHeld ?_
            rotate_left
            · (intro w hSw; (try dsimp only at hSw); go_simp) <;> with_reducible rfl
            try simp only [Act.put, List.setIfInBounds_toArray, List.getElem_toArray, List.getElem_cons_zero, List.getElem_cons_succ, List.set_cons_zero, List.set_cons_succ]
            refine anyU_take (i := 11) (v := ?_) rfl (by kernel_rfl) (fun _ _ _ h => h) (Or.inl ⟨by rfl, ?_⟩) hHeld ?_
            rotate_left
            · (intro w hSw; (try dsimp only at hSw); go_simp) <;> with_reducible rfl
            try simp only [Act.put, List.setIfInBounds_toArray, List.getElem_toArray, List.getElem_cons_zero, List.getElem_cons_succ, List.set_cons_zero, List.set_cons_succ]
            refine anyU_take (i := 12) (v := ?_) rfl (by kernel_rfl) (fun _ _ _ h => h) (Or.inl ⟨by rfl, ?_⟩) hHeld ?_
            rotate_left
            · (intro w hSw; (try dsimp only at hSw); go_simp) <;> with_reducible rfl
            try simp only [Act.put, List.setIfInBounds_toArray, List.getElem_toArray, List.getElem_cons_zero, List.getElem_cons_succ, List.set_cons_zero, List.set_cons_succ]
            refine anyU_take (i := 13) (v := ?_) rfl (by kernel_rfl) (fun _ _ _ h => h) (Or.inl ⟨by rfl, ?_⟩) hHeld ?_
            rotate_left
            · (intro w hSw; (try dsimp only at hSw); go_simp) <;> with_reducible rfl
            try simp only [Act.put, List.setIfInBounds_toArray, List.getElem_toArray, List.getElem_cons_zero, List.getElem_cons_succ, List.set_cons_zero, List.set_cons_succ]
            have HS := hid HS0.out.drew
            clear hHeld
            refine anyU_world (fun w => Hid (S w0 w _)) HS (fun w1 HS => ?_)
            clear HS0
            refine anyU_next (rs := [14]) (by kernel_rfl) (by simp) ?_
            refine NextU.cons rfl (fun K hK => ?_) ?_
            · go_simp
              replace HS := hid (HS.out.alloc_slU (e := 89) (size := 2) (pcells [((kn : Int), fr)]) 1 rfl (by unfold maxLen; omega))
              generalize w1.heap.size = b14 at HS ⊢
              refine act_any (fun w => Hid (S w0 w _)) HS (fun w2 HS => ?_)
              refine hK.out _ _ (fun _ => (HQ.out _ _ (HS.out.nth 2 rfl))) ?_
              clear hK K
              refine anyU_next (rs := [15]) (by kernel_rfl) (by simp) ?_
              refine NextU.cons rfl (fun K hK => ?_) ?_
              · refine step_appU rfl (.tmp 64) (.tmp 74) 78 rfl 89 i0 _ 2 16 Tryz.underlying78 hi0 hz0 hz1 hz2 rfl (by decide) HS.out 1 (by rfl) (by rfl) _ 1 1 (pcells [((kn : Int), fr)]) (by rfl) rfl (HS.out.news_slK 0 (by rfl)) (one_pair _) HA.out (by decide) ?_
                intro v15 w3 hs
                replace HS := hid hs
                clear hs
                obtain ⟨p15, c15, rfl, _, _, _⟩ := HS.out.sl_val
                refine hK.out _ _ (fun _ => (HQ.out _ _ (HS.out.nth 2 rfl))) ?_
                clear hK K
                try simp only [Act.put, List.setIfInBounds_toArray, List.getElem_toArray, List.getElem_cons_zero, List.getElem_cons_succ, List.set_cons_zero, List.set_cons_succ]
                refine anyU_pure (i := 16) (v := ?_) rfl (by kernel_rfl) (fun _ _ _ h => h) (Or.inl ⟨by rfl, ?_⟩) (fun _ => (HQ.out _ _ (HS.out.nth 2 rfl))) ?_
                rotate_left
                · (intro w _; go_simp) <;> with_reducible rfl
                try simp only [Act.put, List.setIfInBounds_toArray, List.getElem_toArray, List.getElem_cons_zero, List.getElem_cons_succ, List.set_cons_zero, List.set_cons_succ]
                refine anyU_take (i := 17) (v := ?_) rfl (by kernel_rfl) (fun _ _ _ h => h) (Or.inl ⟨by rfl, ?_⟩) (HQ.out _ _ (HS.out.nth 2 rfl)) ?_
                rotate_left
                · (intro w hSw; (try dsimp only at hSw); go_simp) <;> with_reducible rfl
                try simp only [Act.put, List.setIfInBounds_toArray, List.getElem_toArray, List.getElem_cons_zero, List.getElem_cons_succ, List.set_cons_zero, List.set_cons_succ]
                refine anyU_next (rs := [18]) (by kernel_rfl) (by simp) ?_
                refine NextU.cons rfl (fun K hK => ?_) ?_
                · have q1 := (HQ.out _ _ (HS.out.nth 2 rfl)).1
                  have q2 := HF.out _ _ (HS.out.nth 2 rfl)
                  go_simp
                  refine hK.out _ _ (fun h => Bool.noConfusion (show true = false from h)) ?_
                  clear hK K q1 q2
                  refine anyU_done (by kernel_rfl) ?_ _
                  have HZ := HS.out
                  simp only [List.eraseIdx_cons_succ, List.eraseIdx_cons_zero] at HZ
                  have h5 := HCL.out _ _ _ (HZ.conv (M := sl 89 2 (.slice p15 ((e.tx i).reads.length + 1) c15) ((e.tx i).reads.length + 1) (pcells (e.tx i).reads ++ pcells [((kn : Int), fr)]) :: rdV b bs k e i wv.heap.size va vv :: storeP 84 b 0 e.V e.last :: tabP 3 b 11 e.t :: sl 89 2 (.slice (some ⟨b14, 0, none⟩) 1 1) 1 (pcells [((kn : Int), fr)]) :: L) (by simp only [all]; ac_rfl))
                  have H5 := hid h5
                  have q0 := HLV.out _ _ h5
                  have q9 := h5.swap.blk_cell 1 rfl
                  clear HZ h5 HS HCL HQ HF HLV
                  have hsaw := saw_any w0 _ b bs e1 i (kn : Int) _ (N + 1) [] HOK1.out HI1.out HAL1.out HKEY.out (by omega) H5.out
                  unfold ptr at hsaw
                  have HSAW := hid hsaw
                  clear hsaw
                  cases hsv : (e1.sees i (kn : Int)).2 with
                  | true =>
                    rw [hsv] at HSAW
                    have hff : e.read ((i : Int) + 1) (kn : Int) = ((e1.sees i (kn : Int)).1, vv, E) := by rw [HFF.out, if_pos hsv]
                    have HFF2 := hid hff
                    clear hff HFF hsv
                    go_wp2_with (go_at_call 28; with_reducible refine HSAW.out.mono ?_; rintro r w5 ⟨rfl, hs5⟩; have H6 := hid hs5; have q8 := hs5.swap.blk_cell 1 rfl; clear hs5)
                    go_ret2
                    exact ⟨by rw [HFF2.out]; rfl, by rw [HFF2.out]; exact H6.out.swap.tail⟩
                  | false =>
                    rw [hsv] at HSAW
                    have hff : e.read ((i : Int) + 1) (kn : Int) = ((e1.sees i (kn : Int)).1.goes i 13, 0, 13) := by rw [HFF.out, if_neg (by rw [hsv]; decide)]
                    have HFF2 := hid hff
                    clear hff HFF hsv
                    go_wp2_with (go_at_call 28; with_reducible refine HSAW.out.mono ?_; rintro r w5 ⟨rfl, hs5⟩; have H6 := hid hs5; have q8 := hs5.swap.blk_cell 1 rfl; clear hs5)
                    have hgo := goes_any (e1.sees i (kn : Int)).1.open_ w0 w5 b bs _ i 13 _ (N + 602) [] HOK2.out HI2.out HAL2.out (by simp) (Nat.le_refl _) (by omega) H6.out
                    have HGO := hid hgo
                    clear hgo
                    with_reducible refine HGO.out.mono ?_
                    rintro r w6 ⟨rfl, hs6⟩
                    have H7 := hid hs6
                    clear hs6
                    go_wp2_with fail
                    go_ret2
                    exact ⟨by rw [HFF2.out]; rfl, by rw [HFF2.out]; exact H7.out.swap.tail⟩
                exact NextU.nil
              exact NextU.nil
            exact NextU.nil
          ·
            have hat : e.asOf i = (e.tx i).start := by unfold Eng.asOf; rw [if_neg hl0]
            have hcl2 := hcall (e.tx i).start
            rw [← hat, hr, readAns_eq, hva, hvv, hEE, hat] at hcl2
            have hff : e.read ((i : Int) + 1) (kn : Int) = (e1, vv, E) := by rw [hf, if_neg hl2]
            have HRC := hid hcl2; have HFF := hid hff
            have hb0 : ((e.tx i).level == 0) = false := by simpa using hl0
            have hb2 : ((e.tx i).level == 2) = false := by simpa using hl2
            clear hs hO h1 h2 hc hok hi2 hx hw hl hk hkn hvs hvl hrow hcall hr hva hvv hEE hfr he1 hf hok1 hlen1 hst1 hlv1 hok2 hlen2 hst2 hrn hi1 hal1 hi3 hal3 hrdo hvr hcr hcr2 hq0 hf0 hcl hlv hl0 hl2 hat hcl2 hff HOK1 HOK2 HI1 HAL1 HI2 HAL2 HKEY
            go_enter Tryz.func10, Tryz.ntmps10
            go_wp2_with fail
            with_reducible refine HC.out.mono ?_
            rintro r1 w1 ⟨rfl, rfl⟩
            go_wp2_with fail
            with_reducible refine HRC.out.mono ?_
            rintro r1 wv ⟨rfl, hs2⟩
            have hs3 := HRD.out _ _ ((hs2.alloc #[.int .i64 va, .int .i64 vv] 84).conv (M := storeP 84 b 0 e.V e.last :: tabP 3 b 11 e.t :: engO b bs k e :: blk wv.heap.size 84 [.int .i64 va, .int .i64 vv] :: L) (by simp only [all]; ac_rfl))
            have hs3 : S w0 _ (sl 89 2 (.slice ar (e.tx i).reads.length cr) (e.tx i).reads.length (pcells (e.tx i).reads) :: rdV b bs k e i wv.heap.size va vv :: storeP 84 b 0 e.V e.last :: tabP 3 b 11 e.t :: L) := hs3.conv (by simp only [all, rdV]; ac_rfl)
            have H3 := hid hs3
            clear hs2 hs3 HC HL HRC
            go_wp2_with fail
            with_reducible refine (tell_errV E w0 _ _ hE H3.out).mono ?_
            rintro r1 w3 ⟨rfl, hs4⟩
            have H4 := hid hs4
            clear hs4 H3
            go_wp2_with fail
            have HS0 := H4
            have HQ := hid (HQ0.out wv.heap.size); have HF := hid (HF0.out wv.heap.size); have HCL := hid (HCL0.out wv.heap.size)
            clear HQ0 HF0 HCL0 H4 HRD
            refine region_U (S := fun w' => w'.cell? ⟨blkOf bs i, 5, none⟩ = some (.slice ar (e.tx i).reads.length cr) ∧ w'.cell? ⟨b, 16, none⟩ = some (.map (some k.wb)) ∧ (Instr.lookup 36 (.map (some k.wb)) (.int .i64 va) false).run Tryz.prog w' = .ok (.int .i64 fr) w' ∧ w'.cell? ⟨wv.heap.size, 0, none⟩ = some (.int .i64 va)) (u := 18) (by kernel_rfl) (HQ.out _ _ (HS0.out.drew.nth 1 rfl)) (fun hHeld => ?_)
            refine anyU_take (i := 0) (v := ?_) rfl (by kernel_rfl) (fun _ _ _ h => h) (Or.inl ⟨by rfl, ?_⟩) hHeld ?_
            rotate_left
            · (intro w hSw; (try dsimp only at hSw); go_simp) <;> with_reducible rfl
            try simp only [Act.put, List.setIfInBounds_toArray, List.getElem_toArray, List.getElem_cons_zero, List.getElem_cons_succ, List.set_cons_zero, List.set_cons_succ]
            refine anyU_take (i := 1) (v := ?_) rfl (by kernel_rfl) (fun _ _ _ h => h) (Or.inl ⟨by rfl, ?_⟩) hHeld ?_
            rotate_left
            · (intro w hSw; (try dsimp only at hSw); go_simp) <;> with_reducible rfl
            try simp only [Act.put, List.setIfInBounds_toArray, List.getElem_toArray, List.getElem_cons_zero, List.getElem_cons_succ, List.set_cons_zero, List.set_cons_succ]
            refine anyU_take (i := 2) (v := ?_) rfl (by kernel_rfl) (fun _ _ _ h => h) (Or.inl ⟨by rfl, ?_⟩) hHeld ?_
            rotate_left
            · (intro w hSw; (try dsimp only at hSw); go_simp) <;> with_reducible rfl
            try simp only [Act.put, List.setIfInBounds_toArray, List.getElem_toArray, List.getElem_cons_zero, List.getElem_cons_succ, List.set_cons_zero, List.set_cons_succ]
            refine anyU_take (i := 3) (v := ?_) rfl (by kernel_rfl) (fun _ _ _ h => h) (Or.inl ⟨by rfl, ?_⟩) hHeld ?_
            rotate_left
            · (intro w hSw; (try dsimp only at hSw); go_simp) <;> with_reducible rfl
            try simp only [Act.put, List.setIfInBounds_toArray, List.getElem_toArray, List.getElem_cons_zero, List.getElem_cons_succ, List.set_cons_zero, List.set_cons_succ]
            refine anyU_take (i := 4) (v := ?_) rfl (by kernel_rfl) (fun _ _ _ h => h) (Or.inl ⟨by rfl, ?_⟩) hHeld ?_
            rotate_left
            · (intro w hSw; (try dsimp only at hSw); go_simp) <;> with_reducible rfl
            try simp only [Act.put, List.setIfInBounds_toArray, List.getElem_toArray, List.getElem_cons_zero, List.getElem_cons_succ, List.set_cons_zero, List.set_cons_succ]
            refine anyU_take (i := 5) (v := ?_) rfl (by kernel_rfl) (fun _ _ _ h => h) (Or.inl ⟨by rfl, ?_⟩) hHeld ?_
            rotate_left
            · (intro w hSw; (try dsimp only at hSw); go_simp) <;> with_reducible rfl
            try simp only [Act.put, List.setIfInBounds_toArray, List.getElem_toArray, List.getElem_cons_zero, List.getElem_cons_succ, List.set_cons_zero, List.set_cons_succ]
            refine anyU_take (i := 6) (v := ?_) rfl (by kernel_rfl) (fun _ _ _ h => h) (Or.inl ⟨by rfl, ?_⟩) hHeld ?_
            rotate_left
            · (intro w hSw; (try dsimp only at hSw); go_simp) <;> with_reducible rfl
            try simp only [Act.put, List.setIfInBounds_toArray, List.getElem_toArray, List.getElem_cons_zero, List.getElem_cons_succ, List.set_cons_zero, List.set_cons_succ]
            refine anyU_take (i := 7) (v := ?_) rfl (by kernel_rfl) (fun _ _ _ h => h) (Or.inl ⟨by rfl, ?_⟩) hHeld ?_
            rotate_left
            · (intro w hSw; (try dsimp only at hSw); go_simp) <;> with_reducible rfl
            try simp only [Act.put, List.setIfInBounds_toArray, List.getElem_toArray, List.getElem_cons_zero, List.getElem_cons_succ, List.set_cons_zero, List.set_cons_succ]
            refine anyU_take (i := 8) (v := ?_) rfl (by kernel_rfl) (fun _ _ _ h => h) (Or.inl ⟨by rfl, ?_⟩) hHeld ?_
            rotate_left
            · (intro w hSw; (try dsimp only at hSw); go_simp) <;> with_reducible rfl
            try simp only [Act.put, List.setIfInBounds_toArray, List.getElem_toArray, List.getElem_cons_zero, List.getElem_cons_succ, List.set_cons_zero, List.set_cons_succ]
            refine anyU_take (i := 9) (v := ?_) rfl (by kernel_rfl) (fun _ _ _ h => h) (Or.inl ⟨by rfl, ?_⟩) hHeld ?_
            rotate_left
            · (intro w hSw; (try dsimp only at hSw); go_simp) <;> with_reducible rfl
            try simp only [Act.put, List.setIfInBounds_toArray, List.getElem_toArray, List.getElem_cons_zero, List.getElem_cons_succ, List.set_cons_zero, List.set_cons_succ]
            refine anyU_take (i := 10) (v := ?_) rfl (by kernel_rfl) (fun _ _ _ h => h) (Or.inl ⟨by rfl, ?_⟩) hHeld ?_
            rotate_left
            · (intro w hSw; (try dsimp only at hSw); go_simp) <;> with_reducible rfl
            try simp only [Act.put, List.setIfInBounds_toArray, List.getElem_toArray, List.getElem_cons_zero, List.getElem_cons_succ, List.set_cons_zero, List.set_cons_succ]
            refine anyU_take (i := 11) (v := ?_) rfl (by kernel_rfl) (fun _ _ _ h => h) (Or.inl ⟨by rfl, ?_⟩) hHeld ?_
            rotate_left
            · (intro w hSw; (try dsimp only at hSw); go_simp) <;> with_reducible rfl
            try simp only [Act.put, List.setIfInBounds_toArray, List.getElem_toArray, List.getElem_cons_zero, List.getElem_cons_succ, List.set_cons_zero, List.set_cons_succ]
            refine anyU_take (i := 12) (v := ?_) rfl (by kernel_rfl) (fun _ _ _ h => h) (Or.inl ⟨by rfl, ?_⟩) hHeld ?_
            rotate_left
            · (intro w hSw; (try dsimp only at hSw); go_simp) <;> with_reducible rfl
            try simp only [Act.put, List.setIfInBounds_toArray, List.getElem_toArray, List.getElem_cons_zero, List.getElem_cons_succ, List.set_cons_zero, List.set_cons_succ]
            refine anyU_take (i := 13) (v := ?_) rfl (by kernel_rfl) (fun _ _ _ h => h) (Or.inl ⟨by rfl, ?_⟩) hHeld ?_
            rotate_left
            · (intro w hSw; (try dsimp only at hSw); go_simp) <;> with_reducible rfl
            try simp only [Act.put, List.setIfInBounds_toArray, List.getElem_toArray, List.getElem_cons_zero, List.getElem_cons_succ, List.set_cons_zero, List.set_cons_succ]
            have HS := hid HS0.out.drew
            clear hHeld
            refine anyU_world (fun w => Hid (S w0 w _)) HS (fun w1 HS => ?_)
            clear HS0
            refine anyU_next (rs := [14]) (by kernel_rfl) (by simp) ?_
            refine NextU.cons rfl (fun K hK => ?_) ?_
            · go_simp
              replace HS := hid (HS.out.alloc_slU (e := 89) (size := 2) (pcells [((kn : Int), fr)]) 1 rfl (by unfold maxLen; omega))
              generalize w1.heap.size = b14 at HS ⊢
              refine act_any (fun w => Hid (S w0 w _)) HS (fun w2 HS => ?_)
              refine hK.out _ _ (fun _ => (HQ.out _ _ (HS.out.nth 2 rfl))) ?_
              clear hK K
              refine anyU_next (rs := [15]) (by kernel_rfl) (by simp) ?_
              refine NextU.cons rfl (fun K hK => ?_) ?_
              · refine step_appU rfl (.tmp 64) (.tmp 74) 78 rfl 89 i0 _ 2 16 Tryz.underlying78 hi0 hz0 hz1 hz2 rfl (by decide) HS.out 1 (by rfl) (by rfl) _ 1 1 (pcells [((kn : Int), fr)]) (by rfl) rfl (HS.out.news_slK 0 (by rfl)) (one_pair _) HA.out (by decide) ?_
                intro v15 w3 hs
                replace HS := hid hs
                clear hs
                obtain ⟨p15, c15, rfl, _, _, _⟩ := HS.out.sl_val
                refine hK.out _ _ (fun _ => (HQ.out _ _ (HS.out.nth 2 rfl))) ?_
                clear hK K
                try simp only [Act.put, List.setIfInBounds_toArray, List.getElem_toArray, List.getElem_cons_zero, List.getElem_cons_succ, List.set_cons_zero, List.set_cons_succ]
                refine anyU_pure (i := 16) (v := ?_) rfl (by kernel_rfl) (fun _ _ _ h => h) (Or.inl ⟨by rfl, ?_⟩) (fun _ => (HQ.out _ _ (HS.out.nth 2 rfl))) ?_
                rotate_left
                · (intro w _; go_simp) <;> with_reducible rfl
                try simp only [Act.put, List.setIfInBounds_toArray, List.getElem_toArray, List.getElem_cons_zero, List.getElem_cons_succ, List.set_cons_zero, List.set_cons_succ]
                refine anyU_take (i := 17) (v := ?_) rfl (by kernel_rfl) (fun _ _ _ h => h) (Or.inl ⟨by rfl, ?_⟩) (HQ.out _ _ (HS.out.nth 2 rfl)) ?_
                rotate_left
                · (intro w hSw; (try dsimp only at hSw); go_simp) <;> with_reducible rfl
                try simp only [Act.put, List.setIfInBounds_toArray, List.getElem_toArray, List.getElem_cons_zero, List.getElem_cons_succ, List.set_cons_zero, List.set_cons_succ]
                refine anyU_next (rs := [18]) (by kernel_rfl) (by simp) ?_
                refine NextU.cons rfl (fun K hK => ?_) ?_
                · have q1 := (HQ.out _ _ (HS.out.nth 2 rfl)).1
                  have q2 := HF.out _ _ (HS.out.nth 2 rfl)
                  go_simp
                  refine hK.out _ _ (fun h => Bool.noConfusion (show true = false from h)) ?_
                  clear hK K q1 q2
                  refine anyU_done (by kernel_rfl) ?_ _
                  have HZ := HS.out
                  simp only [List.eraseIdx_cons_succ, List.eraseIdx_cons_zero] at HZ
                  have h5 := HCL.out _ _ _ (HZ.conv (M := sl 89 2 (.slice p15 ((e.tx i).reads.length + 1) c15) ((e.tx i).reads.length + 1) (pcells (e.tx i).reads ++ pcells [((kn : Int), fr)]) :: rdV b bs k e i wv.heap.size va vv :: storeP 84 b 0 e.V e.last :: tabP 3 b 11 e.t :: sl 89 2 (.slice (some ⟨b14, 0, none⟩) 1 1) 1 (pcells [((kn : Int), fr)]) :: L) (by simp only [all]; ac_rfl))
                  have H5 := hid h5
                  have q0 := HLV.out _ _ h5
                  have q9 := h5.swap.blk_cell 1 rfl
                  clear HZ h5 HS HCL HQ HF HLV
                  go_wp2_with fail
                  go_ret2
                  exact ⟨by rw [HFF.out]; rfl, by rw [HFF.out]; exact H5.out.swap.tail⟩
                exact NextU.nil
              exact NextU.nil
            exact NextU.nil
      · have hf : e.read ((i : Int) + 1) key = (e, 0, 2) := by
          unfold Eng.read
          rw [if_neg (by rw [h1]; decide)]
          simp only [hi2, hw]
          rw [if_pos hk]
        have HF := hid hf
        by_cases hl0 : (e.tx i).level = 0
        · rw [hl0] at c0
          have HRN := hid (read_no b 0 key e.last w0 w _ HS.out hk)
          clear hs hO h1 h2 hf hc hok hi2 hx hw hl hk hl0
          go_enter Tryz.func10, Tryz.ntmps10
          go_wp2_with fail
          with_reducible refine HC.out.mono ?_
          rintro r1 w1 ⟨rfl, rfl⟩
          go_wp2_with (go_at_call 24; with_reducible refine HL.out.mono ?_; rintro r1 w1 ⟨rfl, rfl⟩)
          with_reducible refine HRN.out.mono ?_
          rintro r1 wv ⟨rfl, hs2⟩
          have H3 := hid (hs2.alloc #[.int .i64 0, .int .i64 0] 84)
          clear hs2 HC HL HRN
          go_wp2_with fail
          with_reducible refine (tell_no 2 w0 _ _ hE H3.out).mono ?_
          rintro r1 w3 ⟨rfl, hs4⟩
          have H4 := hid hs4
          clear hs4 H3
          go_wp2_with fail
          go_ret2
          exact ⟨by rw [HF.out]; rfl, by rw [HF.out]; exact H4.out.tail⟩
        · have hb0 : ((e.tx i).level == 0) = false := by simpa using hl0
          have HRN := hid (read_no b 0 key (e.tx i).start w0 w _ HS.out hk)
          clear hs hO h1 h2 hf hc hok hi2 hx hw hl hk hl0
          go_enter Tryz.func10, Tryz.ntmps10
          go_wp2_with fail
          with_reducible refine HC.out.mono ?_
          rintro r1 w1 ⟨rfl, rfl⟩
          go_wp2_with fail
          with_reducible refine HRN.out.mono ?_
          rintro r1 wv ⟨rfl, hs2⟩
          have H3 := hid (hs2.alloc #[.int .i64 0, .int .i64 0] 84)
          clear hs2 HC HL HRN
          go_wp2_with fail
          with_reducible refine (tell_no 2 w0 _ _ hE H3.out).mono ?_
          rintro r1 w3 ⟨rfl, hs4⟩
          have H4 := hid hs4
          clear hs4 H3
          go_wp2_with fail
          go_ret2
          exact ⟨by rw [HF.out]; rfl, by rw [HF.out]; exact H4.out.tail⟩
end Go.Proofs.YtaghjcdlghcjeaaGreatDoor
