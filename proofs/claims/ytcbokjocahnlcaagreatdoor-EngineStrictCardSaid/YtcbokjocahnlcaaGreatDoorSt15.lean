/- Transactions at the same time, all of them strict: what each one read, who is noted ahead of whom, and that nobody that counts stands in the middle. No walk in sight. -/
import Derived.Test.YtcbokjocahnlcaaGreatDoorSt0
import Derived.Test.YtcbokjocahnlcaaGreatDoorSt14
import Derived.Test.YtcbokjocahnlcaaGreatDoorSt9
import Derived.Test.YtcbokjocahnlcaaGreatDoorSt13
/- interleafkeep's tale: what holds of it, act by act; the plain law of EngineSteady. No walk in sight. -/
namespace Go.Proofs.YtcbokjocahnlcaaGreatDoor
open Go Go.RowKit Go.Sep
theorem ofL_eq (l : List (Int × Int)) (key : Int) : ofL l key = (mget l key).getD (-1) := by
 unfold ofL mget
 cases l.find? (fun p => decide (p.1 = key)) <;> rfl
theorem mget_allL (f : Int → Option (Int × Int)) (K : Int) : ∀ n : Nat, mget (allL f n) K = if 0 ≤ K ∧ K < n then (f K).map (·.2) else none
 | 0 => by
  rw [if_neg (by omega)]
  rfl
 | n + 1 => by
  rw [allL_succ, mget_append, mget_allL f K n]
  by_cases h : K = (n : Int)
  ·subst h
   rw [if_neg (by omega), if_pos (by omega)]
   unfold allK
   cases f (n : Int) with
   | none => rfl
   | some p => simp [mget_cons]
  ·have : mget (allK f n) K = none := by
    unfold allK
    cases f (n : Int) with
    | none => rfl
    | some p => rw [mget_cons, if_neg (fun x => h x.symm)]; rfl
   rw [this, Option.or_none]
   by_cases h2 : 0 ≤ K ∧ K < n
   ·rw [if_pos h2, if_pos (by omega)]
   ·rw [if_neg h2, if_neg (by omega)]
theorem ofL_all (e : Eng) {K : Int} (hK : keyOk K) : ofL e.allV K = ((readV (e.row K) e.last).map (·.2)).getD (-1) := by
 rw [ofL_eq]
 unfold Eng.allV
 rw [mget_allL, if_pos (by have := hK.1; have := hK.2; omega)]
theorem state_at {e : Eng} {i : Nat} (hi : i < e.txs.length) : e.state ((i : Int) + 1) = ((e.tx i).state, (e.tx i).why, 0) := by
 have hi2 : ((i : Int) + 1).toNat - 1 = i := by omega
 unfold Eng.state
 have : e.err ((i : Int) + 1) false = 0 := by
  unfold Eng.err
  rw [if_neg (by omega)]
  simp
 rw [if_neg (by simp [this]), hi2]
section
variable {t : Tale} {i j : Nat} {N : Nat}
structure RecOk (e : Eng) (steps : Int) (i : Nat) (r : Rec) : Prop where
 level : r.level = (e.tx i).level
 own : (e.tx i).alive = true → ∀ K, mget r.own K = e.owns i K
 snap : (e.tx i).alive = true → (e.tx i).level ≠ 0 → ∀ K, keyOk K → ofL r.snap K = ((readV (e.row K) (e.tx i).start).map (·.2)).getD (-1)
 times : 0 ≤ r.begun ∧ r.begun ≤ steps ∧ 0 ≤ r.over ∧ r.over ≤ steps
 over : (e.tx i).alive = true ↔ r.over = 0
structure TaleL (t : Tale) : Prop where
 sure : Sure t.e []
 len : t.recs.length = t.e.txs.length
 broken : t.broken = false
 steps : 0 ≤ t.steps
 rec_ : ∀ i, i < t.recs.length → RecOk t.e t.steps i (t.one i)
 order : ∀ i k, i < t.recs.length → k < t.recs.length → (t.e.tx k).alive = false → (t.e.tx k).ended ≤ (t.e.tx i).begun → (t.one k).over < (t.one i).begun
 born : ∀ k i, k < i → i < t.recs.length → (t.e.tx k).begun < (t.e.tx i).begun
 span : ∀ i, i < t.recs.length → (t.e.tx i).alive = false → (t.e.tx i).begun < (t.e.tx i).ended
theorem TaleL.start : TaleL .start where
 sure := Sure.start
 len := rfl
 broken := rfl
 steps := by decide
 rec_ i hi := by simp [Tale.start] at hi
 order i k hi := by simp [Tale.start] at hi
 born k i _ hi := by simp [Tale.start] at hi
 span i hi := by simp [Tale.start] at hi
theorem overStep_keep {β : Type} (g : Rec → β) (hg : ∀ r s, g { r with over := s } = g r) (e : Eng) (steps : Int) (i : Nat) (r : Rec) : g (overStep e steps i r) = g r := by
 unfold overStep; split
 ·exact hg _ _
 ·rfl
theorem overs_one (t : Tale) (hi : i < t.recs.length) : t.overs.one i = overStep t.e t.steps i (t.one i) := by
 unfold Tale.overs Tale.one
 simp [hi]
theorem overs_len (t : Tale) : t.overs.recs.length = t.recs.length := by simp [Tale.overs]
theorem TaleL.acted (h : TaleL t) {e' : Eng} {rs : List Rec} {n' : Int} (hs : Sure e' []) (hl : Later t.e e') (hlen : e'.txs.length = t.e.txs.length) (hrl : rs.length = t.recs.length)
  (hrs : ∀ i, i < t.recs.length → ((rs[i]?).getD .zero).level = (t.one i).level ∧ ((rs[i]?).getD .zero).snap = (t.one i).snap ∧ ((rs[i]?).getD .zero).begun = (t.one i).begun ∧ ((rs[i]?).getD .zero).over = (t.one i).over ∧ ((e'.tx i).alive = true → ∀ K, mget ((rs[i]?).getD .zero).own K = e'.owns i K)) :
  TaleL (Tale.overs { t with e := e', recs := rs, n := n', steps := t.steps + 1 }) := by
 have hst := h.steps
 have hone : ∀ i, i < t.recs.length → (Tale.overs { t with e := e', recs := rs, n := n', steps := t.steps + 1 }).one i = overStep e' (t.steps + 1) i ((rs[i]?).getD .zero) := fun i hi => overs_one _ (by show i < rs.length; omega)
 have hstate : ∀ i, i < t.recs.length → e'.state ((i : Int) + 1) = ((e'.tx i).state, (e'.tx i).why, 0) := fun i hi => state_at (by rw [hlen, ← h.len]; exact hi)
 have hover : ∀ i, i < t.recs.length → ∀ r : Rec, (overStep e' (t.steps + 1) i r).over = if r.over = 0 ∧ (e'.tx i).alive = false then t.steps + 1 else r.over := fun i hi r => by
  have h1 : ((e'.tx i).alive = false) ↔ 2 ≤ (e'.tx i).state := by simp [Tx.alive]; omega
  unfold overStep
  rw [hstate i hi]
  by_cases hc : r.over = 0 ∧ 2 ≤ (e'.tx i).state
  ·rw [if_pos ⟨hc.1, rfl, hc.2⟩, if_pos ⟨hc.1, h1.2 hc.2⟩]
  ·rw [if_neg (fun x => hc ⟨x.1, x.2.2⟩), if_neg (fun x => hc ⟨x.1, h1.1 x.2⟩)]
 refine ⟨hs, ?_, h.broken, by show 0 ≤ t.steps + 1; omega, fun i hi => ?_, fun i k hi hk hd hle => ?_, fun k i hki hi => ?_, fun i hi hd => ?_⟩
 ·rw [overs_len]; show rs.length = e'.txs.length; rw [hrl, hlen, h.len]
 ·rw [overs_len] at hi
  have hi : i < t.recs.length := by rw [← hrl]; exact hi
  have hie : i < t.e.txs.length := by rw [← h.len]; exact hi
  obtain ⟨r1, r2, r3, r4, r5⟩ := h.rec_ i hi
  obtain ⟨q1, q2, q3, q4, q5⟩ := hrs i hi
  obtain ⟨f1, f2, f3⟩ := hl.fix i hie
  rw [hone i hi]
  refine ⟨?_, fun ha K => ?_, fun ha hlv K hK => ?_, ?_, ?_⟩
  ·rw [overStep_keep (·.level) (fun _ _ => rfl), q1, r1]; exact f1.symm
  ·rw [overStep_keep (·.own) (fun _ _ => rfl)]; exact q5 ha K
  ·rw [overStep_keep (·.snap) (fun _ _ => rfl), q2]
   have hlv' : (e'.tx i).level ≠ 0 := hlv
   rw [f1] at hlv'
   show _ = ((readV (e'.row K) (e'.tx i).start).map (·.2)).getD (-1)
   rw [f2, hl.view i hie ha hlv' K hK]
   exact r3 (hl.live i hie ha) hlv' K hK
  ·rw [overStep_keep (·.begun) (fun _ _ => rfl), hover i hi, q3, q4]
   show _ ∧ _ ≤ t.steps + 1 ∧ _ ∧ _ ≤ t.steps + 1
   split <;> omega
  ·rw [hover i hi, q4]
   show (e'.tx i).alive = true ↔ _
   cases ha : (e'.tx i).alive with
   | true =>
    have := r5.1 (hl.live i hie ha)
    simp [this]
   | false =>
    by_cases h0 : (t.one i).over = 0
    ·simp [h0]; omega
    ·simp [h0]
 ·rw [overs_len] at hi hk
  have hi : i < t.recs.length := by rw [← hrl]; exact hi
  have hk : k < t.recs.length := by rw [← hrl]; exact hk
  have hie : i < t.e.txs.length := by rw [← h.len]; exact hi
  have hke : k < t.e.txs.length := by rw [← h.len]; exact hk
  have hd : (e'.tx k).alive = false := hd
  have hle : (e'.tx k).ended ≤ (e'.tx i).begun := hle
  rw [(hl.fix i hie).2.2] at hle
  rw [hone i hi, hone k hk, overStep_keep (·.begun) (fun _ _ => rfl), hover k hk, (hrs i hi).2.2.1, (hrs k hk).2.2.2.1]
  cases hak : (t.e.tx k).alive with
  | true =>
   have := hl.ended k hke hak hd
   have := (h.sure.cnt i hie).1
   omega
  | false =>
   have h5 := (h.rec_ k hk).over
   have h6 : (t.one k).over ≠ 0 := fun x => by rw [h5.2 x] at hak; cases hak
   rw [if_neg (fun x => h6 x.1)]
   rw [(hl.over k hke hak).2.1] at hle
   exact h.order i k hi hk hak hle
 ·rw [overs_len] at hi
  have hi : i < t.recs.length := by rw [← hrl]; exact hi
  have hie : i < t.e.txs.length := by rw [← h.len]; exact hi
  show (e'.tx k).begun < (e'.tx i).begun
  rw [(hl.fix i hie).2.2, (hl.fix k (by omega)).2.2]
  exact h.born k i hki hi
 ·rw [overs_len] at hi
  have hi : i < t.recs.length := by rw [← hrl]; exact hi
  have hie : i < t.e.txs.length := by rw [← h.len]; exact hi
  have hd : (e'.tx i).alive = false := hd
  show (e'.tx i).begun < (e'.tx i).ended
  rw [(hl.fix i hie).2.2]
  cases ha : (t.e.tx i).alive with
  | true =>
   have := hl.ended i hie ha hd
   have := (h.sure.cnt i hie).1
   omega
  | false =>
   rw [(hl.over i hie ha).2.1]; exact h.span i hi ha
theorem TaleL.swept (h : TaleL t) : TaleL { t with e := t.e.sweep.1, steps := t.steps + 1 } := by
 have hl := later_sweep h.sure.rows
 have hst := h.steps
 refine ⟨h.sure.swept, h.len, h.broken, by show 0 ≤ t.steps + 1; omega, fun i hi => ?_, h.order, h.born, h.span⟩
 obtain ⟨r1, r2, r3, r4, r5⟩ := h.rec_ i hi
 refine ⟨r1, r2, fun ha hlv K hK => ?_, by show _ ∧ _ ≤ t.steps + 1 ∧ _ ∧ _ ≤ t.steps + 1; exact ⟨r4.1, by have := r4.2.1; show (t.one i).begun ≤ _; omega, r4.2.2.1, by have := r4.2.2.2; show (t.one i).over ≤ _; omega⟩, r5⟩
 have := hl.view i (by rw [← h.len]; exact hi) ha hlv K hK
 show _ = ((readV (t.e.sweep.1.row K) (t.e.tx i).start).map (·.2)).getD (-1)
 rw [this]
 exact r3 ha hlv K hK
theorem TaleL.began (h : TaleL t) (hok : OkT N t.e []) (level : Int) : TaleL (Tale.began { t with steps := t.steps + 1 } level) := by
 have hst := h.steps
 unfold Tale.began
 simp only
 rcases begin_out t.e level with ⟨b1, b2, b3⟩ | ⟨b1, b2⟩
 ·rw [if_pos b1, b2, b3]
  have hS : Sure (t.e.grown (t.e.fresh level)) [] := by rw [← b3]; exact h.sure.begun hok level
  have hg : ∀ j, j < t.e.txs.length → (t.e.grown (t.e.fresh level)).tx j = t.e.tx j := fun j hj => Eng.grown_tx hj
  have hnew := Eng.grown_last (e := t.e) (t.e.fresh level)
  have hgl := Eng.grown_len (e := t.e) (t.e.fresh level)
  have hbr : (Tale.marked { t with steps := t.steps + 1 } (decide ((t.e.txs.length : Int) + 1 ≠ (t.recs.length : Int) + 1))).broken = false := by
   unfold Tale.marked
   simp [h.broken, h.len]
  have hEV : (t.e.grown (t.e.fresh level)).V = t.e.V := rfl
  generalize t.e.grown (t.e.fresh level) = E at *
  have hone : ∀ j, j < t.recs.length → ((t.recs ++ [(⟨level, t.e.allV, [], [], t.steps + 1, 0⟩ : Rec)])[j]?).getD .zero = t.one j := fun j hj => by
   unfold Tale.one; rw [List.getElem?_append_left hj]
  have hlast : ((t.recs ++ [(⟨level, t.e.allV, [], [], t.steps + 1, 0⟩ : Rec)])[t.recs.length]?).getD .zero = ⟨level, t.e.allV, [], [], t.steps + 1, 0⟩ := by simp
  have hlen := h.len
  have hcase : ∀ j, j < t.recs.length + 1 → j < t.recs.length ∨ j = t.recs.length := fun j hj => by omega
  refine ⟨hS, ?_, hbr, ?_, fun i hi => ?_, fun i k hi hk hd hle => ?_, fun k i hki hi => ?_, fun i hi hd => ?_⟩
  ·show (t.recs ++ [_]).length = E.txs.length
   rw [List.length_append, hgl, h.len]; rfl
  ·show 0 ≤ t.steps + 1; omega
  ·have hi : i < t.recs.length + 1 := by simpa using hi
   rcases hcase i hi with h1 | rfl
   ·show RecOk E (t.steps + 1) i (((t.recs ++ [_])[i]?).getD .zero)
    rw [hone i h1]
    obtain ⟨r1, r2, r3, r4, r5⟩ := h.rec_ i h1
    have h2 := hg i (by omega)
    have hl := later_begin t.e level
    rw [b3] at hl
    refine ⟨by rw [h2]; exact r1, fun ha K => ?_, fun ha hlv K hK => ?_, by omega, by rw [h2]; exact r5⟩
    ·rw [h2] at ha
     rw [owns_congr (congrArg (·.state) h2) (congrArg (·.writes) h2) (congrArg (·.want) h2)]
     exact r2 ha K
    ·rw [h2] at ha hlv ⊢
     rw [hl.view i (by omega) (by rw [h2]; exact ha) hlv K hK]
     exact r3 ha hlv K hK
   ·show RecOk E (t.steps + 1) _ (((t.recs ++ [_])[t.recs.length]?).getD .zero)
    rw [hlast, hlen]
    have hV : ∀ K, E.row K = t.e.row K := fun K => by
     have := later_begin t.e level
     have e1 : E.V = t.e.V := by exact hEV
     unfold Eng.row; rw [e1]
    refine ⟨by rw [hnew]; rfl, fun _ K => ?_, fun _ _ K hK => ?_, by simp; omega, by rw [hnew]; simp [Tx.alive, Tx.zero, Eng.fresh]⟩
    ·unfold Eng.owns Tx.owns; rw [hnew]; simp [Tx.zero, mget_nil, Eng.fresh]
    ·rw [hnew, hV]; exact ofL_all t.e hK
  ·have hi : i < t.recs.length + 1 := by simpa using hi
   have hk : k < t.recs.length + 1 := by simpa using hk
   have hd : (E.tx k).alive = false := hd
   have hle : (E.tx k).ended ≤ (E.tx i).begun := hle
   show (((t.recs ++ [(⟨level, t.e.allV, [], [], t.steps + 1, 0⟩ : Rec)])[k]?).getD Rec.zero).over < (((t.recs ++ [(⟨level, t.e.allV, [], [], t.steps + 1, 0⟩ : Rec)])[i]?).getD Rec.zero).begun
   rcases hcase k hk with h1 | rfl
   ·rw [hone k h1]
    rw [hg k (by omega)] at hd hle
    rcases hcase i hi with h2 | rfl
    ·rw [hone i h2]
     rw [hg i (by omega)] at hle
     exact h.order i k h2 h1 hd hle
    ·rw [hlast]
     have := (h.rec_ k h1).times
     show (t.one k).over < t.steps + 1
     omega
   ·rw [hlen, hnew] at hd
    simp [Tx.alive, Tx.zero, Eng.fresh] at hd
  ·have hi : i < t.recs.length + 1 := by simpa using hi
   show (E.tx k).begun < (E.tx i).begun
   rcases hcase i hi with h1 | rfl
   ·rw [hg i (by omega), hg k (by omega)]; exact h.born k i hki h1
   ·rw [hg k (by omega), hlen, hnew]
    have := (h.sure.cnt k (by omega)).1
    show _ < t.e.count + 1
    omega
  ·have hi : i < t.recs.length + 1 := by simpa using hi
   have hd : (E.tx i).alive = false := hd
   show (E.tx i).begun < (E.tx i).ended
   rcases hcase i hi with h1 | rfl
   ·rw [hg i (by omega)] at hd ⊢; exact h.span i h1 hd
   ·rw [hlen, hnew] at hd
    simp [Tx.alive, Tx.zero, Eng.fresh] at hd
 ·rw [if_neg b1, b2]
  refine ⟨h.sure, h.len, h.broken, by show 0 ≤ t.steps + 1; omega, fun i hi => ?_, h.order, h.born, h.span⟩
  obtain ⟨r1, r2, r3, r4, r5⟩ := h.rec_ i hi
  exact ⟨r1, r2, r3, ⟨r4.1, by have := r4.2.1; show (t.one i).begun ≤ t.steps + 1; omega, r4.2.2.1, by have := r4.2.2.2; show (t.one i).over ≤ t.steps + 1; omega⟩, r5⟩
theorem TaleL.same (h : TaleL t) : TaleL { t with steps := t.steps + 1 } := by
 have hst := h.steps
 refine ⟨h.sure, h.len, h.broken, by show 0 ≤ t.steps + 1; omega, fun i hi => ?_, h.order, h.born, h.span⟩
 obtain ⟨r1, r2, r3, r4, r5⟩ := h.rec_ i hi
 exact ⟨r1, r2, r3, ⟨r4.1, by have := r4.2.1; show (t.one i).begun ≤ t.steps + 1; omega, r4.2.2.1, by have := r4.2.2.2; show (t.one i).over ≤ t.steps + 1; omega⟩, r5⟩
theorem read_len (t : Tale) (n key : Int) : (t.e.read n key).1.txs.length = t.e.txs.length := by
 have hc := read_case t.e n key
 generalize t.e.read n key = r at hc
 have hsl : ∀ i, ((t.e.noted i key).sees i key).1.txs.length = t.e.txs.length := fun i =>
  sees_keep (P := fun f => f.txs.length = t.e.txs.length) (fun f a b hf => by rw [Eng.note_len]; exact hf) (noted_len ..)
 cases hc with
 | err => rfl
 | own => rfl
 | plain => exact noted_len ..
 | seen i => exact hsl i
 | gone i hn hi => rw [goes_len]; exact hsl i
theorem write_len (hok : OkT N t.e []) (n key value : Int) : (t.e.write n key value).1.txs.length = t.e.txs.length := by
 have hc := write_case hok n key value
 generalize t.e.write n key value = r at hc
 cases hc with
 | err => rfl
 | cycle i => rw [goes_len]; exact Eng.upd_len ..
 | waits i => rw [Eng.upd_len]; exact Eng.upd_len ..
 | puts i => rw [puts_len]; exact Eng.upd_len ..
theorem commit_len (e : Eng) (n : Int) : (e.commit n).1.txs.length = e.txs.length := by
 by_cases h0 : e.ready n = 0
 ·obtain ⟨i, rfl, hi, hs⟩ := ready_at h0
  rw [commit_eq e i h0, frees_len, ← over2_len e i]; rfl
 ·unfold Eng.commit
  rw [if_pos h0]
  simp only
  split
  ·exact goes_len ..
  ·rfl
theorem abort_len (e : Eng) (n : Int) : (e.abort n).1.txs.length = e.txs.length := by
 rcases abort_case e n with ⟨x, _, hx⟩ | ⟨i, rfl, hi, hs, hx⟩
 ·rw [hx]
 ·rw [hx]; exact goes_len ..
theorem TaleL.reads (h : TaleL t) {x : Nat} (hx : x < t.recs.length) {K : Int} (hK : keyOk K) :
  ((t.e.read ((x : Int) + 1) K).2.2 ≠ 0 ∧ (t.e.read ((x : Int) + 1) K).2.2 ≠ 8) ∨ ∃ v, v = (if (t.e.read ((x : Int) + 1) K).2.2 = 8 then -1 else (t.e.read ((x : Int) + 1) K).2.1) ∧
   (match mget (t.one x).own K with | some w => v = w | none => v = if (t.one x).level = 0 then ofL t.e.allV K else ofL (t.one x).snap K) := by
 have hc := read_case t.e ((x : Int) + 1) K
 generalize t.e.read ((x : Int) + 1) K = r at hc
 obtain ⟨r1, r2, r3, r4, r5⟩ := h.rec_ x hx
 have hopen : ∀ i : Nat, (x : Int) + 1 = (i : Int) + 1 → (t.e.tx i).state = 0 → i = x ∧ mget (t.one x).own K = mget (t.e.tx x).writes K := fun i hi hs => by
  obtain rfl : i = x := by omega
  refine ⟨rfl, ?_⟩
  rw [r2 (state_alive hs) K]
  unfold Eng.owns Tx.owns; simp [hs]
 have hplain : ∀ i : Nat, (x : Int) + 1 = (i : Int) + 1 → (t.e.tx i).state = 0 → mget (t.e.tx i).writes K = none → (if (if (readV (t.e.row K) (t.e.asOf i)).isSome then (0 : Int) else 8) = 8 then -1 else ((readV (t.e.row K) (t.e.asOf i)).map (·.2)).getD 0) = if (t.one x).level = 0 then ofL t.e.allV K else ofL (t.one x).snap K := fun i hn hs hv => by
  obtain rfl : i = x := by omega
  have e1 : (if (if (readV (t.e.row K) (t.e.asOf i)).isSome then (0 : Int) else 8) = 8 then -1 else ((readV (t.e.row K) (t.e.asOf i)).map (·.2)).getD 0) = ((readV (t.e.row K) (t.e.asOf i)).map (·.2)).getD (-1) := by
   cases readV (t.e.row K) (t.e.asOf i) <;> simp
  rw [e1, r1]
  unfold Eng.asOf
  by_cases hl : (t.e.tx i).level = 0
  ·rw [if_pos hl, if_pos hl, ofL_all _ hK]
  ·rw [if_neg hl, if_neg hl, r3 (state_alive hs) hl K hK]
 cases hc with
 | err y h0 h8 => exact .inl ⟨h0, h8⟩
 | own i v hn hi hs hv =>
  right
  obtain ⟨rfl, ho⟩ := hopen i hn hs
  refine ⟨_, rfl, ?_⟩
  rw [ho, hv]
  rfl
 | plain i hn hi hs hv hk hl =>
  right
  have hp := hplain i hn hs hv
  obtain ⟨rfl, ho⟩ := hopen i hn hs
  refine ⟨_, rfl, ?_⟩
  rw [ho, hv]
  exact hp
 | seen i hn hi hs hv hk hl hr =>
  right
  have hp := hplain i hn hs hv
  obtain ⟨rfl, ho⟩ := hopen i hn hs
  refine ⟨_, rfl, ?_⟩
  rw [ho, hv]
  exact hp
 | gone => exact .inl ⟨(by decide : (13 : Int) ≠ 0), (by decide : (13 : Int) ≠ 8)⟩
theorem marked_not (t : Tale) : t.marked false = t := by unfold Tale.marked; simp
theorem updR_get (f : Rec → Rec) (x i : Nat) : (((t.updR x f).recs[i]?).getD .zero) = if i = x ∧ i < t.recs.length then f (t.one i) else t.one i := by
 unfold Tale.updR Tale.one
 simp only [List.getElem?_modify]
 by_cases hi : i < t.recs.length
 ·by_cases h : x = i
  ·subst h; simp [hi]
  ·simp [h, hi, Ne.symm h]
 ·simp [hi]
theorem TaleL.act_read (h : TaleL t) (hok : OkT N t.e []) {x : Nat} (hx : x < t.recs.length) {K : Int} (hK : keyOk K) : TaleL ((Tale.act { t with steps := t.steps + 1 } 1 x K).overs) := by
 have hr := h.reads hx hK
 have hl := later_read hok ((x : Int) + 1) K
 have hS := h.sure.red hok ((x : Int) + 1) K
 have hO := owns_read h.sure hok ((x : Int) + 1) K
 have hN := hok.red ((x : Int) + 1) K
 have hlen := read_len t ((x : Int) + 1) K
 have hown : ∀ i, i < t.recs.length → ((t.e.read ((x : Int) + 1) K).1.tx i).alive = true → ∀ K', mget (t.one i).own K' = (t.e.read ((x : Int) + 1) K).1.owns i K' := fun i hi ha K' => by
  have hie : i < t.e.txs.length := by rw [← h.len]; exact hi
  rw [hO i hie ha]; exact (h.rec_ i hi).own (hl.live i hie ha) K'
 have hgo : Tale.act { t with steps := t.steps + 1 } 1 x K = Tale.read { t with steps := t.steps + 1 } x K := rfl
 rw [hgo]
 unfold Tale.read
 simp only
 have hone : (Tale.one { t with steps := t.steps + 1 } x) = t.one x := rfl
 rw [hone]
 by_cases hb : (t.e.read ((x : Int) + 1) K).2.2 ≠ 0 ∧ (t.e.read ((x : Int) + 1) K).2.2 ≠ 8
 ·rw [if_pos hb]
  exact h.acted (n' := t.n) hS hl hlen rfl fun i hi => ⟨rfl, rfl, rfl, rfl, hown i hi⟩
 ·rw [if_neg hb]
  rcases hr with hr | ⟨v, hv, hr⟩
  ·exact absurd hr hb
  ·rw [← hv]
   cases hm : mget (t.one x).own K with
   | some w =>
    rw [hm] at hr
    simp only at hr ⊢
    rw [show decide (v ≠ w) = false by simp [hr], marked_not]
    exact h.acted (n' := t.n) hS hl hlen rfl fun i hi => ⟨rfl, rfl, rfl, rfl, hown i hi⟩
   | none =>
    rw [hm] at hr
    simp only at hr ⊢
    rw [show decide (v ≠ if (t.one x).level = 0 then ofL t.e.allV K else ofL (t.one x).snap K) = false by simp [hr], marked_not]
    refine h.acted (n' := t.n) (rs := (t.updR x fun r => { r with reads := r.reads ++ [(K, v)] }).recs) hS hl hlen (by simp [Tale.updR]) fun i hi => ?_
    rw [updR_get]
    split
    ·exact ⟨rfl, rfl, rfl, rfl, hown i hi⟩
    ·exact ⟨rfl, rfl, rfl, rfl, hown i hi⟩
theorem nowait_rule (i : Nat) : Rule fun e _ => (e.tx i).state ≠ 1 where
 hand N e w T h p := by
  unfold Eng.opens; rw [Eng.upd_tx]; split
  ·simp
  ·exact p
 late N e j w T h hl p := by
  rw [left_tx]; split
  ·simp
  ·exact p
 put N e j w T h hl h2 p := by
  rw [wput_tx]; split
  ·exact p
  ·exact p
 puts N e j w T h hl h2 p := by
  rw [wput_tx]; split
  ·exact p
  ·exact p
 asked N e j key T h p := p
 skip N e j k key l T h hs p := p
 note N e j k key l T h hs hb p := by rw [Eng.note_state]; exact p
 wrong N e j k key l T h hs hb p := by
  rw [left_tx]; split
  ·simp
  ·rw [Eng.note_state]; exact p
theorem open_stays {e : Eng} {w : Int × Int} (h : OkT N e [.put i w]) (hs : (e.tx i).state = 0) : ((e.puts i w).tx i).state ≠ 1 := (nowait_rule i).putsE h (by omega)
theorem write_open (hok : OkT N t.e []) {x : Nat} (hx : x < t.e.txs.length) {K value : Int} (h0 : (t.e.write ((x : Int) + 1) K value).2.2 = 0) : ((t.e.write ((x : Int) + 1) K value).2.1 = decide (((t.e.write ((x : Int) + 1) K value).1.tx x).state = 0)) ∧ ((t.e.write ((x : Int) + 1) K value).1.tx x).alive = true := by
 have hc := write_case hok ((x : Int) + 1) K value
 have hO := hok.wrote ((x : Int) + 1) K value
 have hlen := write_len hok ((x : Int) + 1) K value
 generalize t.e.write ((x : Int) + 1) K value = r at *
 cases hc with
 | err y hy => exact absurd h0 hy
 | cycle i => cases h0
 | waits i a hn hi hs hk hv hh ha =>
  obtain rfl : i = x := by omega
  have e1 : (((t.e.wanting i (K, value)).table (waitT t.e.t ((i : Int) + 1) K)).upd i fun x => { x with state := 1 }).tx i = { ((t.e.wanting i (K, value)).table (waitT t.e.t ((i : Int) + 1) K)).tx i with state := 1 } := by
   rw [Eng.upd_self (by show i < (t.e.wanting i (K, value)).txs.length; rw [show (t.e.wanting i (K, value)).txs.length = t.e.txs.length from Eng.upd_len ..]; exact hi)]
  simp only [e1]
  exact ⟨by decide, by simp [Tx.alive]⟩
 | puts i t' hn hi hs hk hv ht r hr =>
  obtain rfl : i = x := by omega
  obtain ⟨p1, p2, p3⟩ := put_ok hok hi hs hk hv ht
  have hw := puts_why ((t.e.wanting i (K, value)).table t') i i (K, value) (by intro h3; rw [p3] at h3; cases h3)
  have h0 : r.2 = 0 := h0
  split at hr
  ·rename_i h3
   rw [hr.2] at h0
   exact absurd h0 (hw h3)
  ·rename_i h3
   have hx2 := hO.at (i := i) (by rw [hlen]; exact hx)
   have hsame := same_puts p1
   have hal := hsame.live i (state_alive p3)
   rcases hal with hal | hal
   ·refine ⟨?_, hal⟩
    have := open_stays p1 p3
    rw [hr]
    simp only
    rcases hx2.alive_cases hal with h5 | h5
    ·have h5' : ((((t.e.wanting i (K, value)).table t').puts i (K, value)).tx i).state = 0 := h5
     simp [h5']
    ·exfalso
     exact this h5
   ·exact absurd hal.1 h3
theorem TaleL.act_write (h : TaleL t) (hok : OkT N t.e []) {x : Nat} (hx : x < t.recs.length) (K : Int) : TaleL ((Tale.act { t with steps := t.steps + 1 } 2 x K).overs) := by
 have hxe : x < t.e.txs.length := by rw [← h.len]; exact hx
 have hl := later_write hok ((x : Int) + 1) K (t.n + 1)
 have hS := h.sure.wrote hok ((x : Int) + 1) K (t.n + 1)
 have hO := owns_write h.sure hok ((x : Int) + 1) K (t.n + 1)
 have hN := hok.wrote ((x : Int) + 1) K (t.n + 1)
 have hlen := write_len hok ((x : Int) + 1) K (t.n + 1)
 have hop := fun h0 => write_open hok hxe (K := K) (value := t.n + 1) h0
 have hs2 := state_at (e := (t.e.write ((x : Int) + 1) K (t.n + 1)).1) (i := x) (by rw [hlen]; exact hxe)
 have hs1 := state_at hxe
 have hgo : Tale.act { t with steps := t.steps + 1 } 2 x K = Tale.write { t with steps := t.steps + 1 } x K := rfl
 rw [hgo]
 unfold Tale.write
 simp only [hs2, hs1]
 have hown0 : ∀ i, i < t.recs.length → ((t.e.write ((x : Int) + 1) K (t.n + 1)).1.tx i).alive = true → ∀ K', mget (t.one i).own K' = t.e.owns i K' := fun i hi ha K' => by
  have hie : i < t.e.txs.length := by rw [← h.len]; exact hi
  exact (h.rec_ i hi).own (hl.live i hie ha) K'
 by_cases hc : (t.e.tx x).state = 0 ∧ (t.e.write ((x : Int) + 1) K (t.n + 1)).2.2 = 0
 ·rw [if_pos ⟨trivial, hc.1, hc.2⟩]
  rw [show decide ((t.e.write ((x : Int) + 1) K (t.n + 1)).2.1 ≠ decide (((t.e.write ((x : Int) + 1) K (t.n + 1)).1.tx x).state = 0)) = false by simp [(hop hc.2).1], marked_not]
  refine h.acted (n' := t.n + 1) (rs := (t.updR x fun q => { q with own := mput q.own K (t.n + 1) }).recs) hS hl hlen (by simp [Tale.updR]) fun i hi => ?_
  have hie : i < t.e.txs.length := by rw [← h.len]; exact hi
  rw [updR_get]
  by_cases hix : i = x
  ·subst hix
   rw [if_pos ⟨rfl, hi⟩]
   refine ⟨rfl, rfl, rfl, rfl, fun ha K' => ?_⟩
   rw [hO i hie ha, mget_put]
   by_cases hK : K' = K
   ·rw [if_pos hK, if_pos ⟨hc.1, rfl, hc.2, hK⟩]
   ·rw [if_neg hK, if_neg (fun x => hK x.2.2.2)]; exact hown0 i hi ha K'
  ·rw [if_neg (fun x => hix x.1)]
   refine ⟨rfl, rfl, rfl, rfl, fun ha K' => ?_⟩
   rw [hO i hie ha, if_neg (fun c => hix (by have := c.2.1; omega))]; exact hown0 i hi ha K'
 ·rw [if_neg (fun c => hc ⟨c.2.1, c.2.2⟩)]
  refine h.acted (n' := t.n + 1) (rs := t.recs) hS hl hlen rfl fun i hi => ⟨rfl, rfl, rfl, rfl, fun ha K' => ?_⟩
  have hie : i < t.e.txs.length := by rw [← h.len]; exact hi
  rw [hO i hie ha, if_neg]
  ·exact hown0 i hi ha K'
  ·intro c
   obtain rfl : i = x := by have := c.2.1; omega
   exact hc ⟨c.1, c.2.2.1⟩
theorem TaleL.acted_own (h : TaleL t) {e' : Eng} (hs : Sure e' []) (hl : Later t.e e') (hlen : e'.txs.length = t.e.txs.length) (hO : Owns t.e e') : TaleL (Tale.overs { t with e := e', steps := t.steps + 1 }) :=
 h.acted (n' := t.n) (rs := t.recs) hs hl hlen rfl fun i hi => ⟨rfl, rfl, rfl, rfl, fun ha K' => by
  have hie : i < t.e.txs.length := by rw [← h.len]; exact hi
  rw [hO i hie ha]; exact (h.rec_ i hi).own (hl.live i hie ha) K'⟩
theorem TaleL.does (h : TaleL t) (hok : OkT N t.e []) (a : Act1) (level : Int) : TaleL (t.does a level) := by
 unfold Tale.does
 simp only
 split
 ·exact h.began hok _
 ·split
  ·exact h.swept
  ·split
   ·exact h.same
   ·rename_i hne
    have hpos := List.length_pos_iff.2 hne
    have hp := pickN_lt a.tx (n := min 6 t.recs.length) (by omega)
    have hx : t.recs.length - pickN a.tx (min 6 t.recs.length) - 1 < t.recs.length := by omega
    have hK : keyOk (pickN a.key 4 : Int) := by have := pickN_lt a.key (n := 4) (by omega); exact ⟨by omega, by omega⟩
    generalize t.recs.length - pickN a.tx (min 6 t.recs.length) - 1 = x at hx
    generalize (pickN a.key 4 : Int) = K at hK
    by_cases h1 : a.what = 1
    ·rw [h1]; exact h.act_read hok hx hK
    ·by_cases h2 : a.what = 2
     ·rw [h2]; exact h.act_write hok hx K
     ·unfold Tale.act
      rw [if_neg h1, if_neg h2]
      split
      ·exact h.acted_own (h.sure.committed hok _) (h.sure.later_commit hok _) (commit_len ..) (owns_commit h.sure hok _)
      ·split
       ·exact h.acted_own (h.sure.aborted hok _) (later_abort hok _) (abort_len ..) (owns_abort h.sure hok _)
       ·exact h.acted_own h.sure (.refl _) rfl (fun _ _ _ _ => rfl)
end
end Go.Proofs.YtcbokjocahnlcaaGreatDoor
/- interleafkeep's tale: the plain law of EngineMoves: who waits waits for one that is not over; somebody is open; what is committed is what committed ones wrote last. No walk in sight. -/
namespace Go.Proofs.YtcbokjocahnlcaaGreatDoor
open Go Go.RowKit Go.Sep
section
variable {e e' e0 : Eng} {i j : Nat} {N : Nat} {T U : List Task} {t : Tale}
def lastStep (K : Int) (r : Option Int) (o : Op1) : Option Int := if o.wr = true ∧ o.key = K then some o.tx else r
def lastW (l : List Op1) (K : Int) : Option Int := l.foldl (lastStep K) none
def mapStep (D : List (Int × Int)) (o : Op1) : List (Int × Int) := if o.wr = true then mput D o.key o.tx else D
def lastMap (l : List Op1) : List (Int × Int) := l.foldl mapStep []
theorem foldl_map (K : Int) : ∀ (l : List Op1) (D : List (Int × Int)), mget (l.foldl mapStep D) K = l.foldl (lastStep K) (mget D K)
 | [], D => rfl
 | o :: l, D => by
  simp only [List.foldl_cons]
  rw [foldl_map K l]
  congr 1
  unfold mapStep lastStep
  by_cases h : o.wr = true
  ·rw [if_pos h, mget_put]
   by_cases hk : K = o.key
   ·rw [if_pos hk, if_pos ⟨h, hk.symm⟩]
   ·rw [if_neg hk, if_neg (fun x => hk x.2.symm)]
  ·rw [if_neg h, if_neg (fun x => h x.1)]
theorem lastMap_get (l : List Op1) (K : Int) : mget (lastMap l) K = lastW l K := by
 unfold lastMap lastW
 rw [foldl_map]; rfl
theorem foldl_nodup : ∀ (l : List Op1) (D : List (Int × Int)), (D.map (·.1)).Nodup → ((l.foldl mapStep D).map (·.1)).Nodup
 | [], D, h => h
 | o :: l, D, h => by
  refine foldl_nodup l _ ?_
  unfold mapStep
  split
  ·exact keys_put_nodup h _ _
  ·exact h
theorem lastMap_nodup (l : List Op1) : ((lastMap l).map (·.1)).Nodup := foldl_nodup l [] (by simp)
theorem foldl_none {K : Int} : ∀ (l : List Op1) (r : Option Int), (∀ o ∈ l, ¬(o.wr = true ∧ o.key = K)) → l.foldl (lastStep K) r = r
 | [], r, _ => rfl
 | o :: l, r, h => by
  simp only [List.foldl_cons]
  rw [foldl_none l _ fun o ho => h o (List.mem_cons_of_mem _ ho)]
  unfold lastStep
  rw [if_neg (h o (List.mem_cons_self ..))]
theorem foldl_some {K n : Int} : ∀ (l : List Op1) (r : Option Int), (∀ o ∈ l, o.tx = n) → (∃ o ∈ l, o.wr = true ∧ o.key = K) → l.foldl (lastStep K) r = some n
 | [], r, _, h => by obtain ⟨o, ho, _⟩ := h; simp at ho
 | o :: l, r, h1, h2 => by
  simp only [List.foldl_cons]
  by_cases h3 : ∃ o ∈ l, o.wr = true ∧ o.key = K
  ·exact foldl_some l _ (fun o ho => h1 o (List.mem_cons_of_mem _ ho)) h3
  ·rw [foldl_none l _ fun o ho hc => h3 ⟨o, ho, hc⟩]
   obtain ⟨o', ho', hc⟩ := h2
   rcases List.mem_cons.1 ho' with rfl | ho'
   ·unfold lastStep; rw [if_pos hc, h1 _ (List.mem_cons_self ..)]
   ·exact absurd ⟨o', ho', hc⟩ h3
theorem toldL_tx {n : Int} {x : Tx} : ∀ o ∈ toldL n x, o.tx = n := by
 intro o ho
 unfold toldL at ho
 rcases List.mem_append.1 ho with ho | ho
 ·obtain ⟨r, _, rfl⟩ := List.mem_map.1 ho; rfl
 ·obtain ⟨r, _, rfl⟩ := List.mem_map.1 ho; rfl
theorem toldL_wr {n : Int} {x : Tx} {K : Int} : (∃ o ∈ toldL n x, o.wr = true ∧ o.key = K) ↔ x.wrote K = true := by
 unfold toldL
 constructor
 ·rintro ⟨o, ho, hw, hk⟩
  rcases List.mem_append.1 ho with ho | ho
  ·obtain ⟨r, _, rfl⟩ := List.mem_map.1 ho; cases hw
  ·obtain ⟨p, hp, rfl⟩ := List.mem_map.1 ho
   simp only at hk
   unfold Tx.wrote
   rw [← hk, mem_written.1 hp]; rfl
 ·intro h
  unfold Tx.wrote at h
  obtain ⟨v, hv⟩ := Option.isSome_iff_exists.1 h
  exact ⟨⟨n, K, true, 0⟩, List.mem_append_right _ (List.mem_map.2 ⟨(K, v), mem_written.2 hv, rfl⟩), rfl, rfl⟩
theorem lastW_told (l : List Op1) (n : Int) (x : Tx) (K : Int) : lastW (l ++ toldL n x) K = if x.wrote K = true then some n else lastW l K := by
 unfold lastW
 rw [List.foldl_append]
 by_cases h : x.wrote K = true
 ·rw [if_pos h]; exact foldl_some _ _ toldL_tx (toldL_wr.2 h)
 ·rw [if_neg h]; exact foldl_none _ _ fun o ho hc => h (toldL_wr.1 ⟨o, ho, hc⟩)
structure HistOk (e : Eng) : Prop where
 keys : ∀ o ∈ e.hist, o.wr = true → keyOk o.key
 lack : ∀ K, keyOk K → lastW e.hist K = none → readV (e.row K) e.last = none
 has : ∀ K n, keyOk K → lastW e.hist K = some n → ∃ (i : Nat) (a v : Int), n = (i : Int) + 1 ∧ i < e.txs.length ∧ (e.tx i).state = 2 ∧ mget (e.tx i).writes K = some v ∧ readV (e.row K) e.last = some (a, v)
theorem HistOk.start : HistOk Eng.zero := by
 refine ⟨by simp [Eng.zero], fun K hK _ => ?_, fun K n _ h => by cases h⟩
 have : Eng.zero.row K = [] := by
  unfold Eng.row Eng.zero
  simp only [List.getElem?_replicate]
  split <;> rfl
 rw [this]; rfl
theorem HistOk.later (h : HistOk e) (hl : Later e e') (hh : e'.hist = e.hist) (hr : ∀ K, keyOk K → readV (e'.row K) e'.last = readV (e.row K) e.last) : HistOk e' := by
 refine ⟨by rw [hh]; exact h.keys, fun K hK hn => by rw [hr K hK]; exact h.lack K hK (by rw [← hh]; exact hn), fun K n hK hn => ?_⟩
 rw [hh] at hn
 obtain ⟨i, a, v, h1, h2, h3, h4, h5⟩ := h.has K n hK hn
 obtain ⟨o1, _, o3, _⟩ := hl.over i h2 (by simp [Tx.alive, h3])
 exact ⟨i, a, v, h1, by have := hl.len; omega, by rw [o1]; exact h3, by rw [o3]; exact h4, by rw [hr K hK]; exact h5⟩
def Still (e e' : Eng) : Prop := e'.V = e.V ∧ e'.last = e.last ∧ e'.hist = e.hist ∧ e'.wr = e.wr
theorem Still.trans {a b c : Eng} (h : Still a b) (g : Still b c) : Still a c := ⟨g.1.trans h.1, g.2.1.trans h.2.1, g.2.2.1.trans h.2.2.1, g.2.2.2.trans h.2.2.2⟩
theorem Same.still (h : Same e e') : Still e e' := ⟨h.V, h.last, h.hist, h.wr⟩
theorem HistOk.still (h : HistOk e) (hl : Later e e') (hs : Still e e') : HistOk e' := h.later hl hs.2.2.1 fun K _ => by unfold Eng.row; rw [hs.1, hs.2.1]
theorem still_begin (e : Eng) (level : Int) : Still e (e.begin_ level).1 := by
 rcases begin_out e level with ⟨_, _, b3⟩ | ⟨_, b2⟩
 ·rw [b3]; exact ⟨rfl, rfl, rfl, rfl⟩
 ·rw [b2]; exact ⟨rfl, rfl, rfl, rfl⟩
theorem still_sees (key : Int) : Still e (e.sees i key).1 := sees_keep (P := fun f => Still e f) (fun _ _ _ hf => hf) ⟨rfl, rfl, rfl, rfl⟩
theorem still_read (hok : OkT N e []) (n key : Int) : Still e (e.read n key).1 := by
 have hc := read_case e n key
 generalize e.read n key = r at hc
 cases hc with
 | err => exact ⟨rfl, rfl, rfl, rfl⟩
 | own => exact ⟨rfl, rfl, rfl, rfl⟩
 | plain => exact ⟨rfl, rfl, rfl, rfl⟩
 | seen i hn hi hs hv hk hl hr => exact still_sees (e := e.noted i key) key
 | gone i hn hi hs hv hk hl hr =>
  have h1 := hok.noted1 hi key
  have hi1 : i < (e.noted i key).txs.length := by rw [noted_len]; exact hi
  obtain ⟨g1, g2, g3, _⟩ := sees_ok h1 hi1 key
  have hal : (((e.noted i key).sees i key).1.tx i).alive = true := by
   rw [alive_of_state (g3 i)]
   rw [noted_tx e i key (·.alive) (fun _ _ => rfl)]; exact state_alive hs
  exact Still.trans (still_sees (e := e.noted i key) key) (same_goes g1 (by rw [g2]; exact hi1) hal 13).still
theorem still_write (h : OkT N e []) (n key value : Int) : Still e (e.write n key value).1 := by
 have hc := write_case h n key value
 generalize e.write n key value = r at hc
 cases hc with
 | err => exact ⟨rfl, rfl, rfl, rfl⟩
 | cycle i hn hi hs hk hv =>
  have ha : (((e.wanting i (key, value)).table e.t).tx i).alive = true := (wanting_tx e i _ (·.alive) (fun _ _ => rfl) i).trans (state_alive hs)
  exact (same_goes (cycle_ok h hi hk hv) (by show i < (e.wanting i (key, value)).txs.length; rw [show (e.wanting i (key, value)).txs.length = e.txs.length from Eng.upd_len ..]; exact hi) ha 11).still
 | waits => exact ⟨rfl, rfl, rfl, rfl⟩
 | puts i t' hn hi hs hk hv ht r hr => exact (same_puts (put_ok h hi hs hk hv ht).1).still
theorem still_abort (h : OkT N e []) (n : Int) : Still e (e.abort n).1 := by
 rcases abort_case e n with ⟨x, _, hx⟩ | ⟨i, rfl, hi, hs, hx⟩
 ·rw [hx]; exact ⟨rfl, rfl, rfl, rfl⟩
 ·rw [hx]; exact (same_goes h hi (by simp [Tx.alive]; omega) 0).still
theorem find_congr {α : Type} {p q : α → Bool} : ∀ {l : List α}, (∀ x ∈ l, p x = q x) → l.find? p = l.find? q
 | [], _ => rfl
 | x :: l, h => by
  rw [List.find?_cons, List.find?_cons, h x (List.mem_cons_self ..), find_congr fun y hy => h y (List.mem_cons_of_mem _ hy)]
theorem readV_up {vs : Vers} {a b : Int} (h : ∀ p ∈ vs, p.1 ≤ a) (hab : a ≤ b) : readV vs b = readV vs a := by
 unfold readV
 refine find_congr fun p hp => ?_
 have := h p (List.mem_reverse.1 hp)
 rw [decide_eq_true (by omega), decide_eq_true (by omega)]
theorem not_wrote {x : Tx} {K : Int} (h : ¬ x.wrote K = true) : mget x.writes K = none := by
 unfold Tx.wrote at h
 cases hg : mget x.writes K with
 | none => rfl
 | some v => rw [hg] at h; exact absurd rfl h
theorem HistOk.over2 (h : HistOk e) (hS : Sure e []) (hok : OkT N e []) (hi : i < e.txs.length) (hs : (e.tx i).state = 0) : HistOk ((e.over2 i).lets i) := by
 obtain ⟨t1, t2, t3, t4⟩ := told_is hok hi hS.lastc
 have hx := hok.at hi
 have hhist : ((e.over2 i).lets i).hist = e.hist ++ toldL ((i : Int) + 1) (e.tx i) := t4
 have hlast : ((e.over2 i).lets i).last = (e.told i).last := rfl
 have hrow : ∀ K, keyOk K → ((e.over2 i).lets i).row K = e.row K ++ (match mget (e.tx i).writes K with | some v => [(e.last + 1, v)] | none => []) := fun K hK => told_row hok hi hS.lastc hS.rows hK
 obtain ⟨l1, l2, l3⟩ := told_last hok hi hS.lastc
 have hold : ∀ K, readV (e.row K) (e.told i).last = readV (e.row K) e.last := fun K => readV_up (hS.rows.row K).2 l1
 have hself : ((e.over2 i).lets i).tx i = { e.tx i with state := 2, ended := e.count + 1 } := by rw [over2_tx, if_pos ⟨rfl, hi⟩]
 refine ⟨fun o ho hw => ?_, fun K hK hn => ?_, fun K n hK hn => ?_⟩
 ·rw [hhist] at ho
  rcases List.mem_append.1 ho with ho | ho
  ·exact h.keys o ho hw
  ·exact hok.wrote_ok (toldL_wr.1 ⟨o, ho, hw, rfl⟩)
 ·rw [hhist, lastW_told] at hn
  split at hn
  ·cases hn
  ·rename_i hw
   rw [hrow K hK, not_wrote hw, hlast, List.append_nil, hold]
   exact h.lack K hK hn
 ·rw [hhist, lastW_told] at hn
  split at hn
  ·rename_i hw
   obtain rfl := Option.some.inj hn
   have hw' := hw
   unfold Tx.wrote at hw'
   obtain ⟨v, hv⟩ := Option.isSome_iff_exists.1 hw'
   refine ⟨i, e.last + 1, v, rfl, by rw [over2_len]; exact hi, by rw [hself], by rw [hself]; exact hv, ?_⟩
   have hne : (e.tx i).written ≠ [] := fun x => by
    have := (mem_written (p := (K, v))).2 hv
    rw [x] at this; simp at this
   rw [hrow K hK, hv, hlast, t2, if_neg hne]
   simp only
   rw [readV_snoc, if_pos (Int.le_refl _)]
  ·rename_i hw
   obtain ⟨i', a, v, h1, h2, h3, h4, h5⟩ := h.has K n hK hn
   have hii : i ≠ i' := by rintro rfl; omega
   have ht : ((e.over2 i).lets i).tx i' = e.tx i' := by rw [over2_tx, if_neg (fun x => hii x.1)]
   refine ⟨i', a, v, h1, by rw [over2_len]; exact h2, by rw [ht]; exact h3, by rw [ht]; exact h4, ?_⟩
   rw [hrow K hK, not_wrote hw, hlast, List.append_nil, hold]
   exact h5
theorem HistOk.committed (h : HistOk e) (hS : Sure e []) (hok : OkT N e []) (n : Int) : HistOk (e.commit n).1 := by
 by_cases h0 : e.ready n = 0
 ·obtain ⟨i, rfl, hi, hs⟩ := ready_at h0
  rw [commit_eq e i h0]
  have := same_frees hok hi (state_alive hs)
  exact (h.over2 hS hok hi hs).still this.later this.still
 ·unfold Eng.commit
  rw [if_pos h0]
  simp only
  split
  ·rename_i h13
   obtain ⟨i, rfl, hi, hs⟩ := ready_13 h13
   have hi2 : ((i : Int) + 1).toNat - 1 = i := by omega
   rw [hi2]
   have := same_goes hok hi (state_alive hs) 13
   exact h.still this.later this.still
  ·exact h
theorem HistOk.swept (h : HistOk e) (hS : Sure e []) : HistOk e.sweep.1 :=
 h.later (later_sweep hS.rows) rfl fun K _ => ((sweep_rel hS.rows (floor_last e) K).read (Int.le_refl _)).symm
theorem tale_read_e (t : Tale) (x : Nat) (K : Int) : (t.read x K).e = (t.e.read ((x : Int) + 1) K).1 := by
 unfold Tale.read
 simp only
 split
 ·rfl
 ·split <;> rfl
theorem tale_write_e (t : Tale) (x : Nat) (K : Int) : (t.write x K).e = (t.e.write ((x : Int) + 1) K (t.n + 1)).1 := by
 unfold Tale.write
 simp only
 split <;> rfl
theorem tale_began_e (t : Tale) (l : Int) : (t.began l).e = (t.e.begin_ l).1 := by
 unfold Tale.began
 simp only
 split <;> rfl
theorem HistOk.does (h : HistOk t.e) (hS : Sure t.e []) (hok : OkT N t.e []) (a : Act1) (level : Int) : HistOk (t.does a level).e := by
 unfold Tale.does
 simp only
 split
 ·rw [tale_began_e]; exact h.still (later_begin ..) (still_begin ..)
 ·split
  ·exact h.swept hS
  ·split
   ·exact h
   ·generalize t.recs.length - pickN a.tx (min 6 t.recs.length) - 1 = x
    generalize (pickN a.key 4 : Int) = K
    show HistOk (Tale.act _ _ _ _).e
    unfold Tale.act
    split
    ·rw [tale_read_e]; exact h.still (later_read hok _ _) (still_read hok _ _)
    ·split
     ·rw [tale_write_e]; exact h.still (later_write hok _ _ _) (still_write hok _ _ _)
     ·split
      ·exact h.committed hS hok _
      ·split
       ·exact h.still (later_abort hok _) (still_abort hok _)
       ·exact h
theorem allL_lt (f : Int → Option (Int × Int)) : ∀ (n : Nat), ∀ k ∈ (allL f n).map (fun p => p.1), 0 ≤ k ∧ k < (n : Int)
 | 0, k, h => by simp [allL] at h
 | n + 1, k, h => by
  rw [allL_succ, List.map_append, List.mem_append] at h
  rcases h with h | h
  ·have := allL_lt f n k h; omega
  ·unfold allK at h
   split at h
   ·simp at h; omega
   ·simp at h
theorem allL_nodup (f : Int → Option (Int × Int)) : ∀ (n : Nat), ((allL f n).map (fun p => p.1)).Nodup
 | 0 => by simp [allL]
 | n + 1 => by
  rw [allL_succ, List.map_append, List.nodup_append]
  refine ⟨allL_nodup f n, by unfold allK; split <;> simp, fun a ha b hb e1 => ?_⟩
  have := allL_lt f n a ha
  unfold allK at hb
  split at hb
  ·simp at hb; omega
  ·simp at hb
theorem lastW_ok (h : HistOk e) {K : Int} (hn : lastW e.hist K ≠ none) : keyOk K := by
 refine Classical.byContradiction fun hK => hn ?_
 unfold lastW
 exact foldl_none _ _ fun o ho hc => hK (by rw [← hc.2]; exact h.keys o ho hc.1)
theorem HistOk.len (h : HistOk e) : e.allV.length = (lastMap e.hist).length := by
 have hp : (e.allV.map (·.1)).Perm ((lastMap e.hist).map (·.1)) := by
  refine perm_of_nodup (allL_nodup _ _) (lastMap_nodup _) fun K => ?_
  have e1 : K ∈ e.allV.map (·.1) ↔ mget e.allV K ≠ none := by rw [ne_eq, mget_none_iff]; exact Decidable.not_not.symm
  have e2 : K ∈ (lastMap e.hist).map (·.1) ↔ lastW e.hist K ≠ none := by rw [← lastMap_get, ne_eq, mget_none_iff]; exact Decidable.not_not.symm
  rw [e1, e2]
  unfold Eng.allV
  rw [mget_allL]
  constructor
  ·intro hn hl
   by_cases hK : 0 ≤ K ∧ K < ((10 : Nat) : Int)
   ·rw [if_pos hK, h.lack K ⟨hK.1, by omega⟩ hl] at hn; exact hn rfl
   ·rw [if_neg hK] at hn; exact hn rfl
  ·intro hl
   have hK := lastW_ok h hl
   obtain ⟨n, hn⟩ := Option.ne_none_iff_exists'.1 hl
   obtain ⟨i, a, v, _, _, _, _, h5⟩ := h.has K n hK hn
   rw [if_pos ⟨hK.1, by have := hK.2; omega⟩, h5]
   simp
 have := hp.length_eq
 simpa using this
theorem HistOk.each (h : HistOk e) (hok : OkT N e []) : ∀ p ∈ e.allV, ∃ i : Nat, mget (lastMap e.hist) p.1 = some ((i : Int) + 1) ∧ i < e.txs.length ∧ (e.tx i).state = 2 ∧ ofL (e.tx i).written p.1 = p.2 := by
 intro p hp
 have hg : mget e.allV p.1 = some p.2 := mget_mem (allL_nodup _ _) hp
 unfold Eng.allV at hg
 rw [mget_allL] at hg
 split at hg
 ·rename_i hK
  have hK' : keyOk p.1 := ⟨hK.1, by omega⟩
  cases hl : lastW e.hist p.1 with
  | none => rw [h.lack _ hK' hl] at hg; cases hg
  | some n =>
   obtain ⟨i, a, v, h1, h2, h3, h4, h5⟩ := h.has _ n hK' hl
   rw [h5] at hg
   refine ⟨i, by rw [lastMap_get, hl, h1], h2, h3, ?_⟩
   rw [ofL_eq, mget_written (hok.at h2).keys, h4]
   simpa using hg
 ·cases hg
end
end Go.Proofs.YtcbokjocahnlcaaGreatDoor
/- interleafkeep's tale: does, whatever it is; what holds of a tale, act by act; what a law sees of it. Condition: the package variable errors.errorType holds the handle of the type error. -/
namespace Go.Proofs.YtcbokjocahnlcaaGreatDoor
open Go Go.RowKit Go.Sep
structure TaleB (M : Nat) (t : Tale) : Prop where
 ok : OkT (M * 1000 + 10) t.e []
 law : TaleL t
 hist : HistOk t.e
 steps : t.steps = M
 n : 0 ≤ t.n ∧ t.n ≤ M
 reads : ∀ r ∈ t.recs, r.reads.length ≤ M ∧ r.snap.length ≤ 10
theorem TaleB.start : TaleB 0 .start := ⟨OkT.start, TaleL.start, HistOk.start, rfl, ⟨by decide, by decide⟩, by simp [Tale.start]⟩
section
variable {M : Nat} {t : Tale}
theorem TaleB.ok2 (h : TaleB M t) (hM : M ≤ 1000) : TaleOk (M * 1000 + 10) t :=
 ⟨h.ok, by omega, by rw [h.steps]; omega, by have := h.n; omega, h.law.len, fun r hr => by have := h.reads r hr; omega⟩
theorem mem_modify {α : Type} {f : α → α} : ∀ {l : List α} {i : Nat} {x : α}, x ∈ l.modify i f → x ∈ l ∨ ∃ y ∈ l, x = f y
 | [], i, x, h => by simp at h
 | a :: l, 0, x, h => by
  simp only [List.modify_zero_cons, List.mem_cons] at h
  rcases h with rfl | h
  ·exact .inr ⟨a, List.mem_cons_self .., rfl⟩
  ·exact .inl (List.mem_cons_of_mem _ h)
 | a :: l, i + 1, x, h => by
  simp only [List.modify_succ_cons, List.mem_cons] at h
  rcases h with rfl | h
  ·exact .inl (List.mem_cons_self ..)
  ·rcases mem_modify h with h | ⟨y, hy, e⟩
   ·exact .inl (List.mem_cons_of_mem _ h)
   ·exact .inr ⟨y, List.mem_cons_of_mem _ hy, e⟩
def Recs (M : Nat) (rs : List Rec) : Prop := ∀ r ∈ rs, r.reads.length ≤ M ∧ r.snap.length ≤ 10
theorem recs_overs {t : Tale} (h : Recs M t.recs) : Recs M t.overs.recs := by
 intro r hr
 obtain ⟨i, hi, rfl⟩ := List.mem_mapIdx.1 hr
 rw [overStep_keep (fun r => r.reads) (fun _ _ => rfl), overStep_keep (fun r => r.snap) (fun _ _ => rfl)]
 exact h _ (List.getElem_mem _)
theorem recs_upd {f : Rec → Rec} {i : Nat} {rs : List Rec} (h : Recs M rs) (hf : ∀ r, (f r).reads.length ≤ r.reads.length + 1 ∧ (f r).snap = r.snap) : Recs (M + 1) (rs.modify i f) := by
 intro r hr
 rcases mem_modify hr with hr | ⟨y, hy, rfl⟩
 ·have := h r hr; omega
 ·have := h y hy
  have := hf y
  rw [this.2]; omega
theorem recs_up {rs : List Rec} (h : Recs M rs) : Recs (M + 1) rs := fun r hr => by have := h r hr; omega
theorem does_ok (h : OkT (M * 1000 + 10) t.e []) (a : Act1) (lv : Int) : OkT ((M + 1) * 1000 + 10) (t.does a lv).e [] := by
 have hup : ∀ {e : Eng}, OkT (M * 1000 + 10) e [] → OkT ((M + 1) * 1000 + 10) e [] := fun h => h.mono (by omega)
 have hup2 : ∀ {e : Eng}, OkT (M * 1000 + 10 + 1000) e [] → OkT ((M + 1) * 1000 + 10) e [] := fun h => h.mono (by omega)
 unfold Tale.does
 simp only
 split
 ·rw [tale_began_e]; exact hup (h.begun _)
 ·split
  ·exact hup h.swept
  ·split
   ·exact hup h
   ·generalize t.recs.length - pickN a.tx (min 6 t.recs.length) - 1 = x
    generalize (pickN a.key 4 : Int) = K
    show OkT _ (Tale.act _ _ _ _).e []
    unfold Tale.act
    split
    ·rw [tale_read_e]; exact hup2 (h.red _ _)
    ·split
     ·rw [tale_write_e]; exact hup2 (h.wrote _ _ _)
     ·split
      ·exact hup (h.committed _)
      ·split
       ·exact hup (h.aborted _)
       ·exact hup h
theorem began_steps (t : Tale) (lv : Int) : (t.began lv).steps = t.steps ∧ (t.began lv).n = t.n := by
 unfold Tale.began
 simp only
 by_cases h : (t.e.begin_ lv).2.2 = 0
 ·rw [if_pos h]; exact ⟨rfl, rfl⟩
 ·rw [if_neg h]; exact ⟨rfl, rfl⟩
theorem began_recs (t : Tale) (lv : Int) : (t.began lv).recs = t.recs ++ [⟨lv, t.e.allV, [], [], t.steps, 0⟩] ∨ (t.began lv).recs = t.recs := by
 unfold Tale.began
 simp only
 by_cases h : (t.e.begin_ lv).2.2 = 0
 ·rw [if_pos h]; exact .inl rfl
 ·rw [if_neg h]; exact .inr rfl
theorem does_steps (t : Tale) (a : Act1) (lv : Int) : (t.does a lv).steps = t.steps + 1 ∧ (t.n ≤ (t.does a lv).n ∧ (t.does a lv).n ≤ t.n + 1) := by
 unfold Tale.does
 simp only
 split
 ·skip
  rw [(began_steps _ _).1, (began_steps _ _).2]
  exact ⟨rfl, Int.le_refl _, by show t.n ≤ t.n + 1; omega⟩
 ·split
  ·exact ⟨rfl, Int.le_refl _, by show t.n ≤ t.n + 1; omega⟩
  ·split
   ·exact ⟨rfl, Int.le_refl _, by show t.n ≤ t.n + 1; omega⟩
   ·generalize t.recs.length - pickN a.tx (min 6 t.recs.length) - 1 = x
    generalize (pickN a.key 4 : Int) = K
    show (Tale.act _ _ _ _).steps = _ ∧ _ ≤ (Tale.act _ _ _ _).n ∧ (Tale.act _ _ _ _).n ≤ _
    unfold Tale.act
    split
    ·unfold Tale.read
     simp only
     split
     ·exact ⟨rfl, Int.le_refl _, by show t.n ≤ t.n + 1; omega⟩
     ·split <;> exact ⟨rfl, Int.le_refl _, by show t.n ≤ t.n + 1; omega⟩
    ·split
     ·unfold Tale.write
      simp only
      split <;> exact ⟨rfl, by show t.n ≤ t.n + 1; omega, Int.le_refl _⟩
     ·split
      ·exact ⟨rfl, Int.le_refl _, by show t.n ≤ t.n + 1; omega⟩
      ·split <;> exact ⟨rfl, Int.le_refl _, by show t.n ≤ t.n + 1; omega⟩
theorem does_recs (h : Recs M t.recs) (a : Act1) (lv : Int) : Recs (M + 1) (t.does a lv).recs := by
 unfold Tale.does
 simp only
 split
 ·rcases began_recs { t with steps := t.steps + 1 } (if lv < 0 then (pickN a.level 3 : Int) else lv) with hb | hb
  ·rw [hb]
   intro r hr
   rcases List.mem_append.1 hr with hr | hr
   ·exact recs_up h r hr
   ·simp only [List.mem_singleton] at hr
    subst hr
    exact ⟨by simp, allL_le _ 10⟩
  ·rw [hb]; exact recs_up h
 ·split
  ·exact recs_up h
  ·split
   ·exact recs_up h
   ·generalize t.recs.length - pickN a.tx (min 6 t.recs.length) - 1 = x
    generalize (pickN a.key 4 : Int) = K
    refine recs_overs ?_
    unfold Tale.act
    split
    ·unfold Tale.read
     simp only
     split
     ·exact recs_up h
     ·split
      ·exact recs_up h
      ·exact recs_upd h fun r => ⟨by simp, rfl⟩
    ·split
     ·unfold Tale.write
      simp only
      split
      ·exact recs_upd h fun r => ⟨by simp, rfl⟩
      ·exact recs_up h
     ·split
      ·exact recs_up h
      ·split
       ·exact recs_up h
       ·exact recs_up h
theorem TaleB.does (h : TaleB M t) (a : Act1) (lv : Int) : TaleB (M + 1) (t.does a lv) := by
 obtain ⟨s1, s2, s3⟩ := does_steps t a lv
 have hn := h.n
 exact ⟨does_ok h.ok a lv, h.law.does h.ok a lv, h.hist.does h.law.sure h.ok a lv, by rw [s1, h.steps]; omega, by omega, does_recs h.reads a lv⟩
end
theorem does_any (w0 w : World) (b be : Nat) (t : Tale) (a : Act1) (lv : Int) (L : List HProp) (M : Nat) (hE : ErrT w0) (hB : TaleB M t) (hM : M ≤ 900) (hs : S w0 w (tale2 b be t :: L)) :
  Calls Tryz.prog 8 #[.pointer (some ⟨b, 0, none⟩), actV a.what a.level a.tx a.key, .int .i64 lv] w fun r w' => r = .returned (.tuple #[]) ∧ S w0 w' (tale2 b be (t.does a lv) :: L) := by
 have hok := hB.ok2 (by omega)
 have hst : t.steps < 1000000 := by rw [hB.steps]; omega
 obtain ⟨what, level, tx, key⟩ := a
 by_cases h0 : what = 0
 ·subst h0; exact does_begin w0 w b be t level tx key lv L _ hok hst hs
 ·by_cases h5 : what = 5
  ·subst h5; exact does_sweep w0 w b be t level tx key lv L _ hok hst hs
  ·by_cases hr : t.recs = []
   ·exact does_none w0 w b be t what level tx key lv L _ hok hst h0 h5 hr hs
   ·exact does_act w0 w b be t what level tx key lv L _ hE hok hst h0 h5 hr hs
theorem committedK_any (w0 w : World) (b be : Nat) (bs : List Nat) (k : TaleV) (t : Tale) (i : Nat) (L : List HProp) (hi : i < t.e.txs.length) (hl : t.e.txs.length ≤ 1000) (hs : S w0 w (taleB b be k t :: all (recPs k.vs t.recs) :: engP be bs t.e :: L)) :
  Calls Tryz.prog 9 #[.pointer (some ⟨b, 0, none⟩), .int .i64 i] w fun r w' => r = .returned (.bool (decide ((t.e.tx i).state = 2))) ∧ S w0 w' (taleB b be k t :: all (recPs k.vs t.recs) :: engP be bs t.e :: L) := by
 have c0 := hs.tale_see.1.e
 have hst := state2_any w0 w be bs t.e ((i : Int) + 1) _ hs.rot3
 rw [state_at hi] at hst
 dsimp only at hst
 rw [errV_0] at hst
 have HST := hid hst
 clear hst
 go_enter Tryz.func9, Tryz.ntmps9
 go_wp2_with fail
 with_reducible refine HST.out.mono ?_
 rintro r w' ⟨rfl, hs'⟩
 have H1 := hid (hs'.conv (M := taleB b be k t :: all (recPs k.vs t.recs) :: engP be bs t.e :: L) (by simp only [all]; ac_rfl))
 clear hs' HST hs c0
 by_cases h2 : (t.e.tx i).state = 2
 ·have hb2 : ((t.e.tx i).state == 2) = true := by simpa using h2
  have hd : decide ((t.e.tx i).state = 2) = true := by simpa using h2
  have HD := hid hd
  clear h2 hd
  go_wp2_with fail
  go_ret
  exact ⟨by rw [HD.out]; rfl, H1.out⟩
 ·have hb2 : ((t.e.tx i).state == 2) = false := by simpa using h2
  have hd : decide ((t.e.tx i).state = 2) = false := by simpa using h2
  have HD := hid hd
  clear h2 hd
  go_wp2_with fail
  go_ret
  exact ⟨by rw [HD.out]; rfl, H1.out⟩
structure LawC (w : World) (b be n : Nat) (gl ol cl gb ob cb gw ow cw : Nat) (t : Tale) : Prop where
 e : w.cell? ⟨b, 0, none⟩ = some (.pointer (some ⟨be, 0, none⟩))
 level : w.cell? ⟨b, 1, none⟩ = some (.slice (some ⟨gl, ol, none⟩) n cl)
 begun : w.cell? ⟨b, 5, none⟩ = some (.slice (some ⟨gb, ob, none⟩) n cb)
 over : w.cell? ⟨b, 6, none⟩ = some (.slice (some ⟨gw, ow, none⟩) n cw)
 xlevel : ∀ x, x < n → w.cell? ⟨gl, ol + x, none⟩ = some (.int .i64 (t.one x).level)
 xbegun : ∀ x, x < n → w.cell? ⟨gb, ob + x, none⟩ = some (.int .i64 (t.one x).begun)
 xover : ∀ x, x < n → w.cell? ⟨gw, ow + x, none⟩ = some (.int .i64 (t.one x).over)
def acells (a : Act1) : List Value := [.int .i64 a.what, .int .i64 a.level, .int .i64 a.tx, .int .i64 a.key]
theorem writes_at {e : Eng} {i : Nat} (hi : i < e.txs.length) : e.writes ((i : Int) + 1) = ((e.tx i).written, 0) := by
 have hi2 : ((i : Int) + 1).toNat - 1 = i := by omega
 have he : e.err ((i : Int) + 1) false = 0 := by
  unfold Eng.err
  rw [if_neg (by omega)]; simp
 unfold Eng.writes
 rw [if_neg (by simp [he]), hi2]
end Go.Proofs.YtcbokjocahnlcaaGreatDoor
namespace Go.Proofs.YtcbokjocahnlcaaGreatDoor
open Go Go.RowKit Go.Sep
section
variable {e e' e0 : Eng} {i j : Nat} {N : Nat} {T U : List Task}
def overlap (e : Eng) (n k : Nat) : Prop := ¬((e.tx n).state = 2 ∧ (e.tx n).ended < (e.tx k).begun) ∧ ¬((e.tx k).state = 2 ∧ (e.tx k).ended < (e.tx n).begun)
def ahead (e : Eng) (n k : Nat) : Prop := k ∈ (e.tx n).aft ∧ n ∈ (e.tx k).fore
def LastOf (e : Eng) (K : Int) (b : Int) (f : Nat) : Prop := f < e.txs.length ∧ (e.tx f).state = 2 ∧ (e.tx f).ended < b ∧ ∀ k, k ≠ f → (e.tx k).state = 2 → (e.tx k).wrote K = true → (e.tx k).ended < (e.tx f).ended ∨ b < (e.tx k).ended
def NoneOf (e : Eng) (K : Int) (b : Int) : Prop := ∀ k, (e.tx k).state = 2 → (e.tx k).wrote K = true → b < (e.tx k).ended
def Shows (e : Eng) (K b : Int) (r : Option (Int × Int)) : Prop := match r with
 | none => NoneOf e K b
 | some p => ∃ f : Nat, mget e.wr p.1 = some ((f : Int) + 1) ∧ mget (e.tx f).writes K = some p.2 ∧ LastOf e K b f
def ReadOk (e : Eng) (b : Int) (r : Int × Int) : Prop := keyOk r.1 ∧ ((r.2 = 0 ∧ NoneOf e r.1 b) ∨ ∃ f : Nat, r.2 = (f : Int) + 1 ∧ (e.tx f).wrote r.1 = true ∧ LastOf e r.1 b f)
structure Stern (x : Option Nat) (e : Eng) (T : List Task) : Prop where
 two : ∀ i, i < e.txs.length → (e.tx i).level = 2
 apart : ∀ i k, i < e.txs.length → k < e.txs.length → (e.tx k).alive = false → (e.tx i).begun ≠ (e.tx k).ended
 wr : ∀ k v, mget e.wr k = some v → 0 < k ∧ k ≤ e.last
 cur : ∀ n, n < e.txs.length → (e.tx n).alive = true → ∀ K, keyOk K → Shows e K (e.tx n).begun (readV (e.row K) (e.tx n).start)
 top : ∀ K, keyOk K → Shows e K (e.count + 1) (readV (e.row K) e.last)
 newv : ∀ i k K, i < e.txs.length → (e.tx i).alive = true → (e.tx k).state = 2 → (e.tx i).begun < (e.tx k).ended → (e.tx k).wrote K = true → ∃ a ∈ newerL (e.row K) (e.tx i).start, mget e.wr a = some ((k : Int) + 1)
 reads : ∀ n, n < e.txs.length → (e.tx n).state ≠ 3 → ∀ r ∈ (e.tx n).reads, ReadOk e (e.tx n).begun r
 rw : ∀ n k K, n ≠ k → n < e.txs.length → (e.tx n).state ≠ 3 → (e.tx k).state ≠ 3 → (e.tx n).saw K = true → (e.tx k).wrote K = true → overlap e n k → ahead e n k ∨ ∃ l, Task.ask k K l ∈ T ∧ n ∈ l
 mid : ∀ n, (e.tx n).state = 2 → (∃ a ∈ (e.tx n).fore, (e.tx a).state ≠ 3 ∧ some a ≠ x) → (∃ a ∈ (e.tx n).aft, (e.tx a).state ≠ 3 ∧ some a ≠ x) → False
theorem Stern.weak (h : Stern none e T) (x : Option Nat) : Stern x e T :=
 ⟨h.two, h.apart, h.wr, h.cur, h.top, h.newv, h.reads, h.rw, fun n h1 ⟨a, ha, h2, _⟩ ⟨b, hb, h3, _⟩ => h.mid n h1 ⟨a, ha, h2, by simp⟩ ⟨b, hb, h3, by simp⟩⟩
theorem Stern.start : Stern none Eng.zero [] := by
 have hrow : ∀ K, Eng.zero.row K = [] := fun K => by
  unfold Eng.row Eng.zero
  simp only [List.getElem?_replicate]
  split <;> rfl
 have ht : ∀ k, Eng.zero.tx k = .zero := fun k => by simp [Eng.tx, Eng.zero]
 refine ⟨by simp [Eng.zero], by simp [Eng.zero], by simp [Eng.zero, mget_nil], by simp [Eng.zero], fun K hK => ?_, by simp [Eng.zero], by simp [Eng.zero], by simp [Eng.zero], fun n h => ?_⟩
 ·rw [hrow]
  intro k hk
  rw [ht] at hk; cases hk
 ·rw [ht] at h; cases h
structure Alike (e e' : Eng) : Prop where
 len : e'.txs.length = e.txs.length
 fix : ∀ j, (e'.tx j).level = (e.tx j).level ∧ (e'.tx j).start = (e.tx j).start ∧ (e'.tx j).begun = (e.tx j).begun
 V : e'.V = e.V
 last : e'.last = e.last
 wr : e'.wr = e.wr
 two : ∀ j, (e'.tx j).state = 2 ↔ (e.tx j).state = 2
 ended : ∀ j, (e.tx j).state = 2 → (e'.tx j).ended = (e.tx j).ended
 writes : ∀ j, (e.tx j).state = 2 → (e'.tx j).writes = (e.tx j).writes
theorem Alike.noneOf (h : Alike e e') {K b : Int} (hn : NoneOf e K b) : NoneOf e' K b := fun k h1 h2 => by
 have h3 := (h.two k).1 h1
 rw [h.ended k h3]
 refine hn k h3 ?_
 unfold Tx.wrote at *
 rw [← h.writes k h3]; exact h2
theorem Alike.lastOf (h : Alike e e') {K b : Int} {f : Nat} (hn : LastOf e K b f) : LastOf e' K b f := by
 obtain ⟨h0, h1, h2, h3⟩ := hn
 refine ⟨by rw [h.len]; exact h0, (h.two f).2 h1, by rw [h.ended f h1]; exact h2, fun k h4 h5 h6 => ?_⟩
 have h7 := (h.two k).1 h5
 rw [h.ended k h7, h.ended f h1]
 refine h3 k h4 h7 ?_
 unfold Tx.wrote at *
 rw [← h.writes k h7]; exact h6
theorem Alike.shows (h : Alike e e') {K b : Int} {r : Option (Int × Int)} (hs : Shows e K b r) : Shows e' K b r := by
 cases r with
 | none => exact h.noneOf hs
 | some p =>
  obtain ⟨f, h1, h2, h3⟩ := hs
  exact ⟨f, by rw [h.wr]; exact h1, by rw [h.writes f h3.2.1]; exact h2, h.lastOf h3⟩
theorem Alike.readOk (h : Alike e e') {b : Int} {r : Int × Int} (hr : ReadOk e b r) : ReadOk e' b r := by
 refine ⟨hr.1, ?_⟩
 rcases hr.2 with ⟨h1, h2⟩ | ⟨f, h1, h2, h3⟩
 ·exact .inl ⟨h1, h.noneOf h2⟩
 ·refine .inr ⟨f, h1, ?_, h.lastOf h3⟩
  unfold Tx.wrote at *
  rw [h.writes f h3.2.1]; exact h2
theorem Same.alike (h : Same e e') : Alike e e' := by
 have h2 : ∀ j, (e.tx j).state = 2 → (e.tx j).alive = false := fun j hj => by simp [Tx.alive, hj]
 refine ⟨h.len, fun j => ⟨(h.fix j).1, (h.fix j).2.1, (h.fix j).2.2.1⟩, h.V, h.last, h.wr, fun j => ⟨fun hj => ?_, fun hj => ?_⟩, fun j hj => (h.over j (h2 j hj)).2.1, fun j hj => (h.over j (h2 j hj)).2.2⟩
 ·cases ha : (e.tx j).alive with
  | true =>
   rcases h.live j ha with h3 | h3
   ·simp [Tx.alive, hj] at h3
   ·omega
  | false => rw [← (h.over j ha).1]; exact hj
 ·rw [(h.over j (h2 j hj)).1]; exact hj
theorem Stern.base {x : Option Nat} (h : Stern x e T) (ha : Alike e e') (hc : e.count ≤ e'.count) (hS : Sure e T) (hal : ∀ j, (e'.tx j).alive = true → (e.tx j).alive = true) (hdead : ∀ j, j < e.txs.length → (e'.tx j).alive = false → (e.tx j).alive = false ∧ (e'.tx j).ended = (e.tx j).ended ∨ e.count < (e'.tx j).ended) :
  (∀ i, i < e'.txs.length → (e'.tx i).level = 2) ∧ (∀ i k, i < e'.txs.length → k < e'.txs.length → (e'.tx k).alive = false → (e'.tx i).begun ≠ (e'.tx k).ended) ∧ (∀ k v, mget e'.wr k = some v → 0 < k ∧ k ≤ e'.last) ∧
  (∀ n, n < e'.txs.length → (e'.tx n).alive = true → ∀ K, keyOk K → Shows e' K (e'.tx n).begun (readV (e'.row K) (e'.tx n).start)) ∧ (∀ K, keyOk K → Shows e' K (e'.count + 1) (readV (e'.row K) e'.last)) ∧
  (∀ i k K, i < e'.txs.length → (e'.tx i).alive = true → (e'.tx k).state = 2 → (e'.tx i).begun < (e'.tx k).ended → (e'.tx k).wrote K = true → ∃ a ∈ newerL (e'.row K) (e'.tx i).start, mget e'.wr a = some ((k : Int) + 1)) := by
 have hrow : ∀ K, e'.row K = e.row K := fun K => by unfold Eng.row; rw [ha.V]
 refine ⟨fun i hi => ?_, fun i k hi hk hd => ?_, fun k v hv => ?_, fun n hn hal' K hK => ?_, fun K hK => ?_, fun i k K hi hal' h2 h3 h4 => ?_⟩
 ·rw [(ha.fix i).1]; exact h.two i (by rw [← ha.len]; exact hi)
 ·rw [ha.len] at hi hk
  rw [(ha.fix i).2.2]
  rcases hdead k hk hd with ⟨h1, h2⟩ | h1
  ·rw [h2]; exact h.apart i k hi hk h1
  ·have := (hS.cnt i hi).1; omega
 ·rw [ha.wr] at hv; rw [ha.last]; exact h.wr k v hv
 ·rw [ha.len] at hn
  rw [(ha.fix n).2.2, (ha.fix n).2.1, hrow]
  exact ha.shows (h.cur n hn (hal n hal') K hK)
 ·rw [hrow, ha.last]
  have h0 := ha.shows (h.top K hK)
  cases hr : readV (e.row K) e.last with
  | none =>
   rw [hr] at h0
   intro k h1 h2
   have h3 : e.count + 1 < (e'.tx k).ended := h0 k h1 h2
   have h4 := (ha.two k).1 h1
   have h5 : k < e.txs.length := by
    refine Classical.byContradiction fun hn => ?_
    rw [Eng.tx_far hn] at h4; cases h4
   rw [ha.ended k h4] at h3
   have := (hS.cnt k h5).2.1
   omega
  | some p =>
   rw [hr] at h0
   obtain ⟨f, f1, f2, f0, f3, f4, f5⟩ := h0
   refine ⟨f, f1, f2, f0, f3, by omega, fun k hk h1 h2 => ?_⟩
   rcases f5 k hk h1 h2 with h3 | h3
   ·exact .inl h3
   ·exfalso
    have h4 := (ha.two k).1 h1
    have h5 : k < e.txs.length := by
     refine Classical.byContradiction fun hn => ?_
     rw [Eng.tx_far hn] at h4; cases h4
    rw [ha.ended k h4] at h3
    have := (hS.cnt k h5).2.1
    omega
 ·have h5 := (ha.two k).1 h2
  rw [ha.ended k h5, (ha.fix i).2.2] at h3
  rw [hrow, (ha.fix i).2.1, ha.wr]
  refine h.newv i k K (by rw [← ha.len]; exact hi) (hal i hal') h5 h3 ?_
  unfold Tx.wrote at *
  rw [← ha.writes k h5]; exact h4
theorem Stern.turn {x x' : Option Nat} {T' : List Task} (h : Stern x e T) (hs : Same e e') (hS : Sure e T)
  (hrw : ∀ n k K, n ≠ k → n < e.txs.length → (e'.tx n).state ≠ 3 → (e'.tx k).state ≠ 3 → (e'.tx n).saw K = true → (e'.tx k).wrote K = true → overlap e' n k → ahead e' n k ∨ ∃ l, Task.ask k K l ∈ T' ∧ n ∈ l)
  (hmid : ∀ n, (e'.tx n).state = 2 → (∃ a ∈ (e'.tx n).fore, (e'.tx a).state ≠ 3 ∧ some a ≠ x') → (∃ a ∈ (e'.tx n).aft, (e'.tx a).state ≠ 3 ∧ some a ≠ x') → False) : Stern x' e' T' := by
 have hal : ∀ j, (e'.tx j).alive = true → (e.tx j).alive = true := fun j hj => by
  cases hb : (e.tx j).alive with
  | true => rfl
  | false => rw [alive_of_state (hs.over j hb).1, hb] at hj; cases hj
 obtain ⟨b1, b2, b3, b4, b5, b6⟩ := h.base hs.alike hs.count hS hal fun j hj hd => by
  cases hb : (e.tx j).alive with
  | true =>
   rcases hs.live j hb with h3 | h3
   ·rw [h3] at hd; cases hd
   ·exact .inr h3.2
  | false => exact .inl ⟨rfl, (hs.over j hb).2.1⟩
 refine ⟨b1, b2, b3, b4, b5, b6, fun n hn hst r hr => ?_, by rw [hs.len]; exact hrw, hmid⟩
 rw [hs.len] at hn
 rw [(hs.fix n).2.2.2] at hr
 rw [(hs.fix n).2.2.1]
 refine hs.alike.readOk (h.reads n hn ?_ r hr)
 intro h3
 cases hb : (e.tx n).alive with
 | true => simp [Tx.alive, h3] at hb
 | false => rw [(hs.over n hb).1] at hst; exact hst h3
theorem overlap_of (hs : Same e e') {n k : Nat} (h : overlap e' n k) : overlap e n k := by
 have ha := hs.alike
 obtain ⟨h1, h2⟩ := h
 refine ⟨fun ⟨a, b⟩ => h1 ⟨(ha.two n).2 a, ?_⟩, fun ⟨a, b⟩ => h2 ⟨(ha.two k).2 a, ?_⟩⟩
 ·rw [ha.ended n a, (ha.fix k).2.2]; exact b
 ·rw [ha.ended k a, (ha.fix n).2.2]; exact b
theorem not_dead (hs : Same e e') {n : Nat} (hn : (e'.tx n).state ≠ 3) : (e.tx n).state ≠ 3 := by
 intro h3
 cases hb : (e.tx n).alive with
 | true => simp [Tx.alive, h3] at hb
 | false => rw [(hs.over n hb).1] at hn; exact hn h3
theorem saw_same (hs : Same e e') (n : Nat) (K : Int) : (e'.tx n).saw K = (e.tx n).saw K := by unfold Tx.saw; rw [(hs.fix n).2.2.2]
theorem note_fore (e : Eng) (a b n : Nat) : ((e.note a b).tx n).fore = if n = b ∧ n < e.txs.length then (e.tx n).fore ++ [a] else (e.tx n).fore := by
 unfold Eng.note
 rw [Eng.upd_tx]
 have h1 : ((e.upd a fun x => { x with aft := x.aft ++ [b] }).tx n).fore = (e.tx n).fore := Eng.upd_keep (·.fore) (fun x => { x with aft := x.aft ++ [b] }) (fun _ => rfl) n
 rw [Eng.upd_len]
 by_cases h : b = n ∧ n < e.txs.length
 ·rw [if_pos h, if_pos ⟨h.1.symm, h.2⟩]; simp only [h1]
 ·rw [if_neg h, if_neg (fun x => h ⟨x.1.symm, x.2⟩), h1]
theorem note_aft (e : Eng) (a b n : Nat) : ((e.note a b).tx n).aft = if n = a ∧ n < e.txs.length then (e.tx n).aft ++ [b] else (e.tx n).aft := by
 unfold Eng.note
 have h1 : (((e.upd a fun x => { x with aft := x.aft ++ [b] }).upd b fun x => { x with fore := x.fore ++ [a] }).tx n).aft = ((e.upd a fun x => { x with aft := x.aft ++ [b] }).tx n).aft := Eng.upd_keep (·.aft) (fun x => { x with fore := x.fore ++ [a] }) (fun _ => rfl) n
 rw [h1, Eng.upd_tx]
 by_cases h : a = n ∧ n < e.txs.length
 ·rw [if_pos h, if_pos ⟨h.1.symm, h.2⟩]
 ·rw [if_neg h, if_neg (fun x => h ⟨x.1.symm, x.2⟩)]
theorem note_ahead {a b n k : Nat} (h : ahead e n k) : ahead (e.note a b) n k := by
 refine ⟨?_, ?_⟩
 ·rw [note_aft]; split
  ·exact List.mem_append_left _ h.1
  ·exact h.1
 ·rw [note_fore]; split
  ·exact List.mem_append_left _ h.2
  ·exact h.2
theorem note_here {a b : Nat} (ha : a < e.txs.length) (hb : b < e.txs.length) : ahead (e.note a b) a b := by
 refine ⟨?_, ?_⟩
 ·rw [note_aft, if_pos ⟨rfl, ha⟩]; simp
 ·rw [note_fore, if_pos ⟨rfl, hb⟩]; simp
theorem overlap_state (hs : ∀ j, (e'.tx j).state = (e.tx j).state) (hb : ∀ j, (e'.tx j).begun = (e.tx j).begun) (he : ∀ j, (e'.tx j).ended = (e.tx j).ended) (n k : Nat) : overlap e' n k ↔ overlap e n k := by unfold overlap; rw [hs, hs, hb, hb, he, he]
theorem Stern.note {x : Option Nat} {T' : List Task} {a b : Nat} (h : Stern x e T) (hS : Sure e T) (ht : ∀ n k K l, Task.ask k K l ∈ T → n ∈ l → (a = n ∧ b = k ∧ a < e.txs.length ∧ b < e.txs.length) ∨ ∃ l', Task.ask k K l' ∈ T' ∧ n ∈ l')
  (hm : ∀ n, ((e.note a b).tx n).state = 2 → (∃ c ∈ ((e.note a b).tx n).fore, ((e.note a b).tx c).state ≠ 3 ∧ some c ≠ x) → (∃ c ∈ ((e.note a b).tx n).aft, ((e.note a b).tx c).state ≠ 3 ∧ some c ≠ x) → False) : Stern x (e.note a b) T' := by
 have hs := (Same.refl e).note a b
 have hst := fun j => (note_all e a b j).2.1
 refine h.turn hs hS (fun n k K hnk hn h1 h2 h3 h4 h5 => ?_) hm
 rw [hst] at h1 h2
 rw [saw_same hs] at h3
 have h4' : (e.tx k).wrote K = true := by unfold Tx.wrote at *; rw [← (note_all e a b k).2.2.2.2.2.1]; exact h4
 have h5' := (overlap_state hst (fun j => (note_all e a b j).2.2.2.1) (fun j => (note_all e a b j).2.2.2.2.1) n k).1 h5
 rcases h.rw n k K hnk hn h1 h2 h3 h4' h5' with h6 | ⟨l, h6, h7⟩
 ·exact .inl (note_ahead h6)
 ·rcases ht n k K l h6 h7 with ⟨rfl, rfl, ha, hb⟩ | h8
  ·exact .inl (note_here ha hb)
  ·exact .inr h8
theorem thereL_any {l : List Nat} : l.any e.there = true ↔ ∃ a ∈ l, (e.tx a).state ≠ 3 := by
 rw [List.any_eq_true]
 constructor
 ·rintro ⟨a, h1, h2⟩; exact ⟨a, h1, by simpa [Eng.there] using h2⟩
 ·rintro ⟨a, h1, h2⟩; exact ⟨a, h1, by simpa [Eng.there] using h2⟩
theorem middle_iff : e.middle i = true ↔ (∃ a ∈ (e.tx i).fore, (e.tx a).state ≠ 3) ∧ ∃ a ∈ (e.tx i).aft, (e.tx a).state ≠ 3 := by
 unfold Eng.middle
 rw [Bool.and_eq_true, thereL_any, thereL_any]
theorem mid_good {a b : Nat} (h : Stern none e T) (hb : (e.note a b).bad a b = false) (n : Nat) (h2 : ((e.note a b).tx n).state = 2) (hf : ∃ c ∈ ((e.note a b).tx n).fore, ((e.note a b).tx c).state ≠ 3 ∧ some c ≠ none) (hg : ∃ c ∈ ((e.note a b).tx n).aft, ((e.note a b).tx c).state ≠ 3 ∧ some c ≠ none) : False := by
 obtain ⟨c, hc, hc1, _⟩ := hf
 obtain ⟨d, hd, hd1, _⟩ := hg
 have hmid : (e.note a b).middle n = true := middle_iff.2 ⟨⟨c, hc, hc1⟩, d, hd, hd1⟩
 unfold Eng.bad Eng.wrong at hb
 rw [Bool.or_eq_false_iff] at hb
 by_cases hna : n = a
 ·subst hna; rw [hmid] at hb; simp [h2] at hb
 ·by_cases hnb : n = b
  ·subst hnb; rw [hmid] at hb; simp [h2] at hb
  ·rw [note_fore, if_neg (fun x => hnb x.1)] at hc
   rw [note_aft, if_neg (fun x => hna x.1)] at hd
   have hst := fun j => (note_all e a b j).2.1
   rw [hst] at h2 hc1 hd1
   exact h.mid n h2 ⟨c, hc, hc1, by simp⟩ ⟨d, hd, hd1, by simp⟩
theorem mid_but {a b i : Nat} (h : Stern (some i) e T) (hi : a = i ∨ b = i) (hs : (e.tx i).state ≠ 2) (n : Nat) (h2 : ((e.note a b).tx n).state = 2) (hf : ∃ c ∈ ((e.note a b).tx n).fore, ((e.note a b).tx c).state ≠ 3 ∧ some c ≠ some i) (hg : ∃ c ∈ ((e.note a b).tx n).aft, ((e.note a b).tx c).state ≠ 3 ∧ some c ≠ some i) : False := by
 have hst := fun j => (note_all e a b j).2.1
 obtain ⟨c, hc, hc1, hc2⟩ := hf
 obtain ⟨d, hd, hd1, hd2⟩ := hg
 rw [hst] at h2 hc1 hd1
 have hni : n ≠ i := by rintro rfl; exact hs h2
 refine h.mid n h2 ⟨c, ?_, hc1, hc2⟩ ⟨d, ?_, hd1, hd2⟩
 ·rw [note_fore] at hc
  split at hc
  ·rename_i hx
   rcases List.mem_append.1 hc with hc | hc
   ·exact hc
   ·simp only [List.mem_singleton] at hc
    exfalso
    rcases hi with rfl | rfl
    ·exact hc2 (by rw [hc])
    ·exact hni hx.1
  ·exact hc
 ·rw [note_aft] at hd
  split at hd
  ·rename_i hx
   rcases List.mem_append.1 hd with hd | hd
   ·exact hd
   ·simp only [List.mem_singleton] at hd
    exfalso
    rcases hi with rfl | rfl
    ·exact hni hx.1
    ·exact hd2 (by rw [hd])
  ·exact hd
theorem left_ahead {n k : Nat} (why : Int) (h : ahead e n k) : ahead (e.left i why) n k := by
 refine ⟨?_, ?_⟩
 ·rw [left_tx]; split
  ·exact h.1
  ·exact h.1
 ·rw [left_tx]; split
  ·exact h.2
  ·exact h.2
theorem Stern.left {x : Option Nat} (h : Stern x e T) (hx : x = none ∨ x = some i) (hS : Sure e T) (hi : i < e.txs.length) (ha : (e.tx i).alive = true) (why : Int) : Stern none (e.left i why) ((e.heirs i).map .hand ++ T) := by
 have hs := (Same.refl e).left ha why
 have hself : ((e.left i why).tx i).state = 3 := by rw [left_tx, if_pos ⟨rfl, hi⟩]
 have hother : ∀ j, j ≠ i → (e.left i why).tx j = e.tx j := fun j hj => by rw [left_tx, if_neg (fun x => hj x.1.symm)]
 refine h.turn hs hS (fun n k K hnk hn h1 h2 h3 h4 h5 => ?_) fun n h2 ⟨c, hc, hc1, _⟩ ⟨d, hd, hd1, _⟩ => ?_
 ·have hni : n ≠ i := by rintro rfl; exact h1 hself
  have hki : k ≠ i := by rintro rfl; exact h2 hself
  have h5' := overlap_of hs h5
  rw [hother n hni] at h1 h3
  rw [hother k hki] at h2 h4
  rcases h.rw n k K hnk hn h1 h2 h3 h4 h5' with h6 | ⟨l, h6, h7⟩
  ·exact .inl (left_ahead why h6)
  ·exact .inr ⟨l, List.mem_append_right _ h6, h7⟩
 ·have hni : n ≠ i := by rintro rfl; omega
  have hci : c ≠ i := by rintro rfl; exact hc1 hself
  have hdi : d ≠ i := by rintro rfl; exact hd1 hself
  rw [hother n hni] at h2 hc hd
  rw [hother c hci] at hc1
  rw [hother d hdi] at hd1
  refine h.mid n h2 ⟨c, hc, hc1, ?_⟩ ⟨d, hd, hd1, ?_⟩
  ·rcases hx with rfl | rfl
   ·simp
   ·intro h6; exact hci (Option.some.inj h6)
  ·rcases hx with rfl | rfl
   ·simp
   ·intro h6; exact hdi (Option.some.inj h6)
theorem Stern.same {T' : List Task} (h : Stern none e T) (hs : Same e e') (hS : Sure e T) (hf : ∀ j, (e'.tx j).fore = (e.tx j).fore) (ha : ∀ j, (e'.tx j).aft = (e.tx j).aft) (hst : ∀ j, (e'.tx j).state ≠ 3 → (e.tx j).state ≠ 3)
  (hw : ∀ n k K, (e.tx n).saw K = true → (e'.tx k).wrote K = true → (e.tx k).wrote K = true ∨ ∃ l, Task.ask k K l ∈ T' ∧ (n < e.txs.length → n ∈ l)) (ht : ∀ k K l, Task.ask k K l ∈ T → ∀ n ∈ l, n < e.txs.length → ∃ l', Task.ask k K l' ∈ T' ∧ n ∈ l') : Stern none e' T' := by
 refine h.turn hs hS (fun n k K hnk hn h1 h2 h3 h4 h5 => ?_) fun n h2 ⟨c, hc, hc1, _⟩ ⟨d, hd, hd1, _⟩ => ?_
 ·rw [saw_same hs] at h3
  rcases hw n k K h3 h4 with h6 | ⟨l, h6, h7⟩
  ·rcases h.rw n k K hnk hn (hst n h1) (hst k h2) h3 h6 (overlap_of hs h5) with ⟨h7, h8⟩ | ⟨l, h7, h8⟩
   ·exact .inl ⟨by rw [ha]; exact h7, by rw [hf]; exact h8⟩
   ·exact .inr (ht k K l h7 n h8 hn)
  ·exact .inr ⟨l, h6, h7 hn⟩
 ·rw [hf] at hc
  rw [ha] at hd
  exact h.mid n ((hs.alike.two n).1 h2) ⟨c, hc, hst c hc1, by simp⟩ ⟨d, hd, hst d hd1, by simp⟩
theorem Stern.wput {w : Int × Int} {T' : List Task} (h : Stern none e T) (hS : Sure e T) (ha : (e.tx i).alive = true) (hT : ∀ k K l, Task.ask k K l ∈ T → ∀ n ∈ l, n < e.txs.length → ∃ l', Task.ask k K l' ∈ T' ∧ n ∈ l') (hA : Task.ask i w.1 (List.range e.txs.length) ∈ T') : Stern none (e.wput i w) T' := by
 have hs := (Same.refl e).wput ha w
 refine h.same hs hS (fun j => Eng.upd_keep (·.fore) (fun x => { x with writes := mput x.writes w.1 w.2 }) (fun _ => rfl) j) (fun j => Eng.upd_keep (·.aft) (fun x => { x with writes := mput x.writes w.1 w.2 }) (fun _ => rfl) j) (fun j => not_dead hs) (fun n k K _ h4 => ?_) hT
 rw [wput_tx] at h4
 split at h4
 ·rename_i hc
  rw [wrote_put] at h4
  rcases Bool.or_eq_true _ _ ▸ h4 with h5 | h5
  ·right
   have h6 : K = w.1 := by simpa using h5
   rw [← hc.1, h6]
   exact ⟨_, hA, fun hn => List.mem_range.2 hn⟩
  ·exact .inl h5
 ·exact .inl h4
theorem stern_rule : Rule fun e T => Sure e T ∧ Stern none e T where
 hand N e w T h p := by
  refine ⟨sure_rule.hand N e w T h p.1, ?_⟩
  have hs := (Same.refl e).opens h.hand_lt.2.1
  refine p.2.same hs p.1 (fun j => Eng.upd_keep (·.fore) (fun x => { x with state := 0 }) (fun _ => rfl) j) (fun j => Eng.upd_keep (·.aft) (fun x => { x with state := 0 }) (fun _ => rfl) j) (fun j => not_dead hs) (fun n k K _ h4 => .inl ?_) fun k K l hl n hn _ => ⟨l, ?_, hn⟩
  ·rw [show ((e.opens (w.2.toNat - 1)).tx k).wrote K = (e.tx k).wrote K from Eng.upd_keep (·.wrote K) (fun x => { x with state := 0 }) (fun _ => rfl) k] at h4; exact h4
  ·rcases List.mem_cons.1 hl with h1 | h1
   ·cases h1
   ·exact List.mem_cons_of_mem _ h1
 late N e i w T h hl p := by
  refine ⟨sure_rule.late N e i w T h hl p.1, ?_⟩
  have h1 := p.2.left (.inl rfl) p.1 h.put_lt.1 h.put_lt.2 10
  refine ⟨h1.two, h1.apart, h1.wr, h1.cur, h1.top, h1.newv, h1.reads, fun n k K a b c d f g o => ?_, h1.mid⟩
  rcases h1.rw n k K a b c d f g o with h2 | ⟨l, h2, h3⟩
  ·exact .inl h2
  ·refine .inr ⟨l, ?_, h3⟩
   rcases List.mem_append.1 h2 with h4 | h4
   ·exact List.mem_append_left _ h4
   ·rcases List.mem_cons.1 h4 with h5 | h5
    ·cases h5
    ·exact List.mem_append_right _ h5
 put N e i w T h hl h2 p := absurd (p.2.two i h.put_lt.1) h2
 puts N e i w T h hl h2 p := by
  refine ⟨sure_rule.puts N e i w T h hl h2 p.1, ?_⟩
  refine p.2.wput p.1 h.put_lt.2 (fun k K l hl n hn _ => ⟨l, ?_, hn⟩) (List.mem_cons_self ..)
  rcases List.mem_cons.1 hl with h1 | h1
  ·cases h1
  ·exact List.mem_cons_of_mem _ h1
 asked N e i key T h p := by
  refine ⟨sure_rule.asked N e i key T h p.1, p.2.two, p.2.apart, p.2.wr, p.2.cur, p.2.top, p.2.newv, p.2.reads, fun n k K a b c d f g o => ?_, p.2.mid⟩
  rcases p.2.rw n k K a b c d f g o with h2 | ⟨l, h2, h3⟩
  ·exact .inl h2
  ·rcases List.mem_cons.1 h2 with h4 | h4
   ·cases h4; simp at h3
   ·exact .inr ⟨l, h4, h3⟩
 skip N e i j key l T h hs p := by
  refine ⟨sure_rule.skip N e i j key l T h hs p.1, p.2.two, p.2.apart, p.2.wr, p.2.cur, p.2.top, p.2.newv, p.2.reads, fun n k K a b c d f g o => ?_, p.2.mid⟩
  rcases p.2.rw n k K a b c d f g o with h2 | ⟨l', h2, h3⟩
  ·exact .inl h2
  ·rcases List.mem_cons.1 h2 with h4 | h4
   ·cases h4
    rcases List.mem_cons.1 h3 with h5 | h5
    ·subst h5
     exfalso
     unfold skips at hs
     simp only [Bool.or_eq_true, Bool.and_eq_true, decide_eq_true_eq, Bool.not_eq_true'] at hs
     rcases hs with ((hs | hs) | hs) | hs
     ·exact a hs
     ·have hst : (e.tx n).strict = true := by unfold Tx.strict; simp [p.2.two n b, c]
      rw [hst] at hs; cases hs
     ·exact o.1 hs
     ·rw [f] at hs; cases hs
    ·exact .inr ⟨l, List.mem_cons_self .., h5⟩
   ·exact .inr ⟨l', List.mem_cons_of_mem _ h4, h3⟩
 note N e i j key l T h hs hb p := by
  refine ⟨sure_rule.note N e i j key l T h hs hb p.1, ?_⟩
  have hk := h.ok _ (List.mem_cons_self ..)
  have hjl := (hk.ask i key (j :: l) rfl).2.2.2.1 j (List.mem_cons_self ..)
  refine p.2.note p.1 (fun n k K l' h1 h2 => ?_) (mid_good p.2 hb)
  rcases List.mem_cons.1 h1 with h4 | h4
  ·cases h4
   rcases List.mem_cons.1 h2 with h5 | h5
   ·exact .inl ⟨h5.symm, rfl, hjl, h.ask_lt.1⟩
   ·exact .inr ⟨l, List.mem_cons_self .., h5⟩
  ·exact .inr ⟨l', List.mem_cons_of_mem _ h4, h2⟩
 wrong N e i j key l T h hs hb p := by
  refine ⟨sure_rule.wrong N e i j key l T h hs hb p.1, ?_⟩
  have hk := h.ok _ (List.mem_cons_self ..)
  have hask := hk.ask i key (j :: l) rfl
  have h1 : Stern (some i) (e.note j i) (.ask i key (j :: l) :: T) := (p.2.weak (some i)).note p.1 (fun n k K l' h1 h2 => .inr ⟨l', h1, h2⟩) (mid_but (p.2.weak (some i)) (.inr rfl) (by rw [hask.1]; decide))
  have hS1 := p.1.note j i
  have hal : ((e.note j i).tx i).alive = true := by rw [alive_of_state (note_all e j i i).2.1]; exact h.ask_lt.2
  have h2 := h1.left (.inr rfl) hS1 (by rw [Eng.note_len]; exact h.ask_lt.1) hal 13
  have hself : (((e.note j i).left i 13).tx i).state = 3 := by rw [left_tx, if_pos ⟨rfl, by rw [Eng.note_len]; exact h.ask_lt.1⟩]
  refine ⟨h2.two, h2.apart, h2.wr, h2.cur, h2.top, h2.newv, h2.reads, fun n k K a b c d f g o => ?_, h2.mid⟩
  rcases h2.rw n k K a b c d f g o with h3 | ⟨l', h3, h4⟩
  ·exact .inl h3
  ·refine .inr ⟨l', ?_, h4⟩
   rcases List.mem_append.1 h3 with h5 | h5
   ·exact List.mem_append_left _ h5
   ·rcases List.mem_cons.1 h5 with h6 | h6
    ·cases h6; exact absurd hself d
    ·exact List.mem_append_right _ h6
theorem sure_put (h : Sure e []) (hok : OkT N e []) {key value : Int} (hi : i < e.txs.length) (hs : (e.tx i).state = 0) {t' : Tbl} (ht : t' = { e.t with hold := mput e.t.hold key ((i : Int) + 1) } ∧ mget e.t.hold key = none ∨ t' = e.t ∧ mget e.t.hold key = some ((i : Int) + 1)) : Sure ((e.wanting i (key, value)).table t') [.put i (key, value)] := by
 have h1 := h.wanting hok hs (key, value)
 have h2 : Sure ((e.wanting i (key, value)).table t') [] := by
  rcases ht with ⟨rfl, hh⟩ | ⟨rfl, hh⟩
  ·refine h1.table (fun K x hx => ?_) h1.wantk
   show mget (mput e.t.hold key ((i : Int) + 1)) K = _
   rw [mget_put]
   split
   ·rename_i hK; subst hK
    have hx' : mget e.t.hold K = some x := hx
    rw [hh] at hx'; cases hx'
   ·exact hx
  ·exact h1.table (fun _ _ h => h) h1.wantk
 refine ⟨h2.cnt, h2.rows, h2.lastc, h2.held, h2.newer, h2.apart, h2.wantk, by simp, fun i' w' hw' => ?_⟩
 simp only [List.mem_singleton] at hw'
 cases hw'
 refine ⟨?_, ?_⟩
 ·show mget t'.hold key = _
  rcases ht with ⟨rfl, hh⟩ | ⟨rfl, hh⟩
  ·show mget (mput e.t.hold key ((i : Int) + 1)) key = _
   rw [mget_put, if_pos rfl]
  ·exact hh
 ·show _ = ((e.wanting i (key, value)).tx i).want
  unfold Eng.wanting
  rw [Eng.upd_self hi]
end
end Go.Proofs.YtcbokjocahnlcaaGreatDoor
