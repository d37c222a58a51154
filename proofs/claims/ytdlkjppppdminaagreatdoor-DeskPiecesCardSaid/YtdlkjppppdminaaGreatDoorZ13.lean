/- A map of slices by its keys; a variable that holds a slice of pairs: what stands in memory. -/
import Derived.Test.YtdlkjppppdminaaGreatDoorZ0
import Derived.Test.YtdlkjppppdminaaGreatDoorZ6
import Derived.Test.YtdlkjppppdminaaGreatDoorZ4
import Derived.Test.YtdlkjppppdminaaGreatDoorZ12
import Derived.Test.YtdlkjppppdminaaGreatDoorZ8
import Derived.Test.YtdlkjppppdminaaGreatDoorZ11
/- The program's engine: Many. -/
namespace Go.Proofs.YtdlkjppppdminaaGreatDoor
open Go Go.RowKit Go.Sep
theorem emany_any (w0 w : World) (b : Nat) (e : Eng) (L : List HProp) (hs : S w0 w (storeP 99 b 0 e.V e.last :: L)) (hN : ∀ vs ∈ e.V, vs.length ≤ 2000000) :
  Calls Tryz.prog 72 #[.pointer (some ⟨b, 0, none⟩)] w fun r w' => r = .returned (.int .i64 (manyV e.V)) ∧ w = w' := by
 have hc := many_any w0 w b 0 e.V e.last L hs hN
 have HC := hid hc
 clear hs hc hN
 go_enter Tryz.func72, Tryz.ntmps72
 go_wp2_with fail
 with_reducible refine HC.out.mono ?_
 rintro r w' ⟨rfl, rfl⟩
 go_wp2_with fail
 go_ret
 exact ⟨rfl, rfl⟩
end Go.Proofs.YtdlkjppppdminaaGreatDoor
/- The desk in memory; what its commands do, in plain words. -/
namespace Go.Proofs.YtdlkjppppdminaaGreatDoor
open Go Go.RowKit Go.Sep
inductive Ans where
 | ok (s : List UInt8)
 | no (e : Int)
def Ans.ends : Ans → Ending → Prop
 | .ok s, r => r = .returned (.string ⟨s.toArray⟩)
 | .no e, r => r = .panicked [{ v := .iface 56 (.agg #[.int .i64 e]), recovered := false }]
def ansE (e : Int) (s : List UInt8) : Ans := if e = 0 then .ok s else .no e
def Bas.again (B : Bas) : Bas := ⟨B.dsk.setCut (-1), (B.dsk.setCut (-1)).engine, (B.dsk.setCut (-1)).opens.1, false, -1⟩
def deskP (k d : Nat) (B : Bas) : HProp := ex fun b => ex fun eb => ex fun bs => sep (blk k 31 [.pointer (some ⟨d, 0, none⟩), .pointer (some ⟨b, 0, none⟩)]) (sep (bseB b d (.pointer (some ⟨eb, 0, none⟩)) B.used B.down B.torn) (sep (engP eb bs B.eng) (dskB d B.dsk)))
theorem _root_.Go.Sep.S.desk_open {w0 w : World} {L : List HProp} {k d : Nat} {B : Bas} (h : S w0 w (deskP k d B :: L)) : ∃ b eb bs, S w0 w (blk k 31 [.pointer (some ⟨d, 0, none⟩), .pointer (some ⟨b, 0, none⟩)] :: bseB b d (.pointer (some ⟨eb, 0, none⟩)) B.used B.down B.torn :: engP eb bs B.eng :: dskB d B.dsk :: L) := by
 obtain ⟨b, h⟩ := h.ex_elim
 obtain ⟨eb, h⟩ := h.ex_elim
 obtain ⟨bs, h⟩ := h.ex_elim
 exact ⟨b, eb, bs, h.conv (by simp only [all]; ac_rfl)⟩
theorem _root_.Go.Sep.S.desk_shut {w0 w : World} {L : List HProp} {k d b eb : Nat} {bs : List Nat} {B : Bas} (h : S w0 w (blk k 31 [.pointer (some ⟨d, 0, none⟩), .pointer (some ⟨b, 0, none⟩)] :: bseB b d (.pointer (some ⟨eb, 0, none⟩)) B.used B.down B.torn :: engP eb bs B.eng :: dskB d B.dsk :: L)) : S w0 w (deskP k d B :: L) :=
 .ex_intro b (.ex_intro eb (.ex_intro bs (h.conv (by simp only [all]; ac_rfl))))
structure EngD (e : Eng) : Prop where
 rd : ∀ n key, I64 (e.read n key).2.1
 st : ∀ n, I64 (e.state n).1 ∧ I64 (e.state n).2.1
 wt : ∀ n, I64 (e.waits n)
 sw : I64 e.sweep.2
 mn : I64 (manyV e.V)
 al : ∀ p ∈ e.allV, I64 p.1 ∧ I64 p.2
 hl : e.hist.length ≤ 5000
 hi : ∀ o ∈ e.hist, I64 o.tx ∧ I64 o.key ∧ I64 o.fr
structure BasOk (N : Nat) (B : Bas) : Prop where
 eng : OkT N B.eng []
 d : EngD B.eng
 pl : ∀ t ∈ B.dsk.places, t.length ≤ 2000
 used : B.used ≤ 250
set_option maxRecDepth 40000 in
theorem dengine_any (w0 w : World) (k d b eb : Nat) (u : Nat) (dn : Bool) (tn : Int) (L : List HProp) (hs : S w0 w (blk k 31 [.pointer (some ⟨d, 0, none⟩), .pointer (some ⟨b, 0, none⟩)] :: bseB b d (.pointer (some ⟨eb, 0, none⟩)) u dn tn :: L)) :
  Calls Tryz.prog 60 #[.pointer (some ⟨k, 0, none⟩)] w fun r w' => r = .returned (.pointer (some ⟨eb, 0, none⟩)) ∧ w = w' := by
 have c := hs.blk_cell 1 rfl
 have HE := hid (bengine_any w0 w b d _ _ _ _ _ hs.tail)
 clear hs
 go_enter Tryz.func60, Tryz.ntmps60
 go_wp2_with (go_at_call 101; with_reducible refine HE.out.mono ?_; rintro r w' ⟨rfl, rfl⟩)
 go_ret
 exact ⟨rfl, rfl⟩
theorem numbers_ok (w0 w : World) (v : Value) (ws : List (List UInt8)) (n : Nat) (m : Int) (hm : m = (n : Int)) (ks : List Int) (L : List HProp) (hE : ErrT w0) (hL : LibAll w0) (hf : Fits ws) (h : numsP ws n = some ks) (hs : S w0 w (sl 9 1 v ws.length (sw ws) :: L)) :
  Calls Tryz.prog 11 #[v, .int .i64 m] w fun r w' => ∃ u, r = .returned u ∧ S w0 w' (sl 3 1 u ks.length (icells ks) :: L) := by
 subst hm
 refine (numbers_core w0 w v ws n L hE hL hf hs).mono fun r w' h2 => ?_
 rcases h2 with ⟨ks', u, h3, h4, h5⟩ | ⟨h3, _⟩
 ·rw [h] at h3
  obtain rfl := Option.some.inj h3
  exact ⟨u, h4, h5⟩
 ·rw [h] at h3; cases h3
theorem numbers_no (w0 w : World) (v : Value) (ws : List (List UInt8)) (n : Nat) (m : Int) (hm : m = (n : Int)) (L : List HProp) (hE : ErrT w0) (hL : LibAll w0) (hf : Fits ws) (h : numsP ws n = none) (hs : S w0 w (sl 9 1 v ws.length (sw ws) :: L)) :
  Calls Tryz.prog 11 #[v, .int .i64 m] w fun r w' => r = .panicked [{ v := .iface 56 (.agg #[.int .i64 3]), recovered := false }] ∧ S w0 w' L := by
 subst hm
 refine (numbers_core w0 w v ws n L hE hL hf hs).mono fun r w' h2 => ?_
 rcases h2 with ⟨ks', u, h3, h4, h5⟩ | ⟨_, h4, h5⟩
 ·rw [h] at h3; cases h3
 ·exact ⟨h4, h5⟩
theorem nums_one {ws : List (List UInt8)} {ks : List Int} (h : numsP ws 1 = some ks) : ∃ a, ks = [a] := by
 unfold numsP at h
 split at h
 ·have := (nums_len h).1
  match ks, this with
  | [a], _ => exact ⟨a, rfl⟩
 ·cases h
theorem nums_two {ws : List (List UInt8)} {ks : List Int} (h : numsP ws 2 = some ks) : ∃ a b, ks = [a, b] := by
 unfold numsP at h
 split at h
 ·have := (nums_len h).1
  match ks, this with
  | [a, b], _ => exact ⟨a, b, rfl⟩
 ·cases h
theorem nums_three {ws : List (List UInt8)} {ks : List Int} (h : numsP ws 3 = some ks) : ∃ a b c, ks = [a, b, c] := by
 unfold numsP at h
 split at h
 ·have := (nums_len h).1
  match ks, this with
  | [a, b, c], _ => exact ⟨a, b, c, rfl⟩
 ·cases h
theorem _root_.Go.Sep.S.ints {w0 w : World} {L : List HProp} {u : Value} {ks : List Int} (h : S w0 w (sl 3 1 u ks.length (icells ks) :: L)) (h0 : 0 < ks.length) : ∃ g o c, u = .slice (some ⟨g, o, none⟩) ks.length c ∧ ks.length ≤ c ∧ c ≤ 9223372036854775807 ∧ ∀ W M, S w0 W (sl 3 1 u ks.length (icells ks) :: M) → ∀ j x, ks[j]? = some x → W.cell? ⟨g, o + j, none⟩ = some (.int .i64 x) := by
 obtain ⟨g, o, c, rfl, h1, h2, _, _, _, _⟩ := h.sl_some (by unfold icells; rw [List.length_map]; exact h0)
 refine ⟨g, o, c, rfl, h1, by unfold maxLen at h2; omega, fun W M h j x hx => ?_⟩
 obtain ⟨g', o', c', e1, _, _, _, _, e4, _⟩ := h.sl_some (by unfold icells; rw [List.length_map]; exact h0)
 simp only [Value.slice.injEq, Option.some.injEq, Addr.mk.injEq] at e1
 obtain ⟨⟨rfl, rfl, _⟩, _, rfl⟩ := e1
 exact e4 j _ (by unfold icells; rw [List.getElem?_map, hx]; rfl)
end Go.Proofs.YtdlkjppppdminaaGreatDoor
/- What holds of the desk's base between two lines. No walk in sight. -/
namespace Go.Proofs.YtdlkjppppdminaaGreatDoor
open Go Go.RowKit Go.Sep
section
variable {e : Eng} {B : Bas} {c N : Nat}
theorem val64 {v : Int} (h : valOk v) : I64 v := by unfold valOk at h; unfold I64; omega
theorem zero64 : I64 0 := by unfold I64; omega
theorem readV_val (p : Neat c e) (k at_ : Int) : I64 (((readV (e.row k) at_).map (·.2)).getD 0) := by
 cases h : readV (e.row k) at_ with
 | none => exact zero64
 | some q =>
  have hq : q ∈ e.row k := by
   unfold readV at h
   exact List.mem_reverse.1 (List.mem_of_find?_eq_some h)
  unfold Eng.row at hq
  cases hg : e.V[k.toNat]? with
  | none => rw [hg] at hq; simp at hq
  | some vs => rw [hg] at hq; exact val64 (p.vals vs (List.mem_of_getElem? hg) q hq)
theorem tx_none {j : Nat} (h : ¬ j < e.txs.length) : e.tx j = Tx.zero := by unfold Eng.tx; rw [List.getElem?_eq_none (by omega)]; rfl
theorem hold64 (h : OkT N e []) (k : Int) : I64 ((mget e.t.hold k).getD 0) := by
 obtain ⟨Q, hQ⟩ := h.tab
 rw [hQ.tab.hold k]
 cases hq : Q k with
 | nil => exact zero64
 | cons x l =>
  have h1 := hQ.key k x (by rw [hq]; simp)
  have h2 := h.few
  unfold I64
  simp only [List.head?_cons, Option.getD_some]
  omega
theorem sum_rows {f : Vers → Nat} {M : Nat} : ∀ {V : List Vers}, (∀ vs ∈ V, f vs ≤ M) → (V.map f).sum ≤ M * V.length
 | [], _ => by simp
 | a :: V, h => by
  have h1 := h a (by simp)
  have h2 := sum_rows (V := V) (fun vs hv => h vs (by simp [hv]))
  simp only [List.map_cons, List.sum_cons, List.length_cons, Nat.mul_add]
  omega
theorem engD_of (h : OkT N e []) (p : Neat c e) (hw : WhyB e) (hc : c ≤ 3000) : EngD e := by
 have hfew := h.few
 refine ⟨fun n key => ?_, fun n => ?_, fun n => ?_, ?_, ?_, ?_, ?_, ?_⟩
 ·have hr := read_case e n key
  generalize e.read n key = r at *
  cases hr with
  | err => exact zero64
  | own i v hn hi hs hv => exact val64 ((h.at hi).own _ (mget_some hv)).2
  | plain => exact readV_val p _ _
  | seen => exact readV_val p _ _
  | gone => exact zero64
 ·unfold Eng.state
  split
  ·exact ⟨zero64, zero64⟩
  ·refine ⟨?_, ?_⟩
   ·by_cases hi : n.toNat - 1 < e.txs.length
    ·have := (h.at hi).state
     unfold I64; simp only; omega
    ·simp only [tx_none hi]; exact zero64
   ·have := hw (n.toNat - 1)
    unfold I64; simp only; omega
 ·unfold Eng.waits
  split
  ·split
   ·exact hold64 h _
   ·exact zero64
  ·exact zero64
 ·have h1 : (e.V.map (sweptN e.floor)).sum ≤ 1000000 := by
   have hN : ∀ vs ∈ e.V, sweptN e.floor vs ≤ 401 := fun vs hv => by
    have h2 := lastLe_range e.floor vs 0 (-1) (by omega) (by omega)
    have h3 := h.row_le vs hv
    unfold sweptN; omega
   have hS := sum_rows hN
   rw [h.v10] at hS
   omega
  unfold Eng.sweep I64; simp only; omega
 ·have h1 := manyV_le h.row_le
  rw [h.v10] at h1
  unfold I64; omega
 ·intro q hq
  have hx : ∀ n, n ≤ 10 → ∀ q ∈ allL (fun k => readV (e.row k) e.last) n, I64 q.1 ∧ I64 q.2 := by
   intro n
   induction n with
   | zero => intro _ q hq; simp [allL] at hq
   | succ n ih =>
    intro hn q hq
    rw [allL_succ, List.mem_append] at hq
    rcases hq with hq | hq
    ·exact ih (by omega) q hq
    ·have hv := readV_val p (n : Int) e.last
     cases hr : readV (e.row n) e.last with
     | none => rw [allK_none hr] at hq; simp at hq
     | some y =>
      rw [allK_some hr, List.mem_singleton] at hq
      subst hq
      rw [hr] at hv
      exact ⟨by unfold I64; simp only; omega, hv⟩
  exact hx 10 (Nat.le_refl _) q hq
 ·have := p.pot; omega
 ·intro o ho
  have := p.his o ho
  unfold keyOk at this
  unfold I64; omega
structure DeskI (c : Nat) (B : Bas) : Prop where
 ok : OkT (10 + 1000 * c) B.eng []
 neat : Neat c B.eng
 why : WhyB B.eng
 pl : ∀ t ∈ B.dsk.places, t.length ≤ 2000
 len : B.dsk.places.length = 250
 used : B.used ≤ 250
theorem DeskI.bas (h : DeskI c B) (hc : c ≤ 3000) : BasOk 80000000 B := ⟨h.ok.mono (by omega), engD_of h.ok h.neat h.why hc, h.pl, h.used⟩
end
end Go.Proofs.YtdlkjppppdminaaGreatDoor
/- The desk's commands that ask the engine for one thing. -/
namespace Go.Proofs.YtdlkjppppdminaaGreatDoor
open Go Go.RowKit Go.Sep
theorem glueL (a b : List UInt8) : (⟨a.toArray⟩ : ByteArray) ++ ⟨b.toArray⟩ = ⟨(a ++ b).toArray⟩ := by
 apply ByteArray.ext
 simp [ByteArray.data_append]
theorem num_fits {x : Int} (h : I64 x) (n : Nat) (hn : n ≤ 1000) : ¬ (n + (⟨(num x).toArray⟩ : ByteArray).size > 9223372036854775807) := by
 have e2 : (⟨(num x).toArray⟩ : ByteArray).size = (num x).length := by simp [ByteArray.size]
 have := num_len20 h
 rw [e2]; omega
theorem nums_zero {ws : List (List UInt8)} {ks : List Int} (h : numsP ws 0 = some ks) : ks = [] := by
 unfold numsP at h
 split at h
 ·exact List.length_eq_zero_iff.1 (nums_len h).1
 ·cases h
noncomputable def cBegin (B : Bas) (ws : List (List UInt8)) : Bas × Ans := match numsP ws 1 with
 | some [a] => ({ B with eng := (B.eng.begin_ a).1 }, ansE (B.eng.begin_ a).2.2 (num (B.eng.begin_ a).2.1))
 | _ => (B, .no 3)
theorem begin_I64 {e : Eng} {N : Nat} {U : List Task} (h : OkT N e U) (a : Int) : I64 (e.begin_ a).2.1 := by
 have := h.few
 unfold Eng.begin_ I64
 split
 ·simp
 split
 ·simp
 split
 ·simp
 simp only; omega
set_option linter.unusedVariables false in
set_option linter.unusedSimpArgs false in
set_option maxRecDepth 40000 in
set_option maxHeartbeats 8000000 in
theorem cBegin_any (w0 w : World) (k d : Nat) (B : Bas) (v : Value) (ws : List (List UInt8)) (L : List HProp) (N : Nat) (hE : ErrT w0) (hL : LibAll w0) (hf : Fits ws) (hB : BasOk N B) (_hN : N ≤ 80000000)
  (hs : S w0 w (deskP k d B :: sl 9 1 v ws.length (sw ws) :: L)) :
  Calls Tryz.prog 37 #[.pointer (some ⟨k, 0, none⟩), v] w fun r w' => (cBegin B ws).2.ends r ∧ S w0 w' (deskP k d (cBegin B ws).1 :: L) := by
 obtain ⟨b, eb, bs, h0⟩ := hs.desk_open
 have HEN := hid (fun W (M : List HProp) (h : S w0 W (blk k 31 [.pointer (some ⟨d, 0, none⟩), .pointer (some ⟨b, 0, none⟩)] :: bseB b d (.pointer (some ⟨eb, 0, none⟩)) B.used B.down B.torn :: M)) => dengine_any w0 W k d b eb _ _ _ M h)
 have HS0 := hid h0
 have h1 : S w0 w (sl 9 1 v ws.length (sw ws) :: blk k 31 [.pointer (some ⟨d, 0, none⟩), .pointer (some ⟨b, 0, none⟩)] :: bseB b d (.pointer (some ⟨eb, 0, none⟩)) B.used B.down B.torn :: engP eb bs B.eng :: dskB d B.dsk :: L) := h0.conv (by simp only [all]; ac_rfl)
 cases hn : numsP ws 1 with
 | none =>
  have hc : cBegin B ws = (B, .no 3) := by unfold cBegin; rw [hn]
  have HNU := hid (numbers_no w0 w v ws 1 1 rfl _ hE hL hf hn h1)
  have HC := hid hc
  clear hs h0 h1 hn hc hE hL hf hB
  go_enter Tryz.func37, Tryz.ntmps37
  go_wp2_with (first
   | (go_at_call 60; with_reducible refine (HEN.out _ _ HS0.out).mono ?_; rintro r w' ⟨rfl, rfl⟩)
   | (go_at_call 11; with_reducible refine HNU.out.mono ?_; rintro r w2 ⟨rfl, hs2⟩; have H2 := hid hs2; clear hs2))
  rw [HC.out]
  exact ⟨rfl, rfl, H2.out.desk_shut⟩
 | some ks =>
  obtain ⟨a, rfl⟩ := nums_one hn
  have HNU := hid (numbers_ok w0 w v ws 1 1 rfl [a] _ hE hL hf hn h1)
  have HE := hid hE
  have HLB := hid hL
  have hop := fun W M h => ebegin_any w0 W eb bs B.eng a M N hB.eng h
  have hc : cBegin B ws = ({ B with eng := (B.eng.begin_ a).1 }, ansE (B.eng.begin_ a).2.2 (num (B.eng.begin_ a).2.1)) := by unfold cBegin; rw [hn]
  have hi := begin_I64 hB.eng a
  generalize B.eng.begin_ a = r at hop hc hi
  obtain ⟨e', x, er⟩ := r
  simp only at hop hc hi
  have HOP := hid hop; have HI := hid (fun W M (h : S w0 W M) => itoa_any x hi w0 W M hL.1.1 h)
  have hsh : ∀ W e bs' X, S w0 W (engP eb bs' e :: blk k 31 [.pointer (some ⟨d, 0, none⟩), .pointer (some ⟨b, 0, none⟩)] :: bseB b d (.pointer (some ⟨eb, 0, none⟩)) B.used B.down B.torn :: dskB d B.dsk :: X :: L) → S w0 W (deskP k d { B with eng := e } :: L) := fun W e bs' X h => (S.desk_shut (B := { B with eng := e }) (b := b) (eb := eb) (bs := bs') (h.conv (M := blk k 31 [.pointer (some ⟨d, 0, none⟩), .pointer (some ⟨b, 0, none⟩)] :: bseB b d (.pointer (some ⟨eb, 0, none⟩)) B.used B.down B.torn :: engP eb bs' e :: dskB d B.dsk :: X :: L) (by simp only [all]; ac_rfl))).swap.tail
  have HSH := hid hsh
  clear hs h0 h1 hn hL hf hB hop hi hE hsh
  by_cases he : er = 0
  ·subst he
   have HC := hid hc
   clear hc
   rw [errV_0] at HOP
   go_enter Tryz.func37, Tryz.ntmps37
   go_wp2_with (first
    | (go_at_call 60; with_reducible refine (HEN.out _ _ HS0.out).mono ?_; rintro r w' ⟨rfl, rfl⟩)
    | (go_at_call 11; with_reducible refine HNU.out.mono ?_; rintro r w2 ⟨u, rfl, hs2⟩; obtain ⟨gi, oi, ci, rfl, hi1, hi2, hce⟩ := hs2.ints (by simp); have c0 := hce _ _ hs2 0 a rfl; simp only [List.length_cons, List.length_nil, Nat.add_zero, Nat.zero_add, Nat.reduceAdd] at hi1 hi2 hs2 c0; have HCE := hid hce; have H2i := hid hs2; have H2 := hid (hs2.conv (M := engP eb bs B.eng :: blk k 31 [.pointer (some ⟨d, 0, none⟩), .pointer (some ⟨b, 0, none⟩)] :: bseB b d (.pointer (some ⟨eb, 0, none⟩)) B.used B.down B.torn :: dskB d B.dsk :: sl 3 1 (.slice (some ⟨gi, oi, none⟩) 1 ci) 1 (icells [a]) :: L) (by simp only [all]; ac_rfl)); have H2e := hid (H2.out.conv (M := blk k 31 [.pointer (some ⟨d, 0, none⟩), .pointer (some ⟨b, 0, none⟩)] :: bseB b d (.pointer (some ⟨eb, 0, none⟩)) B.used B.down B.torn :: engP eb bs B.eng :: dskB d B.dsk :: sl 3 1 (.slice (some ⟨gi, oi, none⟩) 1 ci) 1 (icells [a]) :: L) (by simp only [all]; ac_rfl)); clear hs2 hce)
    | (go_at_call 65; with_reducible refine (HOP.out _ _ H2.out).mono ?_; rintro r w3 ⟨rfl, bs3, hs3⟩; have H3 := hid hs3; clear hs3)
    | (go_at_call 14; with_reducible refine (must_nil _).mono ?_; rintro r w' ⟨rfl, rfl⟩)
    | (go_at_call 19; with_reducible refine (HI.out _ _ H3.out).mono ?_; rintro r w4 ⟨rfl, hs4⟩; have H4 := hid hs4; clear hs4))
   go_ret
   rw [HC.out]
   exact ⟨rfl, HSH.out _ _ _ _ H4.out⟩
  ·have HC := hid (show cBegin B ws = ({ B with eng := e' }, .no er) by rw [hc, ansE, if_neg he])
   clear hc
   rw [errV_ne he] at HOP
   have HMU := hid (fun W M (h : S w0 W M) => must_no w0 W er M HE.out he h)
   rw [errV_ne he] at HMU
   go_enter Tryz.func37, Tryz.ntmps37
   go_wp2_with (first
    | (go_at_call 60; with_reducible refine (HEN.out _ _ HS0.out).mono ?_; rintro r w' ⟨rfl, rfl⟩)
    | (go_at_call 11; with_reducible refine HNU.out.mono ?_; rintro r w2 ⟨u, rfl, hs2⟩; obtain ⟨gi, oi, ci, rfl, hi1, hi2, hce⟩ := hs2.ints (by simp); have c0 := hce _ _ hs2 0 a rfl; simp only [List.length_cons, List.length_nil, Nat.add_zero, Nat.zero_add, Nat.reduceAdd] at hi1 hi2 hs2 c0; have HCE := hid hce; have H2i := hid hs2; have H2 := hid (hs2.conv (M := engP eb bs B.eng :: blk k 31 [.pointer (some ⟨d, 0, none⟩), .pointer (some ⟨b, 0, none⟩)] :: bseB b d (.pointer (some ⟨eb, 0, none⟩)) B.used B.down B.torn :: dskB d B.dsk :: sl 3 1 (.slice (some ⟨gi, oi, none⟩) 1 ci) 1 (icells [a]) :: L) (by simp only [all]; ac_rfl)); have H2e := hid (H2.out.conv (M := blk k 31 [.pointer (some ⟨d, 0, none⟩), .pointer (some ⟨b, 0, none⟩)] :: bseB b d (.pointer (some ⟨eb, 0, none⟩)) B.used B.down B.torn :: engP eb bs B.eng :: dskB d B.dsk :: sl 3 1 (.slice (some ⟨gi, oi, none⟩) 1 ci) 1 (icells [a]) :: L) (by simp only [all]; ac_rfl)); clear hs2 hce)
    | (go_at_call 65; with_reducible refine (HOP.out _ _ H2.out).mono ?_; rintro r w3 ⟨rfl, bs3, hs3⟩; have H3 := hid hs3; clear hs3)
    | (go_at_call 14; with_reducible refine (HMU.out _ _ H3.out).mono ?_; rintro r w5 ⟨rfl, hs5⟩; have H5 := hid hs5; clear hs5))
   rw [HC.out]
   exact ⟨rfl, rfl, HSH.out _ _ _ _ H5.out⟩
noncomputable def cRead (B : Bas) (ws : List (List UInt8)) : Bas × Ans := match numsP ws 2 with
 | some [a, a2] => ({ B with eng := (B.eng.read a a2).1 }, ansE (B.eng.read a a2).2.2 ([105, 115, 32] ++ num (B.eng.read a a2).2.1))
 | _ => (B, .no 3)
set_option linter.unusedVariables false in
set_option linter.unusedSimpArgs false in
set_option maxRecDepth 40000 in
set_option maxHeartbeats 8000000 in
theorem cRead_any (w0 w : World) (k d : Nat) (B : Bas) (v : Value) (ws : List (List UInt8)) (L : List HProp) (N : Nat) (hE : ErrT w0) (hL : LibAll w0) (hf : Fits ws) (hB : BasOk N B) (_hN : N ≤ 80000000)
  (hs : S w0 w (deskP k d B :: sl 9 1 v ws.length (sw ws) :: L)) :
  Calls Tryz.prog 44 #[.pointer (some ⟨k, 0, none⟩), v] w fun r w' => (cRead B ws).2.ends r ∧ S w0 w' (deskP k d (cRead B ws).1 :: L) := by
 obtain ⟨b, eb, bs, h0⟩ := hs.desk_open
 have HEN := hid (fun W (M : List HProp) (h : S w0 W (blk k 31 [.pointer (some ⟨d, 0, none⟩), .pointer (some ⟨b, 0, none⟩)] :: bseB b d (.pointer (some ⟨eb, 0, none⟩)) B.used B.down B.torn :: M)) => dengine_any w0 W k d b eb _ _ _ M h)
 have HS0 := hid h0
 have h1 : S w0 w (sl 9 1 v ws.length (sw ws) :: blk k 31 [.pointer (some ⟨d, 0, none⟩), .pointer (some ⟨b, 0, none⟩)] :: bseB b d (.pointer (some ⟨eb, 0, none⟩)) B.used B.down B.torn :: engP eb bs B.eng :: dskB d B.dsk :: L) := h0.conv (by simp only [all]; ac_rfl)
 cases hn : numsP ws 2 with
 | none =>
  have hc : cRead B ws = (B, .no 3) := by unfold cRead; rw [hn]
  have HNU := hid (numbers_no w0 w v ws 2 2 rfl _ hE hL hf hn h1)
  have HC := hid hc
  clear hs h0 h1 hn hc hE hL hf hB
  go_enter Tryz.func44, Tryz.ntmps44
  go_wp2_with (first
   | (go_at_call 60; with_reducible refine (HEN.out _ _ HS0.out).mono ?_; rintro r w' ⟨rfl, rfl⟩)
   | (go_at_call 11; with_reducible refine HNU.out.mono ?_; rintro r w2 ⟨rfl, hs2⟩; have H2 := hid hs2; clear hs2))
  rw [HC.out]
  exact ⟨rfl, rfl, H2.out.desk_shut⟩
 | some ks =>
  obtain ⟨a, a2, rfl⟩ := nums_two hn
  have HNU := hid (numbers_ok w0 w v ws 2 2 rfl [a, a2] _ hE hL hf hn h1)
  have HE := hid hE
  have HLB := hid hL
  have hop := fun W M h => eread_any w0 W eb bs B.eng a a2 M N hE hB.eng (by omega) h
  have hc : cRead B ws = ({ B with eng := (B.eng.read a a2).1 }, ansE (B.eng.read a a2).2.2 ([105, 115, 32] ++ num (B.eng.read a a2).2.1)) := by unfold cRead; rw [hn]
  have hi := hB.d.rd a a2
  generalize B.eng.read a a2 = r at hop hc hi
  obtain ⟨e', x, er⟩ := r
  simp only at hop hc hi
  have HOP := hid hop; have HI := hid (fun W M (h : S w0 W M) => itoa_any x hi w0 W M hL.1.1 h); have HX := hid hi
  have hnf := num_fits hi 3 (by omega)
  have hsh : ∀ W e bs' X, S w0 W (engP eb bs' e :: blk k 31 [.pointer (some ⟨d, 0, none⟩), .pointer (some ⟨b, 0, none⟩)] :: bseB b d (.pointer (some ⟨eb, 0, none⟩)) B.used B.down B.torn :: dskB d B.dsk :: X :: L) → S w0 W (deskP k d { B with eng := e } :: L) := fun W e bs' X h => (S.desk_shut (B := { B with eng := e }) (b := b) (eb := eb) (bs := bs') (h.conv (M := blk k 31 [.pointer (some ⟨d, 0, none⟩), .pointer (some ⟨b, 0, none⟩)] :: bseB b d (.pointer (some ⟨eb, 0, none⟩)) B.used B.down B.torn :: engP eb bs' e :: dskB d B.dsk :: X :: L) (by simp only [all]; ac_rfl))).swap.tail
  have HSH := hid hsh
  clear hs h0 h1 hn hL hf hB hop hE hsh hi
  by_cases he : er = 0
  ·subst he
   have HC := hid hc
   clear hc
   rw [errV_0] at HOP
   go_enter Tryz.func44, Tryz.ntmps44
   go_upto_region 2 with (first
    | (go_at_call 11; with_reducible refine HNU.out.mono ?_; rintro r w2 ⟨u, rfl, hs2⟩; obtain ⟨gi, oi, ci, rfl, hi1, hi2, hce⟩ := hs2.ints (by simp); have c0 := hce _ _ hs2 0 a rfl; have c1 := hce _ _ hs2 1 a2 rfl; simp only [List.length_cons, List.length_nil, Nat.add_zero, Nat.zero_add, Nat.reduceAdd] at hi1 hi2 hs2 c0 c1; have HCE := hid hce; have H2i := hid hs2; have H2 := hid (hs2.conv (M := engP eb bs B.eng :: blk k 31 [.pointer (some ⟨d, 0, none⟩), .pointer (some ⟨b, 0, none⟩)] :: bseB b d (.pointer (some ⟨eb, 0, none⟩)) B.used B.down B.torn :: dskB d B.dsk :: sl 3 1 (.slice (some ⟨gi, oi, none⟩) 2 ci) 2 (icells [a, a2]) :: L) (by simp only [all]; ac_rfl)); have H2e := hid (H2.out.conv (M := blk k 31 [.pointer (some ⟨d, 0, none⟩), .pointer (some ⟨b, 0, none⟩)] :: bseB b d (.pointer (some ⟨eb, 0, none⟩)) B.used B.down B.torn :: engP eb bs B.eng :: dskB d B.dsk :: sl 3 1 (.slice (some ⟨gi, oi, none⟩) 2 ci) 2 (icells [a, a2]) :: L) (by simp only [all]; ac_rfl)); clear hs2 hce))
   have q0 := And.intro (HCE.out _ _ H2i.out.drew 0 a rfl) (HCE.out _ _ H2i.out.drew 1 a2 rfl)
   simp only [Nat.add_zero] at q0
   go_region_held_law (fun w' => w'.cell? ⟨gi, oi, none⟩ = some (.int .i64 a) ∧ w'.cell? ⟨gi, oi + 1, none⟩ = some (.int .i64 a2)) (first | (with_reducible assumption) | (with_reducible exact q0) | (with_reducible exact q1))
    (first
     | (go_at_call 60; with_reducible refine (HEN.out _ _ H2e.out.drew).mono ?_; rintro r w' ⟨rfl, rfl⟩)
     | (go_at_call 76; with_reducible refine (HOP.out _ _ H2.out.drew).mono ?_; rintro r w3 ⟨rfl, hs3⟩; have H3 := hid hs3; have h3i := (hs3.conv (M := sl 3 1 (.slice (some ⟨gi, oi, none⟩) 2 ci) 2 (icells [a, a2]) :: engP eb bs e' :: blk k 31 [.pointer (some ⟨d, 0, none⟩), .pointer (some ⟨b, 0, none⟩)] :: bseB b d (.pointer (some ⟨eb, 0, none⟩)) B.used B.down B.torn :: dskB d B.dsk :: L) (by simp only [all]; ac_rfl)); have q1 := And.intro (HCE.out _ _ h3i 0 a rfl) (HCE.out _ _ h3i 1 a2 rfl); simp only [Nat.add_zero] at q1; clear h3i; clear hs3))
   clear q0 q1
   go_wp2_with (first
    | (go_at_call 14; with_reducible refine (must_nil _).mono ?_; rintro r w' ⟨rfl, rfl⟩)
    | (go_at_call 19; with_reducible refine (HI.out _ _ H3.out).mono ?_; rintro r w4 ⟨rfl, hs4⟩; have H4 := hid hs4; clear hs4))
   go_ret
   rw [HC.out]
   refine ⟨?_, HSH.out _ _ _ _ H4.out⟩
   show _ = Ending.returned _
   rw [← glueL]; rfl
  ·have HC := hid (show cRead B ws = ({ B with eng := e' }, .no er) by rw [hc, ansE, if_neg he])
   clear hc
   rw [errV_ne he] at HOP
   have HMU := hid (fun W M (h : S w0 W M) => must_no w0 W er M HE.out he h)
   rw [errV_ne he] at HMU
   go_enter Tryz.func44, Tryz.ntmps44
   go_upto_region 2 with (first
    | (go_at_call 11; with_reducible refine HNU.out.mono ?_; rintro r w2 ⟨u, rfl, hs2⟩; obtain ⟨gi, oi, ci, rfl, hi1, hi2, hce⟩ := hs2.ints (by simp); have c0 := hce _ _ hs2 0 a rfl; have c1 := hce _ _ hs2 1 a2 rfl; simp only [List.length_cons, List.length_nil, Nat.add_zero, Nat.zero_add, Nat.reduceAdd] at hi1 hi2 hs2 c0 c1; have HCE := hid hce; have H2i := hid hs2; have H2 := hid (hs2.conv (M := engP eb bs B.eng :: blk k 31 [.pointer (some ⟨d, 0, none⟩), .pointer (some ⟨b, 0, none⟩)] :: bseB b d (.pointer (some ⟨eb, 0, none⟩)) B.used B.down B.torn :: dskB d B.dsk :: sl 3 1 (.slice (some ⟨gi, oi, none⟩) 2 ci) 2 (icells [a, a2]) :: L) (by simp only [all]; ac_rfl)); have H2e := hid (H2.out.conv (M := blk k 31 [.pointer (some ⟨d, 0, none⟩), .pointer (some ⟨b, 0, none⟩)] :: bseB b d (.pointer (some ⟨eb, 0, none⟩)) B.used B.down B.torn :: engP eb bs B.eng :: dskB d B.dsk :: sl 3 1 (.slice (some ⟨gi, oi, none⟩) 2 ci) 2 (icells [a, a2]) :: L) (by simp only [all]; ac_rfl)); clear hs2 hce))
   have q0 := And.intro (HCE.out _ _ H2i.out.drew 0 a rfl) (HCE.out _ _ H2i.out.drew 1 a2 rfl)
   simp only [Nat.add_zero] at q0
   go_region_held_law (fun w' => w'.cell? ⟨gi, oi, none⟩ = some (.int .i64 a) ∧ w'.cell? ⟨gi, oi + 1, none⟩ = some (.int .i64 a2)) (first | (with_reducible assumption) | (with_reducible exact q0) | (with_reducible exact q1))
    (first
     | (go_at_call 60; with_reducible refine (HEN.out _ _ H2e.out.drew).mono ?_; rintro r w' ⟨rfl, rfl⟩)
     | (go_at_call 76; with_reducible refine (HOP.out _ _ H2.out.drew).mono ?_; rintro r w3 ⟨rfl, hs3⟩; have H3 := hid hs3; have h3i := (hs3.conv (M := sl 3 1 (.slice (some ⟨gi, oi, none⟩) 2 ci) 2 (icells [a, a2]) :: engP eb bs e' :: blk k 31 [.pointer (some ⟨d, 0, none⟩), .pointer (some ⟨b, 0, none⟩)] :: bseB b d (.pointer (some ⟨eb, 0, none⟩)) B.used B.down B.torn :: dskB d B.dsk :: L) (by simp only [all]; ac_rfl)); have q1 := And.intro (HCE.out _ _ h3i 0 a rfl) (HCE.out _ _ h3i 1 a2 rfl); simp only [Nat.add_zero] at q1; clear h3i; clear hs3))
   clear q0 q1
   go_wp2_with (first
    | (go_at_call 14; with_reducible refine (HMU.out _ _ H3.out).mono ?_; rintro r w5 ⟨rfl, hs5⟩; have H5 := hid hs5; clear hs5))
   rw [HC.out]
   exact ⟨rfl, rfl, HSH.out _ _ _ _ H5.out⟩
noncomputable def cAbort (B : Bas) (ws : List (List UInt8)) : Bas × Ans := match numsP ws 1 with
 | some [a] => ({ B with eng := (B.eng.abort a).1 }, ansE (B.eng.abort a).2 [97, 98, 111, 114, 116])
 | _ => (B, .no 3)
set_option linter.unusedVariables false in
set_option linter.unusedSimpArgs false in
set_option maxRecDepth 40000 in
set_option maxHeartbeats 8000000 in
theorem cAbort_any (w0 w : World) (k d : Nat) (B : Bas) (v : Value) (ws : List (List UInt8)) (L : List HProp) (N : Nat) (hE : ErrT w0) (hL : LibAll w0) (hf : Fits ws) (hB : BasOk N B) (_hN : N ≤ 80000000)
  (hs : S w0 w (deskP k d B :: sl 9 1 v ws.length (sw ws) :: L)) :
  Calls Tryz.prog 35 #[.pointer (some ⟨k, 0, none⟩), v] w fun r w' => (cAbort B ws).2.ends r ∧ S w0 w' (deskP k d (cAbort B ws).1 :: L) := by
 obtain ⟨b, eb, bs, h0⟩ := hs.desk_open
 have HEN := hid (fun W (M : List HProp) (h : S w0 W (blk k 31 [.pointer (some ⟨d, 0, none⟩), .pointer (some ⟨b, 0, none⟩)] :: bseB b d (.pointer (some ⟨eb, 0, none⟩)) B.used B.down B.torn :: M)) => dengine_any w0 W k d b eb _ _ _ M h)
 have HS0 := hid h0
 have h1 : S w0 w (sl 9 1 v ws.length (sw ws) :: blk k 31 [.pointer (some ⟨d, 0, none⟩), .pointer (some ⟨b, 0, none⟩)] :: bseB b d (.pointer (some ⟨eb, 0, none⟩)) B.used B.down B.torn :: engP eb bs B.eng :: dskB d B.dsk :: L) := h0.conv (by simp only [all]; ac_rfl)
 cases hn : numsP ws 1 with
 | none =>
  have hc : cAbort B ws = (B, .no 3) := by unfold cAbort; rw [hn]
  have HNU := hid (numbers_no w0 w v ws 1 1 rfl _ hE hL hf hn h1)
  have HC := hid hc
  clear hs h0 h1 hn hc hE hL hf hB
  go_enter Tryz.func35, Tryz.ntmps35
  go_wp2_with (first
   | (go_at_call 60; with_reducible refine (HEN.out _ _ HS0.out).mono ?_; rintro r w' ⟨rfl, rfl⟩)
   | (go_at_call 11; with_reducible refine HNU.out.mono ?_; rintro r w2 ⟨rfl, hs2⟩; have H2 := hid hs2; clear hs2))
  rw [HC.out]
  exact ⟨rfl, rfl, H2.out.desk_shut⟩
 | some ks =>
  obtain ⟨a, rfl⟩ := nums_one hn
  have HNU := hid (numbers_ok w0 w v ws 1 1 rfl [a] _ hE hL hf hn h1)
  have HE := hid hE
  have HLB := hid hL
  have hop := fun W M h => abort_any w0 W eb bs B.eng a M N hB.eng (by omega) h
  have hc : cAbort B ws = ({ B with eng := (B.eng.abort a).1 }, ansE (B.eng.abort a).2 [97, 98, 111, 114, 116]) := by unfold cAbort; rw [hn]
  generalize B.eng.abort a = r at hop hc
  obtain ⟨e', er⟩ := r
  simp only at hop hc
  have HOP := hid hop
  have hsh : ∀ W e bs' X, S w0 W (engP eb bs' e :: blk k 31 [.pointer (some ⟨d, 0, none⟩), .pointer (some ⟨b, 0, none⟩)] :: bseB b d (.pointer (some ⟨eb, 0, none⟩)) B.used B.down B.torn :: dskB d B.dsk :: X :: L) → S w0 W (deskP k d { B with eng := e } :: L) := fun W e bs' X h => (S.desk_shut (B := { B with eng := e }) (b := b) (eb := eb) (bs := bs') (h.conv (M := blk k 31 [.pointer (some ⟨d, 0, none⟩), .pointer (some ⟨b, 0, none⟩)] :: bseB b d (.pointer (some ⟨eb, 0, none⟩)) B.used B.down B.torn :: engP eb bs' e :: dskB d B.dsk :: X :: L) (by simp only [all]; ac_rfl))).swap.tail
  have HSH := hid hsh
  clear hs h0 h1 hn hL hf hB hop hE hsh
  by_cases he : er = 0
  ·subst he
   have HC := hid hc
   clear hc
   rw [errV_0] at HOP
   go_enter Tryz.func35, Tryz.ntmps35
   go_wp2_with (first
    | (go_at_call 60; with_reducible refine (HEN.out _ _ HS0.out).mono ?_; rintro r w' ⟨rfl, rfl⟩)
    | (go_at_call 11; with_reducible refine HNU.out.mono ?_; rintro r w2 ⟨u, rfl, hs2⟩; obtain ⟨gi, oi, ci, rfl, hi1, hi2, hce⟩ := hs2.ints (by simp); have c0 := hce _ _ hs2 0 a rfl; simp only [List.length_cons, List.length_nil, Nat.add_zero, Nat.zero_add, Nat.reduceAdd] at hi1 hi2 hs2 c0; have HCE := hid hce; have H2i := hid hs2; have H2 := hid (hs2.conv (M := engP eb bs B.eng :: blk k 31 [.pointer (some ⟨d, 0, none⟩), .pointer (some ⟨b, 0, none⟩)] :: bseB b d (.pointer (some ⟨eb, 0, none⟩)) B.used B.down B.torn :: dskB d B.dsk :: sl 3 1 (.slice (some ⟨gi, oi, none⟩) 1 ci) 1 (icells [a]) :: L) (by simp only [all]; ac_rfl)); have H2e := hid (H2.out.conv (M := blk k 31 [.pointer (some ⟨d, 0, none⟩), .pointer (some ⟨b, 0, none⟩)] :: bseB b d (.pointer (some ⟨eb, 0, none⟩)) B.used B.down B.torn :: engP eb bs B.eng :: dskB d B.dsk :: sl 3 1 (.slice (some ⟨gi, oi, none⟩) 1 ci) 1 (icells [a]) :: L) (by simp only [all]; ac_rfl)); clear hs2 hce)
    | (go_at_call 60; with_reducible refine (HEN.out _ _ H2e.out).mono ?_; rintro r w' ⟨rfl, rfl⟩)
    | (go_at_call 61; with_reducible refine (HOP.out _ _ H2.out).mono ?_; rintro r w3 ⟨rfl, hs3⟩; have H3 := hid hs3; clear hs3)
    | (go_at_call 14; with_reducible refine (must_nil _).mono ?_; rintro r w' ⟨rfl, rfl⟩))
   go_ret
   rw [HC.out]
   exact ⟨rfl, HSH.out _ _ _ _ H3.out⟩
  ·have HC := hid (show cAbort B ws = ({ B with eng := e' }, .no er) by rw [hc, ansE, if_neg he])
   clear hc
   rw [errV_ne he] at HOP
   have HMU := hid (fun W M (h : S w0 W M) => must_no w0 W er M HE.out he h)
   rw [errV_ne he] at HMU
   go_enter Tryz.func35, Tryz.ntmps35
   go_wp2_with (first
    | (go_at_call 60; with_reducible refine (HEN.out _ _ HS0.out).mono ?_; rintro r w' ⟨rfl, rfl⟩)
    | (go_at_call 11; with_reducible refine HNU.out.mono ?_; rintro r w2 ⟨u, rfl, hs2⟩; obtain ⟨gi, oi, ci, rfl, hi1, hi2, hce⟩ := hs2.ints (by simp); have c0 := hce _ _ hs2 0 a rfl; simp only [List.length_cons, List.length_nil, Nat.add_zero, Nat.zero_add, Nat.reduceAdd] at hi1 hi2 hs2 c0; have HCE := hid hce; have H2i := hid hs2; have H2 := hid (hs2.conv (M := engP eb bs B.eng :: blk k 31 [.pointer (some ⟨d, 0, none⟩), .pointer (some ⟨b, 0, none⟩)] :: bseB b d (.pointer (some ⟨eb, 0, none⟩)) B.used B.down B.torn :: dskB d B.dsk :: sl 3 1 (.slice (some ⟨gi, oi, none⟩) 1 ci) 1 (icells [a]) :: L) (by simp only [all]; ac_rfl)); have H2e := hid (H2.out.conv (M := blk k 31 [.pointer (some ⟨d, 0, none⟩), .pointer (some ⟨b, 0, none⟩)] :: bseB b d (.pointer (some ⟨eb, 0, none⟩)) B.used B.down B.torn :: engP eb bs B.eng :: dskB d B.dsk :: sl 3 1 (.slice (some ⟨gi, oi, none⟩) 1 ci) 1 (icells [a]) :: L) (by simp only [all]; ac_rfl)); clear hs2 hce)
    | (go_at_call 60; with_reducible refine (HEN.out _ _ H2e.out).mono ?_; rintro r w' ⟨rfl, rfl⟩)
    | (go_at_call 61; with_reducible refine (HOP.out _ _ H2.out).mono ?_; rintro r w3 ⟨rfl, hs3⟩; have H3 := hid hs3; clear hs3)
    | (go_at_call 14; with_reducible refine (HMU.out _ _ H3.out).mono ?_; rintro r w5 ⟨rfl, hs5⟩; have H5 := hid hs5; clear hs5))
   rw [HC.out]
   exact ⟨rfl, rfl, HSH.out _ _ _ _ H5.out⟩
end Go.Proofs.YtdlkjppppdminaaGreatDoor
/- The desk's commands write, state, waits, sweep, help, cut, open, commit. -/
namespace Go.Proofs.YtdlkjppppdminaaGreatDoor
open Go Go.RowKit Go.Sep
theorem state_E {w w0 : World} {L : List HProp} {b : Nat} {bs : List Nat} {e : Eng} (n : Int) (hs : S w0 w (engP b bs e :: L)) :
  Calls Tryz.prog 77 #[.pointer (some ⟨b, 0, none⟩), .int .i64 n] w fun r w' => r = .returned (.tuple #[.int .i64 (e.state n).1, .int .i64 (e.state n).2.1, errV (e.state n).2.2]) ∧ S w0 w' (engP b bs e :: L) := by
 obtain ⟨k, h⟩ := hs.eng_open
 have hO : S w0 w (engO b bs k e :: storeP 99 b 0 e.V e.last :: tabP 3 b 11 e.t :: L) := h.conv (by simp only [all]; ac_rfl)
 exact (state_any w0 w b bs k e n _ hO).mono fun r w' ⟨h1, h2⟩ => ⟨h1, S.eng_shut (k := k) (h2.conv (by simp only [all]; ac_rfl))⟩
theorem waits_E {w w0 : World} {L : List HProp} {b : Nat} {bs : List Nat} {e : Eng} (n : Int) (hs : S w0 w (engP b bs e :: L)) :
  Calls Tryz.prog 79 #[.pointer (some ⟨b, 0, none⟩), .int .i64 n] w fun r w' => r = .returned (.int .i64 (e.waits n)) ∧ w = w' := by
 obtain ⟨k, h⟩ := hs.eng_open
 exact ewaits_any w0 w b e n (storeP 99 b 0 e.V e.last :: engO b bs k e :: L) (h.conv (by simp only [all]; ac_rfl))
theorem join_new {w0 w : World} {L : List HProp} (l : List Int) (hp : Pow10 w0) (hl : l.length ≤ 1000) (hi : ∀ x ∈ l, I64 x) (hs : S w0 w L) :
  Calls Tryz.prog 63 #[.slice (some ⟨w.heap.size, 0, none⟩) l.length l.length] (w.alloc (.cells (icells l).toArray 3)) fun r w' => r = .returned (.string ⟨(joinL l).toArray⟩) ∧ S w0 w' L :=
 join_any w0 _ _ l L hp (by omega) hi (S.sl_blk (n := l.length) (by unfold icells; simp) (by unfold maxLen; omega) (hs.alloc (icells l).toArray 3))
noncomputable def cWrite (B : Bas) (ws : List (List UInt8)) : Bas × Ans := match numsP ws 3 with
 | some [a, a2, a3] => ({ B with eng := (B.eng.write a a2 a3).1 }, ansE (B.eng.write a a2 a3).2.2 (if (B.eng.write a a2 a3).2.1 = true then [119, 114, 105, 116, 101] else [119, 97, 105, 116, 115]))
 | _ => (B, .no 3)
set_option linter.unusedVariables false in
set_option linter.unusedSimpArgs false in
set_option maxRecDepth 40000 in
set_option maxHeartbeats 8000000 in
theorem cWrite_any (w0 w : World) (k d : Nat) (B : Bas) (v : Value) (ws : List (List UInt8)) (L : List HProp) (N : Nat) (hE : ErrT w0) (hL : LibAll w0) (hf : Fits ws) (hB : BasOk N B) (_hN : N ≤ 80000000)
  (hs : S w0 w (deskP k d B :: sl 9 1 v ws.length (sw ws) :: L)) :
  Calls Tryz.prog 48 #[.pointer (some ⟨k, 0, none⟩), v] w fun r w' => (cWrite B ws).2.ends r ∧ S w0 w' (deskP k d (cWrite B ws).1 :: L) := by
 obtain ⟨b, eb, bs, h0⟩ := hs.desk_open
 have HEN := hid (fun W (M : List HProp) (h : S w0 W (blk k 31 [.pointer (some ⟨d, 0, none⟩), .pointer (some ⟨b, 0, none⟩)] :: bseB b d (.pointer (some ⟨eb, 0, none⟩)) B.used B.down B.torn :: M)) => dengine_any w0 W k d b eb _ _ _ M h)
 have HS0 := hid h0
 have h1 : S w0 w (sl 9 1 v ws.length (sw ws) :: blk k 31 [.pointer (some ⟨d, 0, none⟩), .pointer (some ⟨b, 0, none⟩)] :: bseB b d (.pointer (some ⟨eb, 0, none⟩)) B.used B.down B.torn :: engP eb bs B.eng :: dskB d B.dsk :: L) := h0.conv (by simp only [all]; ac_rfl)
 cases hn : numsP ws 3 with
 | none =>
  have hc : cWrite B ws = (B, .no 3) := by unfold cWrite; rw [hn]
  have HNU := hid (numbers_no w0 w v ws 3 3 rfl _ hE hL hf hn h1)
  have HC := hid hc
  clear hs h0 h1 hn hc hE hL hf hB
  go_enter Tryz.func48, Tryz.ntmps48
  go_wp2_with (first
   | (go_at_call 60; with_reducible refine (HEN.out _ _ HS0.out).mono ?_; rintro r w' ⟨rfl, rfl⟩)
   | (go_at_call 11; with_reducible refine HNU.out.mono ?_; rintro r w2 ⟨rfl, hs2⟩; have H2 := hid hs2; clear hs2))
  rw [HC.out]
  exact ⟨rfl, rfl, H2.out.desk_shut⟩
 | some ks =>
  obtain ⟨a, a2, a3, rfl⟩ := nums_three hn
  have HNU := hid (numbers_ok w0 w v ws 3 3 rfl [a, a2, a3] _ hE hL hf hn h1)
  have HE := hid hE
  have HLB := hid hL
  have hop := fun W M h => ewrite_any w0 W eb bs B.eng a a2 a3 M N hB.eng (by omega) h
  have hc : cWrite B ws = ({ B with eng := (B.eng.write a a2 a3).1 }, ansE (B.eng.write a a2 a3).2.2 (if (B.eng.write a a2 a3).2.1 = true then [119, 114, 105, 116, 101] else [119, 97, 105, 116, 115])) := by unfold cWrite; rw [hn]
  generalize B.eng.write a a2 a3 = r at hop hc
  obtain ⟨e', x, er⟩ := r
  simp only at hop hc
  have HOP := hid hop
  have hsh : ∀ W e bs' X, S w0 W (engP eb bs' e :: blk k 31 [.pointer (some ⟨d, 0, none⟩), .pointer (some ⟨b, 0, none⟩)] :: bseB b d (.pointer (some ⟨eb, 0, none⟩)) B.used B.down B.torn :: dskB d B.dsk :: X :: L) → S w0 W (deskP k d { B with eng := e } :: L) := fun W e bs' X h => (S.desk_shut (B := { B with eng := e }) (b := b) (eb := eb) (bs := bs') (h.conv (M := blk k 31 [.pointer (some ⟨d, 0, none⟩), .pointer (some ⟨b, 0, none⟩)] :: bseB b d (.pointer (some ⟨eb, 0, none⟩)) B.used B.down B.torn :: engP eb bs' e :: dskB d B.dsk :: X :: L) (by simp only [all]; ac_rfl))).swap.tail
  have HSH := hid hsh
  clear hs h0 h1 hn hL hf hB hop hE hsh
  by_cases he : er = 0
  ·subst he
   have HC := hid hc
   clear hc
   rw [errV_0] at HOP
   go_enter Tryz.func48, Tryz.ntmps48
   go_upto_region 2 with (first
    | (go_at_call 11; with_reducible refine HNU.out.mono ?_; rintro r w2 ⟨u, rfl, hs2⟩; obtain ⟨gi, oi, ci, rfl, hi1, hi2, hce⟩ := hs2.ints (by simp); have c0 := hce _ _ hs2 0 a rfl; have c1 := hce _ _ hs2 1 a2 rfl; have c2 := hce _ _ hs2 2 a3 rfl; simp only [List.length_cons, List.length_nil, Nat.add_zero, Nat.zero_add, Nat.reduceAdd] at hi1 hi2 hs2 c0 c1 c2; have HCE := hid hce; have H2i := hid hs2; have H2 := hid (hs2.conv (M := engP eb bs B.eng :: blk k 31 [.pointer (some ⟨d, 0, none⟩), .pointer (some ⟨b, 0, none⟩)] :: bseB b d (.pointer (some ⟨eb, 0, none⟩)) B.used B.down B.torn :: dskB d B.dsk :: sl 3 1 (.slice (some ⟨gi, oi, none⟩) 3 ci) 3 (icells [a, a2, a3]) :: L) (by simp only [all]; ac_rfl)); have H2e := hid (H2.out.conv (M := blk k 31 [.pointer (some ⟨d, 0, none⟩), .pointer (some ⟨b, 0, none⟩)] :: bseB b d (.pointer (some ⟨eb, 0, none⟩)) B.used B.down B.torn :: engP eb bs B.eng :: dskB d B.dsk :: sl 3 1 (.slice (some ⟨gi, oi, none⟩) 3 ci) 3 (icells [a, a2, a3]) :: L) (by simp only [all]; ac_rfl)); clear hs2 hce))
   have q0 := And.intro (HCE.out _ _ H2i.out.drew 0 a rfl) (And.intro (HCE.out _ _ H2i.out.drew 1 a2 rfl) (HCE.out _ _ H2i.out.drew 2 a3 rfl))
   simp only [Nat.add_zero] at q0
   go_region_held_law (fun w' => w'.cell? ⟨gi, oi, none⟩ = some (.int .i64 a) ∧ w'.cell? ⟨gi, oi + 1, none⟩ = some (.int .i64 a2) ∧ w'.cell? ⟨gi, oi + 2, none⟩ = some (.int .i64 a3)) (first | (with_reducible assumption) | (with_reducible exact q0) | (with_reducible exact q1))
    (first
     | (go_at_call 60; with_reducible refine (HEN.out _ _ H2e.out.drew).mono ?_; rintro r w' ⟨rfl, rfl⟩)
     | (go_at_call 80; with_reducible refine (HOP.out _ _ H2.out.drew).mono ?_; rintro r w3 ⟨rfl, hs3⟩; have H3 := hid hs3; have h3i := (hs3.conv (M := sl 3 1 (.slice (some ⟨gi, oi, none⟩) 3 ci) 3 (icells [a, a2, a3]) :: engP eb bs e' :: blk k 31 [.pointer (some ⟨d, 0, none⟩), .pointer (some ⟨b, 0, none⟩)] :: bseB b d (.pointer (some ⟨eb, 0, none⟩)) B.used B.down B.torn :: dskB d B.dsk :: L) (by simp only [all]; ac_rfl)); have q1 := And.intro (HCE.out _ _ h3i 0 a rfl) (And.intro (HCE.out _ _ h3i 1 a2 rfl) (HCE.out _ _ h3i 2 a3 rfl)); simp only [Nat.add_zero] at q1; clear h3i; clear hs3))
   clear q0 q1
   go_wp2_with (first
    | (go_at_call 14; with_reducible refine (must_nil _).mono ?_; rintro r w' ⟨rfl, rfl⟩))
   all_goals
    go_ret
    rw [HC.out]
    refine ⟨?_, HSH.out _ _ _ _ H3.out⟩
    cases x <;> first
     | rfl
     | (rename_i h9; exact absurd h9 (by decide))
  ·have HC := hid (show cWrite B ws = ({ B with eng := e' }, .no er) by rw [hc, ansE, if_neg he])
   clear hc
   rw [errV_ne he] at HOP
   have HMU := hid (fun W M (h : S w0 W M) => must_no w0 W er M HE.out he h)
   rw [errV_ne he] at HMU
   go_enter Tryz.func48, Tryz.ntmps48
   go_upto_region 2 with (first
    | (go_at_call 11; with_reducible refine HNU.out.mono ?_; rintro r w2 ⟨u, rfl, hs2⟩; obtain ⟨gi, oi, ci, rfl, hi1, hi2, hce⟩ := hs2.ints (by simp); have c0 := hce _ _ hs2 0 a rfl; have c1 := hce _ _ hs2 1 a2 rfl; have c2 := hce _ _ hs2 2 a3 rfl; simp only [List.length_cons, List.length_nil, Nat.add_zero, Nat.zero_add, Nat.reduceAdd] at hi1 hi2 hs2 c0 c1 c2; have HCE := hid hce; have H2i := hid hs2; have H2 := hid (hs2.conv (M := engP eb bs B.eng :: blk k 31 [.pointer (some ⟨d, 0, none⟩), .pointer (some ⟨b, 0, none⟩)] :: bseB b d (.pointer (some ⟨eb, 0, none⟩)) B.used B.down B.torn :: dskB d B.dsk :: sl 3 1 (.slice (some ⟨gi, oi, none⟩) 3 ci) 3 (icells [a, a2, a3]) :: L) (by simp only [all]; ac_rfl)); have H2e := hid (H2.out.conv (M := blk k 31 [.pointer (some ⟨d, 0, none⟩), .pointer (some ⟨b, 0, none⟩)] :: bseB b d (.pointer (some ⟨eb, 0, none⟩)) B.used B.down B.torn :: engP eb bs B.eng :: dskB d B.dsk :: sl 3 1 (.slice (some ⟨gi, oi, none⟩) 3 ci) 3 (icells [a, a2, a3]) :: L) (by simp only [all]; ac_rfl)); clear hs2 hce))
   have q0 := And.intro (HCE.out _ _ H2i.out.drew 0 a rfl) (And.intro (HCE.out _ _ H2i.out.drew 1 a2 rfl) (HCE.out _ _ H2i.out.drew 2 a3 rfl))
   simp only [Nat.add_zero] at q0
   go_region_held_law (fun w' => w'.cell? ⟨gi, oi, none⟩ = some (.int .i64 a) ∧ w'.cell? ⟨gi, oi + 1, none⟩ = some (.int .i64 a2) ∧ w'.cell? ⟨gi, oi + 2, none⟩ = some (.int .i64 a3)) (first | (with_reducible assumption) | (with_reducible exact q0) | (with_reducible exact q1))
    (first
     | (go_at_call 60; with_reducible refine (HEN.out _ _ H2e.out.drew).mono ?_; rintro r w' ⟨rfl, rfl⟩)
     | (go_at_call 80; with_reducible refine (HOP.out _ _ H2.out.drew).mono ?_; rintro r w3 ⟨rfl, hs3⟩; have H3 := hid hs3; have h3i := (hs3.conv (M := sl 3 1 (.slice (some ⟨gi, oi, none⟩) 3 ci) 3 (icells [a, a2, a3]) :: engP eb bs e' :: blk k 31 [.pointer (some ⟨d, 0, none⟩), .pointer (some ⟨b, 0, none⟩)] :: bseB b d (.pointer (some ⟨eb, 0, none⟩)) B.used B.down B.torn :: dskB d B.dsk :: L) (by simp only [all]; ac_rfl)); have q1 := And.intro (HCE.out _ _ h3i 0 a rfl) (And.intro (HCE.out _ _ h3i 1 a2 rfl) (HCE.out _ _ h3i 2 a3 rfl)); simp only [Nat.add_zero] at q1; clear h3i; clear hs3))
   clear q0 q1
   go_wp2_with (first
    | (go_at_call 14; with_reducible refine (HMU.out _ _ H3.out).mono ?_; rintro r w5 ⟨rfl, hs5⟩; have H5 := hid hs5; clear hs5))
   rw [HC.out]
   exact ⟨rfl, rfl, HSH.out _ _ _ _ H5.out⟩
def cState (B : Bas) (ws : List (List UInt8)) : Bas × Ans := match numsP ws 1 with
 | some [a] => (B, ansE (B.eng.state a).2.2 (joinL [(B.eng.state a).1, (B.eng.state a).2.1]))
 | _ => (B, .no 3)
set_option linter.unusedVariables false in
set_option linter.unusedSimpArgs false in
set_option maxRecDepth 40000 in
set_option maxHeartbeats 8000000 in
theorem cState_any (w0 w : World) (k d : Nat) (B : Bas) (v : Value) (ws : List (List UInt8)) (L : List HProp) (N : Nat) (hE : ErrT w0) (hL : LibAll w0) (hf : Fits ws) (hB : BasOk N B) (_hN : N ≤ 80000000)
  (hs : S w0 w (deskP k d B :: sl 9 1 v ws.length (sw ws) :: L)) :
  Calls Tryz.prog 45 #[.pointer (some ⟨k, 0, none⟩), v] w fun r w' => (cState B ws).2.ends r ∧ S w0 w' (deskP k d (cState B ws).1 :: L) := by
 obtain ⟨b, eb, bs, h0⟩ := hs.desk_open
 have HEN := hid (fun W (M : List HProp) (h : S w0 W (blk k 31 [.pointer (some ⟨d, 0, none⟩), .pointer (some ⟨b, 0, none⟩)] :: bseB b d (.pointer (some ⟨eb, 0, none⟩)) B.used B.down B.torn :: M)) => dengine_any w0 W k d b eb _ _ _ M h)
 have HS0 := hid h0
 have h1 : S w0 w (sl 9 1 v ws.length (sw ws) :: blk k 31 [.pointer (some ⟨d, 0, none⟩), .pointer (some ⟨b, 0, none⟩)] :: bseB b d (.pointer (some ⟨eb, 0, none⟩)) B.used B.down B.torn :: engP eb bs B.eng :: dskB d B.dsk :: L) := h0.conv (by simp only [all]; ac_rfl)
 cases hn : numsP ws 1 with
 | none =>
  have hc : cState B ws = (B, .no 3) := by unfold cState; rw [hn]
  have HNU := hid (numbers_no w0 w v ws 1 1 rfl _ hE hL hf hn h1)
  have HC := hid hc
  clear hs h0 h1 hn hc hE hL hf hB
  go_enter Tryz.func45, Tryz.ntmps45
  go_wp2_with (first
   | (go_at_call 60; with_reducible refine (HEN.out _ _ HS0.out).mono ?_; rintro r w' ⟨rfl, rfl⟩)
   | (go_at_call 11; with_reducible refine HNU.out.mono ?_; rintro r w2 ⟨rfl, hs2⟩; have H2 := hid hs2; clear hs2))
  rw [HC.out]
  exact ⟨rfl, rfl, H2.out.desk_shut⟩
 | some ks =>
  obtain ⟨a, rfl⟩ := nums_one hn
  have HNU := hid (numbers_ok w0 w v ws 1 1 rfl [a] _ hE hL hf hn h1)
  have HE := hid hE
  have HLB := hid hL
  have hop : ∀ W M, S w0 W (engP eb bs B.eng :: M) → _ := fun W M h => state_E (w0 := w0) (w := W) (L := M) (b := eb) (bs := bs) (e := B.eng) a h
  have hc : cState B ws = (B, ansE (B.eng.state a).2.2 (joinL [(B.eng.state a).1, (B.eng.state a).2.1])) := by unfold cState; rw [hn]
  have hi := hB.d.st a
  generalize B.eng.state a = r at hop hc hi
  obtain ⟨x, y, er⟩ := r
  simp only at hop hc hi
  have HOP := hid hop
  have hj : ∀ W M, S w0 W M → Calls Tryz.prog 63 #[.slice (some ⟨W.heap.size, 0, none⟩) 2 2] (W.alloc (.cells #[.int .i64 x, .int .i64 y] 3)) (fun r w' => r = .returned (.string ⟨(joinL [x, y]).toArray⟩) ∧ S w0 w' M) := (fun W M (h : S w0 W M) => join_new (w0 := w0) (w := W) (L := M) [x, y] hL.1.1 (by simp) (by simp only [List.mem_cons, List.not_mem_nil, or_false]; rintro z (rfl | rfl) <;> first | exact hi.1 | exact hi.2) h)
  have HJ := hid hj
  have hsh : ∀ W e bs' X, S w0 W (engP eb bs' e :: blk k 31 [.pointer (some ⟨d, 0, none⟩), .pointer (some ⟨b, 0, none⟩)] :: bseB b d (.pointer (some ⟨eb, 0, none⟩)) B.used B.down B.torn :: dskB d B.dsk :: X :: L) → S w0 W (deskP k d { B with eng := e } :: L) := fun W e bs' X h => (S.desk_shut (B := { B with eng := e }) (b := b) (eb := eb) (bs := bs') (h.conv (M := blk k 31 [.pointer (some ⟨d, 0, none⟩), .pointer (some ⟨b, 0, none⟩)] :: bseB b d (.pointer (some ⟨eb, 0, none⟩)) B.used B.down B.torn :: engP eb bs' e :: dskB d B.dsk :: X :: L) (by simp only [all]; ac_rfl))).swap.tail
  have HSH := hid hsh
  clear hs h0 h1 hn hL hf hB hop hE hsh hi hj
  by_cases he : er = 0
  ·subst he
   have HC := hid hc
   clear hc
   rw [errV_0] at HOP
   go_enter Tryz.func45, Tryz.ntmps45
   go_wp2_with (first
    | (go_at_call 60; with_reducible refine (HEN.out _ _ HS0.out).mono ?_; rintro r w' ⟨rfl, rfl⟩)
    | (go_at_call 11; with_reducible refine HNU.out.mono ?_; rintro r w2 ⟨u, rfl, hs2⟩; obtain ⟨gi, oi, ci, rfl, hi1, hi2, hce⟩ := hs2.ints (by simp); have c0 := hce _ _ hs2 0 a rfl; simp only [List.length_cons, List.length_nil, Nat.add_zero, Nat.zero_add, Nat.reduceAdd] at hi1 hi2 hs2 c0; have HCE := hid hce; have H2i := hid hs2; have H2 := hid (hs2.conv (M := engP eb bs B.eng :: blk k 31 [.pointer (some ⟨d, 0, none⟩), .pointer (some ⟨b, 0, none⟩)] :: bseB b d (.pointer (some ⟨eb, 0, none⟩)) B.used B.down B.torn :: dskB d B.dsk :: sl 3 1 (.slice (some ⟨gi, oi, none⟩) 1 ci) 1 (icells [a]) :: L) (by simp only [all]; ac_rfl)); have H2e := hid (H2.out.conv (M := blk k 31 [.pointer (some ⟨d, 0, none⟩), .pointer (some ⟨b, 0, none⟩)] :: bseB b d (.pointer (some ⟨eb, 0, none⟩)) B.used B.down B.torn :: engP eb bs B.eng :: dskB d B.dsk :: sl 3 1 (.slice (some ⟨gi, oi, none⟩) 1 ci) 1 (icells [a]) :: L) (by simp only [all]; ac_rfl)); clear hs2 hce)
    | (go_at_call 60; with_reducible refine (HEN.out _ _ H2e.out).mono ?_; rintro r w' ⟨rfl, rfl⟩)
    | (go_at_call 77; with_reducible refine (HOP.out _ _ H2.out).mono ?_; rintro r w3 ⟨rfl, hs3⟩; have H3 := hid hs3; clear hs3)
    | (go_at_call 14; with_reducible refine (must_nil _).mono ?_; rintro r w' ⟨rfl, rfl⟩)
    | (go_at_call 63; with_reducible refine (HJ.out _ _ H3.out).mono ?_; rintro r w4 ⟨rfl, hs4⟩; have H4 := hid hs4; clear hs4))
   go_ret
   rw [HC.out]
   exact ⟨rfl, HSH.out _ _ _ _ H4.out⟩
  ·have HC := hid (show cState B ws = (B, .no er) by rw [hc, ansE, if_neg he])
   clear hc
   rw [errV_ne he] at HOP
   have HMU := hid (fun W M (h : S w0 W M) => must_no w0 W er M HE.out he h)
   rw [errV_ne he] at HMU
   go_enter Tryz.func45, Tryz.ntmps45
   go_wp2_with (first
    | (go_at_call 60; with_reducible refine (HEN.out _ _ HS0.out).mono ?_; rintro r w' ⟨rfl, rfl⟩)
    | (go_at_call 11; with_reducible refine HNU.out.mono ?_; rintro r w2 ⟨u, rfl, hs2⟩; obtain ⟨gi, oi, ci, rfl, hi1, hi2, hce⟩ := hs2.ints (by simp); have c0 := hce _ _ hs2 0 a rfl; simp only [List.length_cons, List.length_nil, Nat.add_zero, Nat.zero_add, Nat.reduceAdd] at hi1 hi2 hs2 c0; have HCE := hid hce; have H2i := hid hs2; have H2 := hid (hs2.conv (M := engP eb bs B.eng :: blk k 31 [.pointer (some ⟨d, 0, none⟩), .pointer (some ⟨b, 0, none⟩)] :: bseB b d (.pointer (some ⟨eb, 0, none⟩)) B.used B.down B.torn :: dskB d B.dsk :: sl 3 1 (.slice (some ⟨gi, oi, none⟩) 1 ci) 1 (icells [a]) :: L) (by simp only [all]; ac_rfl)); have H2e := hid (H2.out.conv (M := blk k 31 [.pointer (some ⟨d, 0, none⟩), .pointer (some ⟨b, 0, none⟩)] :: bseB b d (.pointer (some ⟨eb, 0, none⟩)) B.used B.down B.torn :: engP eb bs B.eng :: dskB d B.dsk :: sl 3 1 (.slice (some ⟨gi, oi, none⟩) 1 ci) 1 (icells [a]) :: L) (by simp only [all]; ac_rfl)); clear hs2 hce)
    | (go_at_call 60; with_reducible refine (HEN.out _ _ H2e.out).mono ?_; rintro r w' ⟨rfl, rfl⟩)
    | (go_at_call 77; with_reducible refine (HOP.out _ _ H2.out).mono ?_; rintro r w3 ⟨rfl, hs3⟩; have H3 := hid hs3; clear hs3)
    | (go_at_call 14; with_reducible refine (HMU.out _ _ H3.out).mono ?_; rintro r w5 ⟨rfl, hs5⟩; have H5 := hid hs5; clear hs5))
   rw [HC.out]
   exact ⟨rfl, rfl, HSH.out _ _ _ _ H5.out⟩
def cWaits (B : Bas) (ws : List (List UInt8)) : Bas × Ans := match numsP ws 1 with
 | some [a] => (B, .ok (num (B.eng.waits a)))
 | _ => (B, .no 3)
set_option linter.unusedVariables false in
set_option linter.unusedSimpArgs false in
set_option maxRecDepth 40000 in
set_option maxHeartbeats 8000000 in
theorem cWaits_any (w0 w : World) (k d : Nat) (B : Bas) (v : Value) (ws : List (List UInt8)) (L : List HProp) (N : Nat) (hE : ErrT w0) (hL : LibAll w0) (hf : Fits ws) (hB : BasOk N B) (_hN : N ≤ 80000000)
  (hs : S w0 w (deskP k d B :: sl 9 1 v ws.length (sw ws) :: L)) :
  Calls Tryz.prog 47 #[.pointer (some ⟨k, 0, none⟩), v] w fun r w' => (cWaits B ws).2.ends r ∧ S w0 w' (deskP k d (cWaits B ws).1 :: L) := by
 obtain ⟨b, eb, bs, h0⟩ := hs.desk_open
 have HEN := hid (fun W (M : List HProp) (h : S w0 W (blk k 31 [.pointer (some ⟨d, 0, none⟩), .pointer (some ⟨b, 0, none⟩)] :: bseB b d (.pointer (some ⟨eb, 0, none⟩)) B.used B.down B.torn :: M)) => dengine_any w0 W k d b eb _ _ _ M h)
 have HS0 := hid h0
 have h1 : S w0 w (sl 9 1 v ws.length (sw ws) :: blk k 31 [.pointer (some ⟨d, 0, none⟩), .pointer (some ⟨b, 0, none⟩)] :: bseB b d (.pointer (some ⟨eb, 0, none⟩)) B.used B.down B.torn :: engP eb bs B.eng :: dskB d B.dsk :: L) := h0.conv (by simp only [all]; ac_rfl)
 cases hn : numsP ws 1 with
 | none =>
  have hc : cWaits B ws = (B, .no 3) := by unfold cWaits; rw [hn]
  have HNU := hid (numbers_no w0 w v ws 1 1 rfl _ hE hL hf hn h1)
  have HC := hid hc
  clear hs h0 h1 hn hc hE hL hf hB
  go_enter Tryz.func47, Tryz.ntmps47
  go_wp2_with (first
   | (go_at_call 60; with_reducible refine (HEN.out _ _ HS0.out).mono ?_; rintro r w' ⟨rfl, rfl⟩)
   | (go_at_call 11; with_reducible refine HNU.out.mono ?_; rintro r w2 ⟨rfl, hs2⟩; have H2 := hid hs2; clear hs2))
  rw [HC.out]
  exact ⟨rfl, rfl, H2.out.desk_shut⟩
 | some ks =>
  obtain ⟨a, rfl⟩ := nums_one hn
  have HNU := hid (numbers_ok w0 w v ws 1 1 rfl [a] _ hE hL hf hn h1)
  have HE := hid hE
  have HLB := hid hL
  have hop : ∀ W M, S w0 W (engP eb bs B.eng :: M) → _ := fun W M h => waits_E (w0 := w0) (w := W) (L := M) (b := eb) (bs := bs) (e := B.eng) a h
  have hc : cWaits B ws = (B, .ok (num (B.eng.waits a))) := by unfold cWaits; rw [hn]
  have hi := hB.d.wt a
  generalize B.eng.waits a = x at hop hc hi
  have HOP := hid hop; have HI := hid (fun W M (h : S w0 W M) => itoa_any x hi w0 W M hL.1.1 h); have HC := hid hc
  have hsh : ∀ W e bs' X, S w0 W (engP eb bs' e :: blk k 31 [.pointer (some ⟨d, 0, none⟩), .pointer (some ⟨b, 0, none⟩)] :: bseB b d (.pointer (some ⟨eb, 0, none⟩)) B.used B.down B.torn :: dskB d B.dsk :: X :: L) → S w0 W (deskP k d { B with eng := e } :: L) := fun W e bs' X h => (S.desk_shut (B := { B with eng := e }) (b := b) (eb := eb) (bs := bs') (h.conv (M := blk k 31 [.pointer (some ⟨d, 0, none⟩), .pointer (some ⟨b, 0, none⟩)] :: bseB b d (.pointer (some ⟨eb, 0, none⟩)) B.used B.down B.torn :: engP eb bs' e :: dskB d B.dsk :: X :: L) (by simp only [all]; ac_rfl))).swap.tail
  have HSH := hid hsh
  clear hs h0 h1 hn hL hf hB hop hi hE hsh hc
  go_enter Tryz.func47, Tryz.ntmps47
  go_wp2_with (first
   | (go_at_call 60; with_reducible refine (HEN.out _ _ HS0.out).mono ?_; rintro r w' ⟨rfl, rfl⟩)
   | (go_at_call 11; with_reducible refine HNU.out.mono ?_; rintro r w2 ⟨u, rfl, hs2⟩; obtain ⟨gi, oi, ci, rfl, hi1, hi2, hce⟩ := hs2.ints (by simp); have c0 := hce _ _ hs2 0 a rfl; simp only [List.length_cons, List.length_nil, Nat.add_zero, Nat.zero_add, Nat.reduceAdd] at hi1 hi2 hs2 c0; have HCE := hid hce; have H2i := hid hs2; have H2 := hid (hs2.conv (M := engP eb bs B.eng :: blk k 31 [.pointer (some ⟨d, 0, none⟩), .pointer (some ⟨b, 0, none⟩)] :: bseB b d (.pointer (some ⟨eb, 0, none⟩)) B.used B.down B.torn :: dskB d B.dsk :: sl 3 1 (.slice (some ⟨gi, oi, none⟩) 1 ci) 1 (icells [a]) :: L) (by simp only [all]; ac_rfl)); have H2e := hid (H2.out.conv (M := blk k 31 [.pointer (some ⟨d, 0, none⟩), .pointer (some ⟨b, 0, none⟩)] :: bseB b d (.pointer (some ⟨eb, 0, none⟩)) B.used B.down B.torn :: engP eb bs B.eng :: dskB d B.dsk :: sl 3 1 (.slice (some ⟨gi, oi, none⟩) 1 ci) 1 (icells [a]) :: L) (by simp only [all]; ac_rfl)); clear hs2 hce)
   | (go_at_call 79; with_reducible refine (HOP.out _ _ H2.out).mono ?_; rintro r w3 ⟨rfl, rfl⟩)
   | (go_at_call 19; with_reducible refine (HI.out _ _ H2.out).mono ?_; rintro r w4 ⟨rfl, hs4⟩; have H4 := hid hs4; clear hs4))
  go_ret
  rw [HC.out]
  exact ⟨rfl, HSH.out _ _ _ _ H4.out⟩
def cSweep (B : Bas) (ws : List (List UInt8)) : Bas × Ans := match numsP ws 0 with
 | some _ => ({ B with eng := B.eng.sweep.1 }, .ok (num B.eng.sweep.2))
 | none => (B, .no 3)
set_option linter.unusedVariables false in
set_option linter.unusedSimpArgs false in
set_option maxRecDepth 40000 in
set_option maxHeartbeats 8000000 in
theorem cSweep_any (w0 w : World) (k d : Nat) (B : Bas) (v : Value) (ws : List (List UInt8)) (L : List HProp) (N : Nat) (hE : ErrT w0) (hL : LibAll w0) (hf : Fits ws) (hB : BasOk N B) (_hN : N ≤ 80000000)
  (hs : S w0 w (deskP k d B :: sl 9 1 v ws.length (sw ws) :: L)) :
  Calls Tryz.prog 46 #[.pointer (some ⟨k, 0, none⟩), v] w fun r w' => (cSweep B ws).2.ends r ∧ S w0 w' (deskP k d (cSweep B ws).1 :: L) := by
 obtain ⟨b, eb, bs, h0⟩ := hs.desk_open
 have HEN := hid (fun W (M : List HProp) (h : S w0 W (blk k 31 [.pointer (some ⟨d, 0, none⟩), .pointer (some ⟨b, 0, none⟩)] :: bseB b d (.pointer (some ⟨eb, 0, none⟩)) B.used B.down B.torn :: M)) => dengine_any w0 W k d b eb _ _ _ M h)
 have HS0 := hid h0
 have h1 : S w0 w (sl 9 1 v ws.length (sw ws) :: blk k 31 [.pointer (some ⟨d, 0, none⟩), .pointer (some ⟨b, 0, none⟩)] :: bseB b d (.pointer (some ⟨eb, 0, none⟩)) B.used B.down B.torn :: engP eb bs B.eng :: dskB d B.dsk :: L) := h0.conv (by simp only [all]; ac_rfl)
 cases hn : numsP ws 0 with
 | none =>
  have hc : cSweep B ws = (B, .no 3) := by unfold cSweep; rw [hn]
  have HNU := hid (numbers_no w0 w v ws 0 0 rfl _ hE hL hf hn h1)
  have HC := hid hc
  clear hs h0 h1 hn hc hE hL hf hB
  go_enter Tryz.func46, Tryz.ntmps46
  go_wp2_with (first
   | (go_at_call 60; with_reducible refine (HEN.out _ _ HS0.out).mono ?_; rintro r w' ⟨rfl, rfl⟩)
   | (go_at_call 11; with_reducible refine HNU.out.mono ?_; rintro r w2 ⟨rfl, hs2⟩; have H2 := hid hs2; clear hs2))
  rw [HC.out]
  exact ⟨rfl, rfl, H2.out.desk_shut⟩
 | some ks =>
  obtain rfl := nums_zero hn
  have HNU := hid (numbers_ok w0 w v ws 0 0 rfl [] _ hE hL hf hn h1)
  have HE := hid hE
  have HLB := hid hL
  have hop := fun W M h => sweep_eng w0 W eb bs B.eng M N [] hB.eng h
  have hc : cSweep B ws = ({ B with eng := B.eng.sweep.1 }, .ok (num B.eng.sweep.2)) := by unfold cSweep; rw [hn]
  have hi := hB.d.sw
  generalize B.eng.sweep = r at hop hc hi
  obtain ⟨e', x⟩ := r
  simp only at hop hc hi
  have HOP := hid hop; have HI := hid (fun W M (h : S w0 W M) => itoa_any x hi w0 W M hL.1.1 h); have HC := hid hc
  have hsh : ∀ W e bs' X, S w0 W (engP eb bs' e :: blk k 31 [.pointer (some ⟨d, 0, none⟩), .pointer (some ⟨b, 0, none⟩)] :: bseB b d (.pointer (some ⟨eb, 0, none⟩)) B.used B.down B.torn :: dskB d B.dsk :: X :: L) → S w0 W (deskP k d { B with eng := e } :: L) := fun W e bs' X h => (S.desk_shut (B := { B with eng := e }) (b := b) (eb := eb) (bs := bs') (h.conv (M := blk k 31 [.pointer (some ⟨d, 0, none⟩), .pointer (some ⟨b, 0, none⟩)] :: bseB b d (.pointer (some ⟨eb, 0, none⟩)) B.used B.down B.torn :: engP eb bs' e :: dskB d B.dsk :: X :: L) (by simp only [all]; ac_rfl))).swap.tail
  have HSH := hid hsh
  clear hs h0 h1 hn hL hf hB hop hi hE hsh hc
  go_enter Tryz.func46, Tryz.ntmps46
  go_wp2_with (first
   | (go_at_call 11; with_reducible refine HNU.out.mono ?_; rintro r w2 ⟨u, rfl, hs2⟩; have H2 := hid (hs2.conv (M := engP eb bs B.eng :: blk k 31 [.pointer (some ⟨d, 0, none⟩), .pointer (some ⟨b, 0, none⟩)] :: bseB b d (.pointer (some ⟨eb, 0, none⟩)) B.used B.down B.torn :: dskB d B.dsk :: sl 3 1 u 0 (icells []) :: L) (by simp only [all, List.length_nil]; ac_rfl)); have H2e := hid (H2.out.conv (M := blk k 31 [.pointer (some ⟨d, 0, none⟩), .pointer (some ⟨b, 0, none⟩)] :: bseB b d (.pointer (some ⟨eb, 0, none⟩)) B.used B.down B.torn :: engP eb bs B.eng :: dskB d B.dsk :: sl 3 1 u 0 (icells []) :: L) (by simp only [all]; ac_rfl)); clear hs2)
   | (go_at_call 60; with_reducible refine (HEN.out _ _ H2e.out).mono ?_; rintro r w' ⟨rfl, rfl⟩)
   | (go_at_call 78; with_reducible refine (HOP.out _ _ H2.out).mono ?_; rintro r w3 ⟨rfl, hs3⟩; have H3 := hid hs3; clear hs3)
   | (go_at_call 19; with_reducible refine (HI.out _ _ H3.out).mono ?_; rintro r w4 ⟨rfl, hs4⟩; have H4 := hid hs4; clear hs4))
  go_ret
  rw [HC.out]
  exact ⟨rfl, HSH.out _ _ _ _ H4.out⟩
def helpL : List UInt8 := [97, 98, 111, 114, 116, 32, 97, 108, 108, 32, 98, 101, 103, 105, 110, 32, 99, 111, 109, 109, 105, 116, 32, 99, 117, 116, 32, 104, 101, 108, 112, 32, 104, 105, 115, 116, 111, 114, 121, 32, 108, 105, 110, 101, 32, 110, 111, 119, 32, 111, 112, 101, 110, 32, 114, 101, 97, 100, 32, 115, 116, 97, 116, 101, 32, 115, 119, 101, 101, 112, 32, 119, 97, 105, 116, 115, 32, 119, 114, 105, 116, 101]
def cHelp (B : Bas) (ws : List (List UInt8)) : Bas × Ans := match numsP ws 0 with
 | some _ => (B, .ok helpL)
 | none => (B, .no 3)
set_option linter.unusedVariables false in
set_option linter.unusedSimpArgs false in
set_option maxRecDepth 40000 in
set_option maxHeartbeats 8000000 in
theorem cHelp_any (w0 w : World) (k d : Nat) (B : Bas) (v : Value) (ws : List (List UInt8)) (L : List HProp) (N : Nat) (hE : ErrT w0) (hL : LibAll w0) (hf : Fits ws) (hB : BasOk N B) (_hN : N ≤ 80000000)
  (hs : S w0 w (deskP k d B :: sl 9 1 v ws.length (sw ws) :: L)) :
  Calls Tryz.prog 40 #[.pointer (some ⟨k, 0, none⟩), v] w fun r w' => (cHelp B ws).2.ends r ∧ S w0 w' (deskP k d (cHelp B ws).1 :: L) := by
 obtain ⟨b, eb, bs, h0⟩ := hs.desk_open
 have HEN := hid (fun W (M : List HProp) (h : S w0 W (blk k 31 [.pointer (some ⟨d, 0, none⟩), .pointer (some ⟨b, 0, none⟩)] :: bseB b d (.pointer (some ⟨eb, 0, none⟩)) B.used B.down B.torn :: M)) => dengine_any w0 W k d b eb _ _ _ M h)
 have HS0 := hid h0
 have h1 : S w0 w (sl 9 1 v ws.length (sw ws) :: blk k 31 [.pointer (some ⟨d, 0, none⟩), .pointer (some ⟨b, 0, none⟩)] :: bseB b d (.pointer (some ⟨eb, 0, none⟩)) B.used B.down B.torn :: engP eb bs B.eng :: dskB d B.dsk :: L) := h0.conv (by simp only [all]; ac_rfl)
 cases hn : numsP ws 0 with
 | none =>
  have hc : cHelp B ws = (B, .no 3) := by unfold cHelp; rw [hn]
  have HNU := hid (numbers_no w0 w v ws 0 0 rfl _ hE hL hf hn h1)
  have HC := hid hc
  clear hs h0 h1 hn hc hE hL hf hB
  go_enter Tryz.func40, Tryz.ntmps40
  go_wp2_with (first
   | (go_at_call 60; with_reducible refine (HEN.out _ _ HS0.out).mono ?_; rintro r w' ⟨rfl, rfl⟩)
   | (go_at_call 11; with_reducible refine HNU.out.mono ?_; rintro r w2 ⟨rfl, hs2⟩; have H2 := hid hs2; clear hs2))
  rw [HC.out]
  exact ⟨rfl, rfl, H2.out.desk_shut⟩
 | some ks =>
  obtain rfl := nums_zero hn
  have HNU := hid (numbers_ok w0 w v ws 0 0 rfl [] _ hE hL hf hn h1)
  have HE := hid hE
  have HLB := hid hL
  have hc : cHelp B ws = (B, .ok helpL) := by unfold cHelp; rw [hn]
  have HC := hid hc
  have hsh : ∀ W e bs' X, S w0 W (engP eb bs' e :: blk k 31 [.pointer (some ⟨d, 0, none⟩), .pointer (some ⟨b, 0, none⟩)] :: bseB b d (.pointer (some ⟨eb, 0, none⟩)) B.used B.down B.torn :: dskB d B.dsk :: X :: L) → S w0 W (deskP k d { B with eng := e } :: L) := fun W e bs' X h => (S.desk_shut (B := { B with eng := e }) (b := b) (eb := eb) (bs := bs') (h.conv (M := blk k 31 [.pointer (some ⟨d, 0, none⟩), .pointer (some ⟨b, 0, none⟩)] :: bseB b d (.pointer (some ⟨eb, 0, none⟩)) B.used B.down B.torn :: engP eb bs' e :: dskB d B.dsk :: X :: L) (by simp only [all]; ac_rfl))).swap.tail
  have HSH := hid hsh
  clear hs h0 h1 hn hL hf hB hE hsh hc
  go_enter Tryz.func40, Tryz.ntmps40
  go_wp2_with (first
   | (go_at_call 11; with_reducible refine HNU.out.mono ?_; rintro r w2 ⟨u, rfl, hs2⟩; have H2 := hid (hs2.conv (M := engP eb bs B.eng :: blk k 31 [.pointer (some ⟨d, 0, none⟩), .pointer (some ⟨b, 0, none⟩)] :: bseB b d (.pointer (some ⟨eb, 0, none⟩)) B.used B.down B.torn :: dskB d B.dsk :: sl 3 1 u 0 (icells []) :: L) (by simp only [all, List.length_nil]; ac_rfl)); have H2e := hid (H2.out.conv (M := blk k 31 [.pointer (some ⟨d, 0, none⟩), .pointer (some ⟨b, 0, none⟩)] :: bseB b d (.pointer (some ⟨eb, 0, none⟩)) B.used B.down B.torn :: engP eb bs B.eng :: dskB d B.dsk :: sl 3 1 u 0 (icells []) :: L) (by simp only [all]; ac_rfl)); clear hs2))
  go_ret
  rw [HC.out]
  exact ⟨rfl, HSH.out _ _ _ _ H2.out⟩
end Go.Proofs.YtdlkjppppdminaaGreatDoor
/- The desk's commands. -/
namespace Go.Proofs.YtdlkjppppdminaaGreatDoor
open Go Go.RowKit Go.Sep
def cCut (B : Bas) (ws : List (List UInt8)) : Bas × Ans := match numsP ws 2 with
 | some [a, a2] => ({ B with dsk := B.dsk.setCut a, torn := a2 }, .ok [99, 117, 116])
 | _ => (B, .no 3)
set_option linter.unusedVariables false in
set_option linter.unusedSimpArgs false in
set_option maxRecDepth 40000 in
set_option maxHeartbeats 8000000 in
theorem cCut_any (w0 w : World) (k d : Nat) (B : Bas) (v : Value) (ws : List (List UInt8)) (L : List HProp) (N : Nat) (hE : ErrT w0) (hL : LibAll w0) (hf : Fits ws) (hB : BasOk N B) (_hN : N ≤ 80000000)
  (hs : S w0 w (deskP k d B :: sl 9 1 v ws.length (sw ws) :: L)) :
  Calls Tryz.prog 39 #[.pointer (some ⟨k, 0, none⟩), v] w fun r w' => (cCut B ws).2.ends r ∧ S w0 w' (deskP k d (cCut B ws).1 :: L) := by
 obtain ⟨b, eb, bs, h0⟩ := hs.desk_open
 have HEN := hid (fun W (M : List HProp) (h : S w0 W (blk k 31 [.pointer (some ⟨d, 0, none⟩), .pointer (some ⟨b, 0, none⟩)] :: bseB b d (.pointer (some ⟨eb, 0, none⟩)) B.used B.down B.torn :: M)) => dengine_any w0 W k d b eb _ _ _ M h)
 have HS0 := hid h0
 have h1 : S w0 w (sl 9 1 v ws.length (sw ws) :: blk k 31 [.pointer (some ⟨d, 0, none⟩), .pointer (some ⟨b, 0, none⟩)] :: bseB b d (.pointer (some ⟨eb, 0, none⟩)) B.used B.down B.torn :: engP eb bs B.eng :: dskB d B.dsk :: L) := h0.conv (by simp only [all]; ac_rfl)
 cases hn : numsP ws 2 with
 | none =>
  have hc : cCut B ws = (B, .no 3) := by unfold cCut; rw [hn]
  have HNU := hid (numbers_no w0 w v ws 2 2 rfl _ hE hL hf hn h1)
  have HC := hid hc
  clear hs h0 h1 hn hc hE hL hf hB
  go_enter Tryz.func39, Tryz.ntmps39
  go_wp2_with (first
   | (go_at_call 60; with_reducible refine (HEN.out _ _ HS0.out).mono ?_; rintro r w' ⟨rfl, rfl⟩)
   | (go_at_call 11; with_reducible refine HNU.out.mono ?_; rintro r w2 ⟨rfl, hs2⟩; have H2 := hid hs2; clear hs2))
  rw [HC.out]
  exact ⟨rfl, rfl, H2.out.desk_shut⟩
 | some ks =>
  obtain ⟨a, a2, rfl⟩ := nums_two hn
  have HNU := hid (numbers_ok w0 w v ws 2 2 rfl [a, a2] _ hE hL hf hn h1)
  have HE := hid hE
  have HLB := hid hL
  have hc : cCut B ws = ({ B with dsk := B.dsk.setCut a, torn := a2 }, .ok [99, 117, 116]) := by unfold cCut; rw [hn]
  have hop := fun W (M : List HProp) h => dcut_any w0 W d B.dsk a M h
  have hto := fun W (M : List HProp) h => btorn_any w0 W b d (.pointer (some ⟨eb, 0, none⟩)) B.used B.down B.torn a2 M h
  have hq : ∀ W (M : List HProp), S w0 W (blk k 31 [.pointer (some ⟨d, 0, none⟩), .pointer (some ⟨b, 0, none⟩)] :: M) → W.cell? ⟨k, 0, none⟩ = some (.pointer (some ⟨d, 0, none⟩)) ∧ W.cell? ⟨k, 1, none⟩ = some (.pointer (some ⟨b, 0, none⟩)) := fun W M h => ⟨h.blk_cell 0 rfl, h.blk_cell 1 rfl⟩
  have HC := hid hc; have HOP := hid hop; have HTO := hid hto; have HQ := hid hq
  clear hs h0 h1 hn hL hf hB hE hc hop hto hq
  go_enter Tryz.func39, Tryz.ntmps39
  go_upto_region 2 with (first
   | (go_at_call 11; with_reducible refine HNU.out.mono ?_; rintro r w2 ⟨u, rfl, hs2⟩; obtain ⟨gi, oi, ci, rfl, hi1, hi2, hce⟩ := hs2.ints (by simp); have c0 := hce _ _ hs2 0 a rfl; have c1 := hce _ _ hs2 1 a2 rfl; simp only [List.length_cons, List.length_nil, Nat.add_zero, Nat.zero_add, Nat.reduceAdd] at hi1 hi2 hs2 c0 c1; have HCE := hid hce; have H2i := hid hs2; have H2 := hid (hs2.conv (M := engP eb bs B.eng :: blk k 31 [.pointer (some ⟨d, 0, none⟩), .pointer (some ⟨b, 0, none⟩)] :: bseB b d (.pointer (some ⟨eb, 0, none⟩)) B.used B.down B.torn :: dskB d B.dsk :: sl 3 1 (.slice (some ⟨gi, oi, none⟩) 2 ci) 2 (icells [a, a2]) :: L) (by simp only [all]; ac_rfl)); have H2e := hid (H2.out.conv (M := blk k 31 [.pointer (some ⟨d, 0, none⟩), .pointer (some ⟨b, 0, none⟩)] :: bseB b d (.pointer (some ⟨eb, 0, none⟩)) B.used B.down B.torn :: engP eb bs B.eng :: dskB d B.dsk :: sl 3 1 (.slice (some ⟨gi, oi, none⟩) 2 ci) 2 (icells [a, a2]) :: L) (by simp only [all]; ac_rfl)); clear hs2 hce))
  have q0 := And.intro (HQ.out _ _ H2e.out.drew).1 (And.intro (HCE.out _ _ H2i.out.drew 0 a rfl) (HCE.out _ _ H2i.out.drew 1 a2 rfl))
  have H2d := hid (H2.out.drew.conv (M := dskB d B.dsk :: blk k 31 [.pointer (some ⟨d, 0, none⟩), .pointer (some ⟨b, 0, none⟩)] :: bseB b d (.pointer (some ⟨eb, 0, none⟩)) B.used B.down B.torn :: engP eb bs B.eng :: sl 3 1 (.slice (some ⟨gi, oi, none⟩) 2 ci) 2 (icells [a, a2]) :: L) (by simp only [all]; ac_rfl))
  simp only [Nat.add_zero] at q0
  go_region_held_law (fun w' => w'.cell? ⟨k, 0, none⟩ = some (.pointer (some ⟨d, 0, none⟩)) ∧ w'.cell? ⟨gi, oi, none⟩ = some (.int .i64 a) ∧ w'.cell? ⟨gi, oi + 1, none⟩ = some (.int .i64 a2)) (first | (with_reducible assumption) | (with_reducible exact q0) | (with_reducible exact q1))
   ((go_at_call 12; with_reducible refine (HOP.out _ _ H2d.out).mono ?_; rintro r w3 ⟨rfl, hs3⟩; have h3k := hs3.conv (M := blk k 31 [.pointer (some ⟨d, 0, none⟩), .pointer (some ⟨b, 0, none⟩)] :: bseB b d (.pointer (some ⟨eb, 0, none⟩)) B.used B.down B.torn :: dskB d (B.dsk.setCut a) :: engP eb bs B.eng :: sl 3 1 (.slice (some ⟨gi, oi, none⟩) 2 ci) 2 (icells [a, a2]) :: L) (by simp only [all]; ac_rfl); have h3i := hs3.conv (M := sl 3 1 (.slice (some ⟨gi, oi, none⟩) 2 ci) 2 (icells [a, a2]) :: blk k 31 [.pointer (some ⟨d, 0, none⟩), .pointer (some ⟨b, 0, none⟩)] :: bseB b d (.pointer (some ⟨eb, 0, none⟩)) B.used B.down B.torn :: dskB d (B.dsk.setCut a) :: engP eb bs B.eng :: L) (by simp only [all]; ac_rfl); have q1 := And.intro (HQ.out _ _ h3k).1 (And.intro (HCE.out _ _ h3i 0 a rfl) (HCE.out _ _ h3i 1 a2 rfl)); simp only [Nat.add_zero] at q1; have H3 := hid h3k; have H3i := hid h3i; clear hs3 h3k h3i))
  have q2 := And.intro (HQ.out _ _ H3.out.drew).2 (And.intro (HCE.out _ _ H3i.out.drew 0 a rfl) (HCE.out _ _ H3i.out.drew 1 a2 rfl))
  simp only [Nat.add_zero] at q2
  clear q0 q1
  go_upto_region 3 with fail
  go_region_held_law (fun w' => w'.cell? ⟨k, 1, none⟩ = some (.pointer (some ⟨b, 0, none⟩)) ∧ w'.cell? ⟨gi, oi, none⟩ = some (.int .i64 a) ∧ w'.cell? ⟨gi, oi + 1, none⟩ = some (.int .i64 a2)) (first | (with_reducible assumption) | (with_reducible exact q2) | (with_reducible exact q3))
   ((go_at_call 67; with_reducible refine (HTO.out _ _ H3.out.drew.swap).mono ?_; rintro r w4 ⟨rfl, hs4⟩; have h4i := hs4.conv (M := sl 3 1 (.slice (some ⟨gi, oi, none⟩) 2 ci) 2 (icells [a, a2]) :: blk k 31 [.pointer (some ⟨d, 0, none⟩), .pointer (some ⟨b, 0, none⟩)] :: bseB b d (.pointer (some ⟨eb, 0, none⟩)) B.used B.down a2 :: dskB d (B.dsk.setCut a) :: engP eb bs B.eng :: L) (by simp only [all]; ac_rfl); have q3 := And.intro (HQ.out _ _ hs4.swap).2 (And.intro (HCE.out _ _ h4i 0 a rfl) (HCE.out _ _ h4i 1 a2 rfl)); simp only [Nat.add_zero] at q3; have H4 := hid h4i; clear hs4 h4i))
  clear q2 q3
  go_wp2_with fail
  go_ret
  rw [HC.out]
  refine ⟨rfl, S.desk_shut (b := b) (eb := eb) (bs := bs) ?_⟩
  exact H4.out.tail.conv (by simp only [all]; ac_rfl)
def cOpen (B : Bas) (ws : List (List UInt8)) : Bas × Ans := match numsP ws 0 with
 | some _ => (B.again, .ok [111, 112, 101, 110])
 | none => (B, .no 3)
set_option linter.unusedVariables false in
set_option linter.unusedSimpArgs false in
set_option maxRecDepth 40000 in
set_option maxHeartbeats 8000000 in
theorem cOpen_any (w0 w : World) (k d : Nat) (B : Bas) (v : Value) (ws : List (List UInt8)) (L : List HProp) (N : Nat) (hE : ErrT w0) (hL : LibAll w0) (hf : Fits ws) (hB : BasOk N B) (_hN : N ≤ 80000000)
  (hs : S w0 w (deskP k d B :: sl 9 1 v ws.length (sw ws) :: L)) :
  Calls Tryz.prog 5 #[.pointer (some ⟨k, 0, none⟩), v] w fun r w' => (cOpen B ws).2.ends r ∧ S w0 w' (deskP k d (cOpen B ws).1 :: L) := by
 obtain ⟨b, eb, bs, h0⟩ := hs.desk_open
 have HEN := hid (fun W (M : List HProp) (h : S w0 W (blk k 31 [.pointer (some ⟨d, 0, none⟩), .pointer (some ⟨b, 0, none⟩)] :: bseB b d (.pointer (some ⟨eb, 0, none⟩)) B.used B.down B.torn :: M)) => dengine_any w0 W k d b eb _ _ _ M h)
 have HS0 := hid h0
 have h1 : S w0 w (sl 9 1 v ws.length (sw ws) :: blk k 31 [.pointer (some ⟨d, 0, none⟩), .pointer (some ⟨b, 0, none⟩)] :: bseB b d (.pointer (some ⟨eb, 0, none⟩)) B.used B.down B.torn :: engP eb bs B.eng :: dskB d B.dsk :: L) := h0.conv (by simp only [all]; ac_rfl)
 cases hn : numsP ws 0 with
 | none =>
  have hc : cOpen B ws = (B, .no 3) := by unfold cOpen; rw [hn]
  have HNU := hid (numbers_no w0 w v ws 0 0 rfl _ hE hL hf hn h1)
  have HC := hid hc
  clear hs h0 h1 hn hc hE hL hf hB
  go_enter Tryz.func5, Tryz.ntmps5
  go_wp2_with (first
   | (go_at_call 60; with_reducible refine (HEN.out _ _ HS0.out).mono ?_; rintro r w' ⟨rfl, rfl⟩)
   | (go_at_call 11; with_reducible refine HNU.out.mono ?_; rintro r w2 ⟨rfl, hs2⟩; have H2 := hid hs2; clear hs2))
  rw [HC.out]
  exact ⟨rfl, rfl, H2.out.desk_shut⟩
 | some ks =>
  obtain rfl := nums_zero hn
  have HNU := hid (numbers_ok w0 w v ws 0 0 rfl [] _ hE hL hf hn h1)
  have HE := hid hE
  have HLB := hid hL
  have hc : cOpen B ws = (B.again, .ok [111, 112, 101, 110]) := by unfold cOpen; rw [hn]
  have hop := fun W (M : List HProp) h => dcut_any w0 W d B.dsk (-1) M h
  have hpl := hB.pl
  have hto := fun W (M : List HProp) h => openg_any w0 W d (B.dsk.setCut (-1)) M hL hpl h
  have hq : ∀ W (M : List HProp), S w0 W (blk k 31 [.pointer (some ⟨d, 0, none⟩), .pointer (some ⟨b, 0, none⟩)] :: M) → W.cell? ⟨k, 0, none⟩ = some (.pointer (some ⟨d, 0, none⟩)) ∧ W.cell? ⟨k, 1, none⟩ = some (.pointer (some ⟨b, 0, none⟩)) ∧ W.frozen? ⟨k, 1, none⟩ = false := fun W M h => ⟨h.blk_cell 0 rfl, h.blk_cell 1 rfl, h.blk_free 1⟩
  have HC := hid hc; have HOP := hid hop; have HTO := hid hto; have HQ := hid hq
  clear hs h0 h1 hn hL hf hB hE hc hop hto hq hpl
  go_enter Tryz.func5, Tryz.ntmps5
  go_wp2_with (first
   | (go_at_call 11; with_reducible refine HNU.out.mono ?_; rintro r w2 ⟨u, rfl, hs2⟩; have H2 := hid (hs2.conv (M := engP eb bs B.eng :: blk k 31 [.pointer (some ⟨d, 0, none⟩), .pointer (some ⟨b, 0, none⟩)] :: bseB b d (.pointer (some ⟨eb, 0, none⟩)) B.used B.down B.torn :: dskB d B.dsk :: sl 3 1 u 0 (icells []) :: L) (by simp only [all, List.length_nil]; ac_rfl)); have H2e := hid (H2.out.conv (M := blk k 31 [.pointer (some ⟨d, 0, none⟩), .pointer (some ⟨b, 0, none⟩)] :: bseB b d (.pointer (some ⟨eb, 0, none⟩)) B.used B.down B.torn :: engP eb bs B.eng :: dskB d B.dsk :: sl 3 1 u 0 (icells []) :: L) (by simp only [all]; ac_rfl)); obtain ⟨k0, k1, k2⟩ := HQ.out _ _ H2e.out; clear hs2)
   | (go_at_call 12; with_reducible refine (HOP.out _ _ (H2.out.conv (M := dskB d B.dsk :: blk k 31 [.pointer (some ⟨d, 0, none⟩), .pointer (some ⟨b, 0, none⟩)] :: bseB b d (.pointer (some ⟨eb, 0, none⟩)) B.used B.down B.torn :: engP eb bs B.eng :: sl 3 1 u 0 (icells []) :: L) (by simp only [all]; ac_rfl))).mono ?_; rintro r w3 ⟨rfl, hs3⟩; obtain ⟨k0, k1, k2⟩ := HQ.out _ _ hs3.swap; have H3 := hid hs3; clear hs3)
   | (go_at_call 13; with_reducible refine (HTO.out _ _ H3.out).mono ?_; rintro r w4 ⟨b4, e4, rfl, _, hs4⟩; have h4 := hs4.conv (M := blk k 31 [.pointer (some ⟨d, 0, none⟩), .pointer (some ⟨b, 0, none⟩)] :: bseB b4 d (.pointer (some ⟨e4, 0, none⟩)) (B.dsk.setCut (-1)).opens.1 false (-1) :: engP e4 [] (B.dsk.setCut (-1)).engine :: dskB d (B.dsk.setCut (-1)) :: bseB b d (.pointer (some ⟨eb, 0, none⟩)) B.used B.down B.torn :: engP eb bs B.eng :: sl 3 1 u 0 (icells []) :: L) (by simp only [all]; ac_rfl); obtain ⟨k0, k1, k2⟩ := HQ.out _ _ h4; have H5 := hid (h4.blk_set 1 (by simp) (.pointer (some ⟨b4, 0, none⟩))); clear hs4 h4)
   | (go_at_call 14; with_reducible refine (must_nil _).mono ?_; rintro r w' ⟨rfl, rfl⟩))
  go_ret
  rw [HC.out]
  refine ⟨rfl, S.desk_shut (B := B.again) (b := b4) (eb := e4) (bs := []) ?_⟩
  exact (H5.out.conv (M := bseB b d (.pointer (some ⟨eb, 0, none⟩)) B.used B.down B.torn :: engP eb bs B.eng :: sl 3 1 u 0 (icells []) :: blk k 31 [.pointer (some ⟨d, 0, none⟩), .pointer (some ⟨b4, 0, none⟩)] :: bseB b4 d (.pointer (some ⟨e4, 0, none⟩)) (B.dsk.setCut (-1)).opens.1 false (-1) :: engP e4 [] (B.dsk.setCut (-1)).engine :: dskB d (B.dsk.setCut (-1)) :: L) (by simp only [all, List.set_cons_succ, List.set_cons_zero]; ac_rfl)).tail.tail.tail
end Go.Proofs.YtdlkjppppdminaaGreatDoor
/- The desk's command commit. -/
namespace Go.Proofs.YtdlkjppppdminaaGreatDoor
open Go Go.RowKit Go.Sep
noncomputable def cCommit (B : Bas) (ws : List (List UInt8)) : Bas × Ans := match numsP ws 1 with
 | some [a] => ((B.commit a).1, ansE (B.commit a).2 [99, 111, 109, 109, 105, 116])
 | _ => (B, .no 3)
theorem seal_ok {w0 : World} {B : Bas} {N : Nat} (hL : LibAll w0) (hB : BasOk N B) (a : Int) : SealOk w0 B.used (B.eng.writes a).1 := by
 have hu := hB.used
 have hw : (B.eng.writes a).1.length ≤ 10 ∧ Wide (B.eng.writes a).1 := by
  rcases (writes_cases B.eng a).2 with h0 | ⟨i, rfl, hi, h1⟩
  ·rw [h0]; exact ⟨by simp, fun p hp => by simp at hp⟩
  ·rw [h1]
   refine ⟨by rw [written_len]; exact own_few hB.eng hi, fun p hp => ?_⟩
   have := written_ok hB.eng hi p hp
   unfold keyOk valOk at this
   unfold I64; omega
 refine ⟨?_, fun W M v hs hr => sealed_any w0 W B.used v _ M (by omega) hw.2 (by omega) hL.1.1 hs hr⟩
 have h1 := join_len hw.2 (by omega) B.used (by omega)
 have h3 := dec_len (fnv_lt (textL B.used (B.eng.writes a).1))
 unfold sealL
 rw [List.length_append, List.length_cons]
 omega
theorem ends_no {w0 : World} {k d : Nat} {B' : Bas} {e : Int} {L : List HProp} {x : Bas × Ans} (hc : x = (B', .no e)) : ∀ w', S w0 w' (deskP k d B' :: L) → x.2.ends (.panicked [{ v := .iface 56 (.agg #[.int .i64 e]), recovered := false }]) ∧ S w0 w' (deskP k d x.1 :: L) := fun w' h => by rw [hc]; exact ⟨rfl, h⟩
set_option linter.unusedVariables false in
set_option linter.unusedSimpArgs false in
set_option maxRecDepth 40000 in
set_option maxHeartbeats 8000000 in
theorem cCommit_any (w0 w : World) (k d : Nat) (B : Bas) (v : Value) (ws : List (List UInt8)) (L : List HProp) (N : Nat) (hE : ErrT w0) (hL : LibAll w0) (hf : Fits ws) (hB : BasOk N B) (_hN : N ≤ 80000000)
  (hs : S w0 w (deskP k d B :: sl 9 1 v ws.length (sw ws) :: L)) :
  Calls Tryz.prog 38 #[.pointer (some ⟨k, 0, none⟩), v] w fun r w' => (cCommit B ws).2.ends r ∧ S w0 w' (deskP k d (cCommit B ws).1 :: L) := by
 obtain ⟨b, eb, bs, h0⟩ := hs.desk_open
 have HEN := hid (fun W (M : List HProp) (h : S w0 W (blk k 31 [.pointer (some ⟨d, 0, none⟩), .pointer (some ⟨b, 0, none⟩)] :: bseB b d (.pointer (some ⟨eb, 0, none⟩)) B.used B.down B.torn :: M)) => dengine_any w0 W k d b eb _ _ _ M h)
 have HS0 := hid h0
 have h1 : S w0 w (sl 9 1 v ws.length (sw ws) :: blk k 31 [.pointer (some ⟨d, 0, none⟩), .pointer (some ⟨b, 0, none⟩)] :: bseB b d (.pointer (some ⟨eb, 0, none⟩)) B.used B.down B.torn :: engP eb bs B.eng :: dskB d B.dsk :: L) := h0.conv (by simp only [all]; ac_rfl)
 have hq : ∀ W (X : HProp), S w0 W (X :: blk k 31 [.pointer (some ⟨d, 0, none⟩), .pointer (some ⟨b, 0, none⟩)] :: bseB b d (.pointer (some ⟨eb, 0, none⟩)) B.used B.down B.torn :: engP eb bs B.eng :: dskB d B.dsk :: L) → W.cell? ⟨k, 1, none⟩ = some (.pointer (some ⟨b, 0, none⟩)) := fun W X h => h.tail.blk_cell 1 rfl
 clear HS0
 have HQ := hid hq; have HS0 := hid h1
 cases hn : numsP ws 1 with
 | none =>
  have hc : cCommit B ws = (B, .no 3) := by unfold cCommit; rw [hn]
  have hnu := fun W h => numbers_no w0 W v ws 1 1 rfl (blk k 31 [.pointer (some ⟨d, 0, none⟩), .pointer (some ⟨b, 0, none⟩)] :: bseB b d (.pointer (some ⟨eb, 0, none⟩)) B.used B.down B.torn :: engP eb bs B.eng :: dskB d B.dsk :: L) hE hL hf hn h
  have HNU := hid hnu; have HF := hid (ends_no (w0 := w0) (k := k) (d := d) (L := L) hc)
  clear hs h0 h1 hn hc hE hL hf hB hnu hq HEN
  go_enter Tryz.func38, Tryz.ntmps38
  go_upto_region 1 with fail
  refine wp_region_held_drew (S := fun w' => w'.cell? ⟨k, 1, none⟩ = some (.pointer (some ⟨b, 0, none⟩))) (by kernel_rfl) (HQ.out _ _ HS0.out.drew) (fun hHeld => ?_)
  refine wpAnyH_take (i := 0) (v := ?_) rfl (by kernel_rfl) (by kernel_rfl) (by kernel_rfl) (fun _ _ _ h => h) (Or.inl ⟨by rfl, ?_⟩) hHeld ?_
  rotate_left
  ·(intro w hSw; (try dsimp only at hSw); go_simp) <;> with_reducible rfl
  try simp only [putU]
  refine wpAnyH_take (i := 1) (v := ?_) rfl (by kernel_rfl) (by kernel_rfl) (by kernel_rfl) (fun _ _ _ h => h) (Or.inl ⟨by rfl, ?_⟩) hHeld ?_
  rotate_left
  ·(intro w hSw; (try dsimp only at hSw); go_simp) <;> with_reducible rfl
  try simp only [putU]
  refine wpAnyH_take (i := 2) (v := ?_) rfl (by kernel_rfl) (by kernel_rfl) (by kernel_rfl) (fun _ _ _ h => h) (Or.inl ⟨by rfl, ?_⟩) hHeld ?_
  rotate_left
  ·(intro w hSw; (try dsimp only at hSw); go_simp) <;> with_reducible rfl
  try simp only [putU]
  refine wpAnyH_take (i := 3) (v := ?_) rfl (by kernel_rfl) (by kernel_rfl) (by kernel_rfl) (fun _ _ _ h => h) (Or.inl ⟨by rfl, ?_⟩) hHeld ?_
  rotate_left
  ·(intro w hSw; (try dsimp only at hSw); go_simp) <;> with_reducible rfl
  try simp only [putU]
  refine wpAnyH_take (i := 4) (v := ?_) rfl (by kernel_rfl) (by kernel_rfl) (by kernel_rfl) (fun _ _ _ h => h) (Or.inl ⟨by rfl, ?_⟩) hHeld ?_
  rotate_left
  ·(intro w hSw; (try dsimp only at hSw); go_simp) <;> with_reducible rfl
  try simp only [putU]
  have HS := hid HS0.out.drew
  clear hHeld
  refine anyH_world (fun w => Hid (S w0 w _)) HS (fun w1 HS => ?_)
  clear HS0
  refine wpAnyH_ready (rs := [5]) (by kernel_rfl) (by simp) ?_
  refine AllReadyH.cons rfl (fun K hK => ?_) AllReadyH.nil
  go_simp
  go_at_call 11
  with_reducible refine (HNU.out _ HS.out).mono ?_
  rintro r w9 ⟨rfl, hs9⟩
  exact ⟨rfl, HF.out _ hs9.desk_shut⟩
 | some ks =>
  obtain ⟨a, rfl⟩ := nums_one hn
  have hnu := fun W h => numbers_ok w0 W v ws 1 1 rfl [a] (blk k 31 [.pointer (some ⟨d, 0, none⟩), .pointer (some ⟨b, 0, none⟩)] :: bseB b d (.pointer (some ⟨eb, 0, none⟩)) B.used B.down B.torn :: engP eb bs B.eng :: dskB d B.dsk :: L) hE hL hf hn h
  have HE := hid hE
  have hse := seal_ok hL hB a
  have hop := fun W M h => bcommit_any w0 W b d eb bs B a M N hE hB.eng (by omega) hB.used (fun _ _ => hse) h
  have hc : cCommit B ws = ((B.commit a).1, ansE (B.commit a).2 [99, 111, 109, 109, 105, 116]) := by unfold cCommit; rw [hn]
  generalize B.commit a = r at hop hc
  obtain ⟨B', er⟩ := r
  simp only at hop hc
  have hsh : ∀ W X, S w0 W (bseB b d (.pointer (some ⟨eb, 0, none⟩)) B'.used B'.down B'.torn :: engP eb bs B'.eng :: dskB d B'.dsk :: blk k 31 [.pointer (some ⟨d, 0, none⟩), .pointer (some ⟨b, 0, none⟩)] :: X :: L) → S w0 W (deskP k d B' :: L) := fun W X h => (S.desk_shut (B := B') (b := b) (eb := eb) (bs := bs) (h.conv (M := blk k 31 [.pointer (some ⟨d, 0, none⟩), .pointer (some ⟨b, 0, none⟩)] :: bseB b d (.pointer (some ⟨eb, 0, none⟩)) B'.used B'.down B'.torn :: engP eb bs B'.eng :: dskB d B'.dsk :: X :: L) (by simp only [all]; ac_rfl))).swap.tail
  have hk : ∀ W (X : HProp), S w0 W (bseB b d (.pointer (some ⟨eb, 0, none⟩)) B'.used B'.down B'.torn :: engP eb bs B'.eng :: dskB d B'.dsk :: blk k 31 [.pointer (some ⟨d, 0, none⟩), .pointer (some ⟨b, 0, none⟩)] :: X :: L) → W.cell? ⟨k, 1, none⟩ = some (.pointer (some ⟨b, 0, none⟩)) := fun W X h => h.tail.tail.tail.blk_cell 1 rfl
  have HNU := hid hnu; have HOP := hid hop; have HSH := hid hsh; have HK := hid hk
  clear hs h0 h1 hn hL hf hB hop hE hsh hse hnu hq HEN hk
  by_cases he : er = 0
  ·subst he
   have HC := hid hc
   clear hc
   rw [errV_0] at HOP
   go_enter Tryz.func38, Tryz.ntmps38
   go_upto_region 1 with fail
   refine wp_region_held_drew (S := fun w' => w'.cell? ⟨k, 1, none⟩ = some (.pointer (some ⟨b, 0, none⟩))) (by kernel_rfl) (HQ.out _ _ HS0.out.drew) (fun hHeld => ?_)
   refine wpAnyH_take (i := 0) (v := ?_) rfl (by kernel_rfl) (by kernel_rfl) (by kernel_rfl) (fun _ _ _ h => h) (Or.inl ⟨by rfl, ?_⟩) hHeld ?_
   rotate_left
   ·(intro w hSw; (try dsimp only at hSw); go_simp) <;> with_reducible rfl
   try simp only [putU]
   refine wpAnyH_take (i := 1) (v := ?_) rfl (by kernel_rfl) (by kernel_rfl) (by kernel_rfl) (fun _ _ _ h => h) (Or.inl ⟨by rfl, ?_⟩) hHeld ?_
   rotate_left
   ·(intro w hSw; (try dsimp only at hSw); go_simp) <;> with_reducible rfl
   try simp only [putU]
   refine wpAnyH_take (i := 2) (v := ?_) rfl (by kernel_rfl) (by kernel_rfl) (by kernel_rfl) (fun _ _ _ h => h) (Or.inl ⟨by rfl, ?_⟩) hHeld ?_
   rotate_left
   ·(intro w hSw; (try dsimp only at hSw); go_simp) <;> with_reducible rfl
   try simp only [putU]
   refine wpAnyH_take (i := 3) (v := ?_) rfl (by kernel_rfl) (by kernel_rfl) (by kernel_rfl) (fun _ _ _ h => h) (Or.inl ⟨by rfl, ?_⟩) hHeld ?_
   rotate_left
   ·(intro w hSw; (try dsimp only at hSw); go_simp) <;> with_reducible rfl
   try simp only [putU]
   refine wpAnyH_take (i := 4) (v := ?_) rfl (by kernel_rfl) (by kernel_rfl) (by kernel_rfl) (fun _ _ _ h => h) (Or.inl ⟨by rfl, ?_⟩) hHeld ?_
   rotate_left
   ·(intro w hSw; (try dsimp only at hSw); go_simp) <;> with_reducible rfl
   try simp only [putU]
   have HS := hid HS0.out.drew
   clear hHeld
   refine anyH_world (fun w => Hid (S w0 w _)) HS (fun w1 HS => ?_)
   clear HS0
   refine wpAnyH_ready (rs := [5]) (by kernel_rfl) (by simp) ?_
   refine AllReadyH.cons rfl (fun K hK => ?_) AllReadyH.nil
   go_simp
   go_at_call 11
   with_reducible refine (HNU.out _ HS.out).mono ?_
   rintro r w9 ⟨u9, rfl, hs9⟩
   obtain ⟨gi, oi, ci, rfl, hi1, hi2, hce⟩ := hs9.ints (by simp)
   have c0 := hce _ _ hs9 0 a rfl
   simp only [List.length_cons, List.length_nil, Nat.add_zero, Nat.zero_add] at hi1 hi2 hs9 c0
   replace HS := hid hs9
   clear hs9 hce
   refine hK.out _ _ (HQ.out _ _ HS.out) (fun _ => ?_)
   clear hK K
   refine wpAnyH_take (i := 6) (v := ?_) rfl (by kernel_rfl) (by kernel_rfl) (by kernel_rfl) (fun _ _ _ h => h) (Or.inl ⟨by rfl, ?_⟩) (HQ.out _ _ HS.out) ?_
   rotate_left
   ·(intro w hSw; (try dsimp only at hSw); go_simp) <;> with_reducible rfl
   try simp only [putU]
   refine wpAnyH_ready (rs := [7]) (by kernel_rfl) (by simp) ?_
   refine AllReadyH.cons rfl (fun K hK => ?_) AllReadyH.nil
   go_simp
   refine hK.out _ _ (HQ.out _ _ HS.out) (fun _ => ?_)
   clear hK K
   refine wpAnyH_ready (rs := [8]) (by kernel_rfl) (by simp) ?_
   refine AllReadyH.cons rfl (fun K hK => ?_) AllReadyH.nil
   go_simp
   go_at_call 66
   with_reducible refine (HOP.out _ _ (HS.out.conv (M := bseB b d (.pointer (some ⟨eb, 0, none⟩)) B.used B.down B.torn :: engP eb bs B.eng :: dskB d B.dsk :: blk k 31 [.pointer (some ⟨d, 0, none⟩), .pointer (some ⟨b, 0, none⟩)] :: sl 3 1 (.slice (some ⟨gi, oi, none⟩) 1 ci) 1 (icells [a]) :: L) (by simp only [all]; ac_rfl))).mono ?_
   rintro r w10 ⟨rfl, hs10⟩
   replace HS := hid hs10
   clear hs10
   refine hK.out _ _ (HK.out _ _ HS.out) (fun _ => ?_)
   clear hK K
   refine wpAnyH_ready (rs := [9]) (by kernel_rfl) (by simp) ?_
   refine AllReadyH.cons rfl (fun K hK => ?_) AllReadyH.nil
   go_simp
   go_at_call 14
   with_reducible refine (must_nil _).mono ?_
   rintro r w' ⟨rfl, rfl⟩
   refine hK.out _ _ (HK.out _ _ HS.out) (fun _ => ?_)
   clear hK K
   refine wpAnyH_done (by kernel_rfl) ?_ _
   go_wp2_with fail
   go_ret
   rw [HC.out]
   exact ⟨rfl, HSH.out _ _ HS.out⟩
  ·have HF := hid (ends_no (w0 := w0) (k := k) (d := d) (L := L) (show cCommit B ws = (B', .no er) by rw [hc, ansE, if_neg he]))
   clear hc
   rw [errV_ne he] at HOP
   have HMU := hid (fun W M (h : S w0 W M) => must_no w0 W er M HE.out he h)
   rw [errV_ne he] at HMU
   go_enter Tryz.func38, Tryz.ntmps38
   go_upto_region 1 with fail
   refine wp_region_held_drew (S := fun w' => w'.cell? ⟨k, 1, none⟩ = some (.pointer (some ⟨b, 0, none⟩))) (by kernel_rfl) (HQ.out _ _ HS0.out.drew) (fun hHeld => ?_)
   refine wpAnyH_take (i := 0) (v := ?_) rfl (by kernel_rfl) (by kernel_rfl) (by kernel_rfl) (fun _ _ _ h => h) (Or.inl ⟨by rfl, ?_⟩) hHeld ?_
   rotate_left
   ·(intro w hSw; (try dsimp only at hSw); go_simp) <;> with_reducible rfl
   try simp only [putU]
   refine wpAnyH_take (i := 1) (v := ?_) rfl (by kernel_rfl) (by kernel_rfl) (by kernel_rfl) (fun _ _ _ h => h) (Or.inl ⟨by rfl, ?_⟩) hHeld ?_
   rotate_left
   ·(intro w hSw; (try dsimp only at hSw); go_simp) <;> with_reducible rfl
   try simp only [putU]
   refine wpAnyH_take (i := 2) (v := ?_) rfl (by kernel_rfl) (by kernel_rfl) (by kernel_rfl) (fun _ _ _ h => h) (Or.inl ⟨by rfl, ?_⟩) hHeld ?_
   rotate_left
   ·(intro w hSw; (try dsimp only at hSw); go_simp) <;> with_reducible rfl
   try simp only [putU]
   refine wpAnyH_take (i := 3) (v := ?_) rfl (by kernel_rfl) (by kernel_rfl) (by kernel_rfl) (fun _ _ _ h => h) (Or.inl ⟨by rfl, ?_⟩) hHeld ?_
   rotate_left
   ·(intro w hSw; (try dsimp only at hSw); go_simp) <;> with_reducible rfl
   try simp only [putU]
   refine wpAnyH_take (i := 4) (v := ?_) rfl (by kernel_rfl) (by kernel_rfl) (by kernel_rfl) (fun _ _ _ h => h) (Or.inl ⟨by rfl, ?_⟩) hHeld ?_
   rotate_left
   ·(intro w hSw; (try dsimp only at hSw); go_simp) <;> with_reducible rfl
   try simp only [putU]
   have HS := hid HS0.out.drew
   clear hHeld
   refine anyH_world (fun w => Hid (S w0 w _)) HS (fun w1 HS => ?_)
   clear HS0
   refine wpAnyH_ready (rs := [5]) (by kernel_rfl) (by simp) ?_
   refine AllReadyH.cons rfl (fun K hK => ?_) AllReadyH.nil
   go_simp
   go_at_call 11
   with_reducible refine (HNU.out _ HS.out).mono ?_
   rintro r w9 ⟨u9, rfl, hs9⟩
   obtain ⟨gi, oi, ci, rfl, hi1, hi2, hce⟩ := hs9.ints (by simp)
   have c0 := hce _ _ hs9 0 a rfl
   simp only [List.length_cons, List.length_nil, Nat.add_zero, Nat.zero_add] at hi1 hi2 hs9 c0
   replace HS := hid hs9
   clear hs9 hce
   refine hK.out _ _ (HQ.out _ _ HS.out) (fun _ => ?_)
   clear hK K
   refine wpAnyH_take (i := 6) (v := ?_) rfl (by kernel_rfl) (by kernel_rfl) (by kernel_rfl) (fun _ _ _ h => h) (Or.inl ⟨by rfl, ?_⟩) (HQ.out _ _ HS.out) ?_
   rotate_left
   ·(intro w hSw; (try dsimp only at hSw); go_simp) <;> with_reducible rfl
   try simp only [putU]
   refine wpAnyH_ready (rs := [7]) (by kernel_rfl) (by simp) ?_
   refine AllReadyH.cons rfl (fun K hK => ?_) AllReadyH.nil
   go_simp
   refine hK.out _ _ (HQ.out _ _ HS.out) (fun _ => ?_)
   clear hK K
   refine wpAnyH_ready (rs := [8]) (by kernel_rfl) (by simp) ?_
   refine AllReadyH.cons rfl (fun K hK => ?_) AllReadyH.nil
   go_simp
   go_at_call 66
   with_reducible refine (HOP.out _ _ (HS.out.conv (M := bseB b d (.pointer (some ⟨eb, 0, none⟩)) B.used B.down B.torn :: engP eb bs B.eng :: dskB d B.dsk :: blk k 31 [.pointer (some ⟨d, 0, none⟩), .pointer (some ⟨b, 0, none⟩)] :: sl 3 1 (.slice (some ⟨gi, oi, none⟩) 1 ci) 1 (icells [a]) :: L) (by simp only [all]; ac_rfl))).mono ?_
   rintro r w10 ⟨rfl, hs10⟩
   replace HS := hid hs10
   clear hs10
   refine hK.out _ _ (HK.out _ _ HS.out) (fun _ => ?_)
   clear hK K
   refine wpAnyH_ready (rs := [9]) (by kernel_rfl) (by simp) ?_
   refine AllReadyH.cons rfl (fun K hK => ?_) AllReadyH.nil
   go_simp
   go_at_call 14
   with_reducible refine (HMU.out _ _ HS.out).mono ?_
   rintro r w11 ⟨rfl, hs11⟩
   exact ⟨rfl, HF.out _ (HSH.out _ _ hs11)⟩
end Go.Proofs.YtdlkjppppdminaaGreatDoor
namespace Go.Sep
open Go Go.RowKit
variable {w w0 : World} {L : List HProp} {T bl : Nat} {E : List (Int × (Value × List Int))} {M : List (Int × List Int)}
def mlM (T bl : Nat) (E : List (Int × (Value × List Int))) (M : List (Int × List Int)) : HProp :=
 sep (pur (E.map (fun p => (p.1, p.2.2)) = M)) (sep (mp encI (fun _ => True) bl (E.map fun p => (p.1, p.2.1))) (all (E.map (lrow T))))
def mlX (T bl : Nat) (E : List (Int × (Value × List Int))) (k : Int) (M : List (Int × List Int)) : HProp :=
 sep (pur (E.map (fun p => (p.1, p.2.2)) = M)) (sep (mp encI (fun _ => True) bl (E.map fun p => (p.1, p.2.1))) (all ((mdel E k).map (lrow T))))
theorem S.ml_parts (h : S w0 w (mlM T bl E M :: L)) : E.map (fun p => (p.1, p.2.2)) = M ∧ S w0 w (mp encI (fun _ => True) bl (E.map fun p => (p.1, p.2.1)) :: all (E.map (lrow T)) :: L) := by
 obtain ⟨hp, h⟩ := h.sep_elim.pur_elim
 exact ⟨hp, h.conv (by simp only [all, sep_assoc])⟩
theorem S.ml_join (hp : E.map (fun p => (p.1, p.2.2)) = M) (h : S w0 w (mp encI (fun _ => True) bl (E.map fun p => (p.1, p.2.1)) :: all (E.map (lrow T)) :: L)) : S w0 w (mlM T bl E M :: L) :=
 .sep_intro (.pur_intro hp (h.conv (by simp only [all, sep_assoc])))
theorem S.mlX_parts {k : Int} (h : S w0 w (mlX T bl E k M :: L)) : E.map (fun p => (p.1, p.2.2)) = M ∧ S w0 w (mp encI (fun _ => True) bl (E.map fun p => (p.1, p.2.1)) :: all ((mdel E k).map (lrow T)) :: L) := by
 obtain ⟨hp, h⟩ := h.sep_elim.pur_elim
 exact ⟨hp, h.conv (by simp only [all, sep_assoc])⟩
theorem S.ml_new (h : S w0 w L) : S w0 (w.alloc (.map #[] 0)) (mlM T w.heap.size [] [] :: L) :=
 S.ml_join rfl ((h.made (enc := encI) (ok := fun _ => True)).conv (by simp only [List.map_nil, all, emp_sep]))
theorem S.ml_see (h : S w0 w (mlM T bl E M :: L)) : Go.Sep.MapAt encI (fun _ => True) w bl (E.map fun p => (p.1, p.2.1)) := h.ml_parts.2.mapAt
theorem S.ml_nodup (h : S w0 w (mlM T bl E M :: L)) : (E.map (·.1)).Nodup := by
 simpa [List.map_map, Function.comp_def] using h.ml_parts.2.nodup
theorem line_ofM (h : E.map (fun p => (p.1, p.2.2)) = M) (k : Int) : (lineOf E k).2 = (mget M k).getD [] := by
 rw [← h, mget_map (fun x : Value × List Int => x.2)]
 unfold lineOf
 cases mget E k <;> rfl
theorem S.ml_line (h : S w0 w (mlM T bl E M :: L)) (k : Int) : S w0 w (sl T 1 (lineOf E k).1 (lineOf E k).2.length (icells (lineOf E k).2) :: mlX T bl E k M :: L) := by
 have hk := h.ml_nodup
 obtain ⟨hp, h⟩ := h.ml_parts
 refine S.swap (.sep_intro (.pur_intro hp ?_))
 cases hg : mget E k with
 | none =>
  unfold lineOf
  rw [hg, mdel_none hg]
  exact (h.sl_nil (e := T) (size := 1)).conv (by simp only [all, Option.getD_none, List.length_nil]; unfold icells; simp only [List.map_nil]; ac_rfl)
 | some x =>
  unfold lineOf
  rw [hg]
  have hq := (perm_out hk hg).map (lrow T)
  refine h.conv ?_
  simp only [all]
  rw [all_perm hq]
  simp only [List.map_cons, all, lrow, Option.getD_some]
  ac_rfl
theorem S.mlX_put {P : Program} {kt mt e : TypeId} (K : KeyOk P kt encI (fun _ => True)) (ht : P.underlying mt = some (.map kt e)) {k : Int} {v : Value} {l : List Int} (h : S w0 w (sl T 1 v l.length (icells l) :: mlX T bl E k M :: L)) :
  ∃ w', (Instr.mapUpdate mt (.map (some bl)) (encI k) v).run P w = .ok () w' ∧ S w0 w' (mlM T bl (mput E k (v, l)) (mput M k l) :: L) := by
 obtain ⟨hp, h⟩ := h.swap.mlX_parts
 have hn : (E.map (·.1)).Nodup := by simpa [List.map_map, Function.comp_def] using h.nodup
 obtain ⟨w', hr, h'⟩ := h.put K ht k trivial v
 have hm : mput (E.map fun p => (p.1, p.2.1)) k v = (mput E k (v, l)).map fun p => (p.1, p.2.1) := mput_map (fun x : Value × List Int => x.1) E k (v, l)
 have hm2 : (mput E k (v, l)).map (fun p => (p.1, p.2.2)) = mput M k l := by rw [← hp]; exact (mput_map (fun x : Value × List Int => x.2) E k (v, l)).symm
 rw [hm] at h'
 refine ⟨w', hr, S.ml_join hm2 ?_⟩
 refine h'.conv ?_
 have hq := (perm_put hn k (v, l)).map (lrow T)
 simp only [all]
 rw [all_perm hq]
 simp only [List.map_cons, all, lrow]
 ac_rfl
theorem S.mlX_back {k : Int} (h : S w0 w (sl T 1 (lineOf E k).1 (lineOf E k).2.length (icells (lineOf E k).2) :: mlX T bl E k M :: L)) : S w0 w (mlM T bl E M :: L) := by
 obtain ⟨hp, h⟩ := h.swap.mlX_parts
 have hn : (E.map (·.1)).Nodup := by simpa [List.map_map, Function.comp_def] using h.nodup
 refine S.ml_join hp ?_
 cases hg : mget E k with
 | none =>
  rw [mdel_none hg] at h
  exact (h.conv (M := sl T 1 (lineOf E k).1 (lineOf E k).2.length (icells (lineOf E k).2) :: mp encI (fun _ => True) bl (E.map fun p => (p.1, p.2.1)) :: all (E.map (lrow T)) :: L) (by simp only [all]; ac_rfl)).tail
 | some x =>
  unfold lineOf at h
  rw [hg] at h
  have hq := (perm_out hn hg).map (lrow T)
  refine h.conv ?_
  simp only [all]
  rw [all_perm hq]
  simp only [List.map_cons, all, lrow, Option.getD_some]
  ac_rfl
def outP (tv te bx : Nat) (l : List (Int × Int)) : HProp := ex fun v => sep (blk bx tv [v]) (sl te 2 v l.length (pcells l))
theorem S.out_elim {tv te bx : Nat} {l : List (Int × Int)} (h : S w0 w (outP tv te bx l :: L)) : ∃ v, S w0 w (blk bx tv [v] :: sl te 2 v l.length (pcells l) :: L) := by
 obtain ⟨v, h⟩ := h.ex_elim
 exact ⟨v, h.sep_elim⟩
theorem S.out_intro {tv te bx : Nat} {v : Value} {l : List (Int × Int)} (h : S w0 w (blk bx tv [v] :: sl te 2 v l.length (pcells l) :: L)) : S w0 w (outP tv te bx l :: L) := .ex_intro v h.sep_intro
end Go.Sep
