/- The program's engine: one that is gone, who comes next, and what that one writes. -/
import Derived.Test.YtmfngjclccehaaaGreatDoorZ0
import Derived.Test.YtmfngjclccehaaaGreatDoorZ1
import Derived.Test.YtmfngjclccehaaaGreatDoorZ6
import Derived.Test.YtmfngjclccehaaaGreatDoorZ3
import Derived.Test.YtmfngjclccehaaaGreatDoorZ5
import Derived.Deep.DeepCutAuto
import Derived.Deep.CutBlock
import Derived.Deep.RegionHeldLaw
import Derived.LaidEqlPtr
/- The program's store: Many. -/
namespace Go.Proofs.YtmfngjclccehaaaGreatDoor
open Go Go.RowKit Go.Sep
set_option maxHeartbeats 1000000 in
set_option maxRecDepth 20000 in
theorem many_any (w0 w : World) (b o : Nat) (V : List Vers) (last : Int) (L : List HProp) (hs : S w0 w (storeP 107 b o V last :: L)) (hN : ∀ vs ∈ V, vs.length ≤ 2000000) :
  Calls Tryz.prog 69 #[.pointer (some ⟨b, o, none⟩)] w fun e w' => e = .returned (.int .i64 (manyV V)) ∧ w = w' := by
 obtain ⟨kv, hs⟩ := hs.ex_elim
 have hlen := hs.storeK_len
 have harr := hs.storeK_arr
 have hvals := hs.storeK_vals
 have hb : ∀ i, i ≤ 10 → manyV (V.take i) ≤ 20000000 := by
  intro i hi
  have h1 := manyV_le (V := V.take i) (fun vs hv => hN vs (List.mem_of_mem_take hv))
  have h2 : (V.take i).length ≤ 10 := by rw [List.length_take]; omega
  have h3 : 2000000 * (V.take i).length ≤ 2000000 * 10 := Nat.mul_le_mul_left _ h2
  omega
 have hadd : ∀ j u, kv[j]? = some u → w.cell? ((⟨b, o, none⟩ : Addr).add j) = some u := by
  intro j u hj
  have e1 : (⟨b, o, none⟩ : Addr).add j = ⟨b, o + j, none⟩ := by unfold Addr.add; split <;> simp_all
  rw [e1]; exact harr j u hj
 have hkl := hlen.1
 have HA := hid hadd; have HV := hid hvals; have HB := hid hb; have HL := hid hlen; have HK := hid hkl
 clear hadd hvals hb harr hN hs hlen hkl
 go_enter Tryz.func69, Tryz.ntmps69
 go_wp2_with (refine wpList_load_arr rfl 59 (.tmp 8) rfl ⟨b, o, none⟩ rfl 10 58 Tryz.underlying59 kv (by rw [HK.out]; exact Tryz.size59) HA.out ?_)
 go_loop [3, 10] (fun r c => ∃ i : Nat, i ≤ 10 ∧ c = .int .i64 i ∧ r = .int .i64 (manyV (V.take i))) (fun _ c => 10 - (intOf c).toNat)
 case atStart => exact ⟨0, Nat.zero_le _, rfl, by simp [manyV]⟩
 case round =>
  obtain ⟨i, hi, rfl, rfl⟩ := hrel
  have hbi := HB.out i hi
  by_cases hlt : i < 10
  ·obtain ⟨vs, hvs⟩ : ∃ vs, V[i]? = some vs := ⟨V[i]'(by have := HL.out.2; omega), by simp⟩
   obtain ⟨a, cp, hkv, h1, h2⟩ := HV.out i vs hvs
   have hbs := HB.out (i + 1) (by omega)
   have hm := manyV_take hvs
   have HM := hid hm; clear hm
   have hvl : manyV (V.take i) + vs.length ≤ 20000000 := by rw [← HM.out]; exact hbs
   clear hbs hvs
   have hix := run_index_arr Tryz.underlying59 Tryz.underlying58 rfl Tryz.size58 hlt hkv
   clear hkv
   go_wp2_with fail
   go_round
   case rel => exact ⟨i + 1, by omega, by go_num, by rw [HM.out]; go_num⟩
   case measure => simp [intOf]; omega
  ·have hil : i = 10 := by omega
   subst hil
   go_wp2
   go_ret
   exact ⟨retI (by rw [List.take_of_length_le (by have := HL.out.2; omega)]), rfl⟩
end Go.Proofs.YtmfngjclccehaaaGreatDoor
/- The answers of the program's store and the reference's, side by side. -/
namespace Go.Proofs.YtmfngjclccehaaaGreatDoor
open Go Go.RowKit Go.Sep
theorem Same.row_le {V : List Vers} {last : Int} {K : List Kep} (h : Same V last K) : ∀ vs ∈ V, vs.length ≤ K.length := by
 intro vs hv
 obtain ⟨j, hj⟩ := List.getElem?_of_mem hv
 have hl := (List.getElem?_eq_some_iff.1 hj).1
 rw [h.len] at hl
 rw [h.key j hl] at hj
 rw [← Option.some.inj hj]
 unfold proj
 rw [List.length_map]
 exact List.length_filter_le _ _
theorem Same.size {V : List Vers} {last : Int} {K : List Kep} (h : Same V last K) (at_ : Int) : (((V.map (sweptN at_)).sum : Nat) : Int) = (K.length : Int) - (rswept K at_).length := by
 have := h.swept_sum at_; omega
def instErr (last at_ : Int) (l : Vers) : Err := if last < at_ ∧ at_ ≤ 1099511627776 then (match badAt 0 l with | none => .nil | some (x, p) => .at_ x p) else .no 10
def instOk (last at_ : Int) (l : Vers) : Bool := decide (last < at_ ∧ at_ ≤ 1099511627776) && (badAt 0 l).isNone
theorem install2 (w0 w : World) (b o : Nat) (V : List Vers) (last at_ : Int) (v : Value) (l : Vers) (L : List HProp) (N : Nat)
  (hs : S w0 w (storeP 107 b o V last :: L)) (hr : RdK w0 L v l.length (pcells l)) (hN : ∀ vs ∈ V, vs.length ≤ N) (hb : N + l.length ≤ 1000000) :
  Calls Tryz.prog 13 #[.pointer (some ⟨b, o, none⟩), .int .i64 at_, v] w fun e w' => ∃ u, e = .returned u ∧
   S w0 w' (errP 25 113 112 u (instErr last at_ l) :: storeP 107 b o (if instOk last at_ l then putAll at_ V l else V) (if instOk last at_ l then at_ else last) :: L) := by
 refine (install_any w0 w b o V last at_ v l L N hs hr hN hb).mono fun e w' h => ?_
 unfold InstPost at h
 unfold instErr instOk
 by_cases hc : last < at_ ∧ at_ ≤ 1099511627776
 ·rw [if_pos hc] at h
  cases hba : badAt 0 l with
  | none =>
   rw [hba] at h
   obtain ⟨rfl, h⟩ := h
   simp only [hc, and_self, decide_true, Option.isNone_none, Bool.and_self, ↓reduceIte]
   exact ⟨_, rfl, S.pur_intro rfl h⟩
  | some x =>
   obtain ⟨x, p⟩ := x
   rw [hba] at h
   obtain ⟨u, rfl, h⟩ := h
   simp only [hc, and_self, decide_true, Option.isNone_some, Bool.and_false, Bool.false_eq_true, ↓reduceIte]
   exact ⟨_, rfl, h⟩
 ·rw [if_neg hc] at h
  obtain ⟨rfl, h⟩ := h
  simp only [hc, decide_false, Bool.false_and, Bool.false_eq_true, ↓reduceIte]
  exact ⟨_, rfl, S.pur_intro rfl h⟩
theorem rinstall2 (w0 w : World) (b : Nat) (K : List Kep) (last at_ : Int) (v : Value) (l : Vers) (L : List HProp) (hs : S w0 w (refP 47 109 b K last :: L)) (hr : RdK w0 L v l.length (pcells l)) (hb : K.length ≤ 900000) :
  Calls Tryz.prog 12 #[.pointer (some ⟨b, 0, none⟩), .int .i64 at_, v] w fun e w' => e = .returned (.agg #[.int .i64 (Err.errno (instErr last at_ l)), .int .i64 (Err.place (instErr last at_ l))]) ∧
   S w0 w' (refP 47 109 b (if instOk last at_ l then K ++ rrows at_ l 10 else K) (if instOk last at_ l then at_ else last) :: L) := by
 refine (rinstall_any w0 w b K last at_ v l L hs hr hb).mono fun e w' h => ?_
 unfold RInstPost at h
 unfold instErr instOk
 by_cases hc : last < at_ ∧ at_ ≤ 1099511627776
 ·rw [if_pos hc] at h
  cases hba : badAt 0 l with
  | none =>
   rw [hba] at h
   simp only [hc, and_self, decide_true, Option.isNone_none, Bool.and_self, ↓reduceIte]
   exact h
  | some x =>
   obtain ⟨x, p⟩ := x
   rw [hba] at h
   simp only [hc, and_self, decide_true, Option.isNone_some, Bool.and_false, Bool.false_eq_true, ↓reduceIte]
   exact h
 ·rw [if_neg hc] at h
  simp only [hc, decide_false, Bool.false_and, Bool.false_eq_true, ↓reduceIte]
  exact h
theorem instErr_is (last at_ : Int) (l : Vers) : isE (instErr last at_ l) (Err.errno (instErr last at_ l)) (Err.place (instErr last at_ l)) = true := by
 unfold isE; simp
theorem Same.inst {V : List Vers} {last : Int} {K : List Kep} (h : Same V last K) (at_ : Int) (l : Vers) : Same (if instOk last at_ l then putAll at_ V l else V) (if instOk last at_ l then at_ else last) (if instOk last at_ l then K ++ rrows at_ l 10 else K) ∧ (if instOk last at_ l then K ++ rrows at_ l 10 else K).length ≤ K.length + 10 := by
 by_cases hk : instOk last at_ l = true
 ·rw [if_pos hk, if_pos hk, if_pos hk]
  unfold instOk at hk
  rw [Bool.and_eq_true, decide_eq_true_eq, Option.isNone_iff_eq_none] at hk
  refine ⟨h.put l (fun p hp => (badAt_none hk.2 p hp).1) hk.1.1, ?_⟩
  rw [List.length_append]
  have := rrows_le at_ l 10; omega
 ·rw [if_neg hk, if_neg hk, if_neg hk]
  exact ⟨h, by omega⟩
def errBV (e : Int) : Value := if e = 0 then .nilIface else .iface 25 (.int .i64 e)
def errB (er : Int) : Err := if er = 0 then .nil else .no er
theorem errB_S {w0 w : World} {L : List HProp} (er : Int) (h : S w0 w L) : S w0 w (errP 25 113 112 (errBV er) (errB er) :: L) := by
 unfold errB errBV
 by_cases e : er = 0
 ·rw [if_pos e, if_pos e]; exact S.pur_intro rfl h
 ·rw [if_neg e, if_neg e]; exact S.pur_intro rfl h
theorem errB_is (er : Int) : isE (errB er) er (-1) = true := by
 unfold isE errB
 by_cases e : er = 0
 ·rw [if_pos e, e]; rfl
 ·rw [if_neg e]; simp [Err.errno, Err.place]
theorem bare2 (er : Int) (w0 w : World) (L : List HProp) (hE : ErrT w0) (hs : S w0 w L) :
  Calls Tryz.prog 17 #[errBV er, .int .i64 er] w fun ev w' => ev = .returned (.bool true) ∧ S w0 w' L := by
 have h := bare_any (errB er) (errBV er) er w0 w L hE (errB_S er hs)
 rw [errB_is] at h
 exact h.mono fun e w' h => ⟨h.1, h.2.tail⟩
def readOut (K : List Kep) (k at_ : Int) : Int × Int × Int := if 0 ≤ k ∧ k ≤ 9 then (match rread K k at_ with | some p => (p.1, p.2, 0) | none => (0, 0, 8)) else (0, 0, 2)
theorem rread2 (w0 w : World) (b : Nat) (K : List Kep) (last k at_ : Int) (L : List HProp) (hs : S w0 w (refP 47 109 b K last :: L)) :
  Calls Tryz.prog 50 #[.pointer (some ⟨b, 0, none⟩), .int .i64 k, .int .i64 at_] w fun e w' => e = .returned (.tuple #[.agg #[.int .i64 (readOut K k at_).1, .int .i64 (readOut K k at_).2.1], .int .i64 (readOut K k at_).2.2]) ∧ S w0 w' (refP 47 109 b K last :: L) := by
 refine (rread_any w0 w b K last k at_ L hs).mono fun e w' h => ⟨?_, h.2⟩
 rw [h.1]
 unfold readOut rreadAns
 by_cases hk : 0 ≤ k ∧ k ≤ 9
 ·rw [if_pos hk, if_pos hk]
  cases rread K k at_ with
  | none => rfl
  | some p => rfl
 ·rw [if_neg hk, if_neg hk]
def newOut (K : List Kep) (k at_ : Int) : List Int := if 0 ≤ k ∧ k ≤ 9 then rnewer K k at_ else []
def newErr (k : Int) : Int := if 0 ≤ k ∧ k ≤ 9 then 0 else 2
theorem rnewer2 (w0 w : World) (b : Nat) (V : List Vers) (K : List Kep) (last k at_ : Int) (L : List HProp) (hst : Same V last K) (hs : S w0 w (refP 47 109 b K last :: L)) (hb : K.length ≤ 1000000) :
  Calls Tryz.prog 51 #[.pointer (some ⟨b, 0, none⟩), .int .i64 k, .int .i64 at_] w fun e w' => ∃ v, e = .returned (.tuple #[v, .int .i64 (newErr k)]) ∧ S w0 w' (sl 3 1 v (newOut K k at_).length (icells (newOut K k at_)) :: refP 47 109 b K last :: L) := by
 refine (rnewer_any w0 w b K last k at_ L hs hb).mono fun e w' h => ?_
 unfold RNewPost at h
 unfold newOut newErr
 by_cases hk : 0 ≤ k ∧ k ≤ 9
 ·rw [if_pos hk] at h
  rw [if_pos hk, if_pos hk]
  have hso : sortI (rnewer K k at_) = rnewer K k at_ := by
   obtain ⟨n, rfl⟩ : ∃ n : Nat, k = n := ⟨k.toNat, by omega⟩
   rw [rnewer_eq]
   unfold sortI
   exact List.mergeSort_of_pairwise ((newerL_sorted (hst.inc n (by omega)) at_).imp fun h => by simpa using h)
  rw [hso] at h
  exact h
 ·rw [if_neg hk] at h
  rw [if_neg hk, if_neg hk]
  obtain ⟨rfl, h⟩ := h
  exact ⟨_, rfl, h.sl_nil⟩
def allOut (K : List Kep) (at_ : Int) : List (Int × Int) := allL (fun k => rread K k at_) 10
theorem rall2 (w0 w : World) (b : Nat) (kv : Value) (K : List Kep) (last at_ : Int) (L : List HProp) (hs : S w0 w (refK 47 109 b kv K last :: L)) :
  Calls Tryz.prog 35 #[.pointer (some ⟨b, 0, none⟩), .int .i64 at_] w fun e w' => ∃ v, e = .returned v ∧ S w0 w' (sl 101 2 v (allOut K at_).length (pcells (allOut K at_)) :: refK 47 109 b kv K last :: L) :=
 rallK_any w0 w b kv K last at_ L hs
end Go.Proofs.YtmfngjclccehaaaGreatDoor
/- The program's engine: of, State, Txs, Last, Many, Waits. -/
namespace Go.Proofs.YtmfngjclccehaaaGreatDoor
open Go Go.RowKit Go.Sep
theorem errV_0 : errV 0 = .nilIface := rfl
theorem errV_ne {x : Int} (h : x ≠ 0) : errV x = .iface 25 (.int .i64 x) := if_neg h
theorem of_miss (w0 w : World) (b : Nat) (bs : List Nat) (k : EngV) (e : Eng) (n : Int) (op : Bool) (L : List HProp) (hs : S w0 w (engO b bs k e :: L)) (hn : n < 1 ∨ (e.txs.length : Int) < n) :
  Calls Tryz.prog 55 #[.pointer (some ⟨b, 0, none⟩), .int .i64 n, .bool op] w fun r w' => r = .returned (.tuple #[.pointer none, .iface 25 (.int .i64 7)]) ∧ w = w' := by
 have hc := hs.eng_c.2
 have c14 := hc.txs
 obtain ⟨a, cap, hv, hle, hcap, _⟩ := hc.row
 rw [hv] at c14
 unfold maxLen at hcap
 clear hs hc hv
 by_cases h1 : n < 1
 ·clear hn
  go_enter Tryz.func55, Tryz.ntmps55
  go_wp2
  go_ret2
  exact ⟨rfl, rfl⟩
 ·have h2 : (e.txs.length : Int) < n := by omega
  clear hn
  go_enter Tryz.func55, Tryz.ntmps55
  go_wp2
  go_ret2
  exact ⟨rfl, rfl⟩
theorem of_shut (w0 w : World) (b : Nat) (bs : List Nat) (k : EngV) (e : Eng) (i : Nat) (L : List HProp) (hs : S w0 w (engO b bs k e :: L)) (hi : i < e.txs.length) (hst : (e.tx i).state ≠ 0) :
  Calls Tryz.prog 55 #[.pointer (some ⟨b, 0, none⟩), .int .i64 ((i : Int) + 1), .bool true] w fun r w' => r = .returned (.tuple #[.pointer none, .iface 25 (.int .i64 6)]) ∧ w = w' := by
 have hc := hs.eng_c.2
 have c14 := hc.txs
 obtain ⟨a, cap, hv, hle, hcap, hrow⟩ := hc.row
 obtain ⟨g, o, rfl, ci⟩ := hrow i hi
 rw [hv] at c14
 unfold maxLen at hcap
 have c1 := (hs.eng_txc hi).2.state
 have hb : ((e.tx i).state != 0) = true := by simpa using hst
 unfold ptr at ci
 clear hs hc hv hrow hst
 go_enter Tryz.func55, Tryz.ntmps55
 go_wp2
 go_ret2
 exact ⟨rfl, rfl⟩
theorem of_ok (w0 w : World) (b : Nat) (bs : List Nat) (k : EngV) (e : Eng) (i : Nat) (op : Bool) (L : List HProp) (hs : S w0 w (engO b bs k e :: L)) (hi : i < e.txs.length) (hst : op = true → (e.tx i).state = 0) :
  Calls Tryz.prog 55 #[.pointer (some ⟨b, 0, none⟩), .int .i64 ((i : Int) + 1), .bool op] w fun r w' => r = .returned (.tuple #[ptr bs i, .nilIface]) ∧ w = w' := by
 have hc := hs.eng_c.2
 have c14 := hc.txs
 obtain ⟨a, cap, hv, hle, hcap, hrow⟩ := hc.row
 obtain ⟨g, o, rfl, ci⟩ := hrow i hi
 rw [hv] at c14
 unfold maxLen at hcap
 have c1 := (hs.eng_txc hi).2.state
 unfold ptr at ci ⊢
 clear hs hc hv hrow
 cases op with
 | true =>
  rw [hst rfl] at c1
  clear hst
  go_enter Tryz.func55, Tryz.ntmps55
  go_wp2
  go_ret2
  exact ⟨rfl, rfl⟩
 | false =>
  clear hst
  go_enter Tryz.func55, Tryz.ntmps55
  go_wp2
  go_ret2
  exact ⟨rfl, rfl⟩
theorem Eng.err_cases (e : Eng) (n : Int) (op : Bool) : (e.err n op = 7 ∧ (n < 1 ∨ (e.txs.length : Int) < n)) ∨ ∃ i : Nat, n = (i : Int) + 1 ∧ i < e.txs.length ∧ ((e.err n op = 6 ∧ op = true ∧ (e.tx i).state ≠ 0) ∨ (e.err n op = 0 ∧ (op = true → (e.tx i).state = 0))) := by
 by_cases h : n < 1 ∨ (e.txs.length : Int) < n
 ·exact .inl ⟨if_pos h, h⟩
 ·right
  obtain ⟨i, rfl⟩ : ∃ i : Nat, n = (i : Int) + 1 := ⟨(n - 1).toNat, by omega⟩
  have hi : ((i : Int) + 1).toNat - 1 = i := by omega
  refine ⟨i, rfl, by omega, ?_⟩
  unfold Eng.err
  rw [if_neg h, hi]
  by_cases h2 : op = true ∧ (e.tx i).state ≠ 0
  ·rw [if_pos h2]; exact .inl ⟨rfl, h2⟩
  ·rw [if_neg h2]; exact .inr ⟨rfl, fun ho => Decidable.byContradiction fun hx => h2 ⟨ho, hx⟩⟩
theorem state_any (w0 w : World) (b : Nat) (bs : List Nat) (k : EngV) (e : Eng) (n : Int) (L : List HProp) (hs : S w0 w (engO b bs k e :: L)) :
  Calls Tryz.prog 39 #[.pointer (some ⟨b, 0, none⟩), .int .i64 n] w fun r w' => r = .returned (.tuple #[.int .i64 (e.state n).1, .int .i64 (e.state n).2.1, errV (e.state n).2.2]) ∧ S w0 w' (engO b bs k e :: L) := by
 have HS := hid hs
 rcases e.err_cases n false with ⟨h1, h2⟩ | ⟨i, rfl, hi, ⟨h1, h2, h3⟩ | ⟨h1, h2⟩⟩
 ·have hst : e.state n = (0, 0, 7) := by unfold Eng.state; rw [if_pos (by rw [h1]; decide), h1]
  have HST := hid hst
  have hc := of_miss w0 w b bs k e n false L hs h2
  have HC := hid hc
  clear hs hst hc h1 h2
  go_enter Tryz.func39, Tryz.ntmps39
  go_wp2_with fail
  with_reducible refine HC.out.mono ?_
  rintro r w' ⟨rfl, rfl⟩
  go_wp2_with fail
  go_ret3
  exact ⟨by rw [HST.out]; rfl, HS.out⟩
 ·cases h2
 ·have hi2 : ((i : Int) + 1).toNat - 1 = i := by omega
  have hst : e.state ((i : Int) + 1) = ((e.tx i).state, (e.tx i).why, 0) := by unfold Eng.state; rw [if_neg (by rw [h1]; decide), hi2]
  have HST := hid hst
  have hc := of_ok w0 w b bs k e i false L hs hi h2
  unfold ptr at hc
  have hx := (hs.eng_txc hi).2
  have c1 := hx.state
  have c2 := hx.why
  have HC := hid hc
  clear hs hst hc h1 h2 hx hi2
  go_enter Tryz.func39, Tryz.ntmps39
  go_wp2_with fail
  with_reducible refine HC.out.mono ?_
  rintro r w' ⟨rfl, rfl⟩
  go_wp2_with fail
  go_quiet (fail)
  go_wp2_with fail
  go_ret3
  exact ⟨by rw [HST.out]; rfl, HS.out.drewN nq⟩
theorem txs_any (w0 w : World) (b : Nat) (bs : List Nat) (k : EngV) (e : Eng) (L : List HProp) (hs : S w0 w (engO b bs k e :: L)) :
  Calls Tryz.prog 30 #[.pointer (some ⟨b, 0, none⟩)] w fun r w' => r = .returned (.int .i64 e.txs.length) ∧ w = w' := by
 have hc := hs.eng_c.2
 have c14 := hc.txs
 obtain ⟨a, cap, hv, hle, hcap, _⟩ := hc.row
 rw [hv] at c14
 unfold maxLen at hcap
 clear hs hc hv
 go_enter Tryz.func30, Tryz.ntmps30
 go_wp2
 go_ret
 exact ⟨rfl, rfl⟩
theorem elast_any (w0 w : World) (b : Nat) (e : Eng) (L : List HProp) (hs : S w0 w (storeP 107 b 0 e.V e.last :: L)) :
  Calls Tryz.prog 31 #[.pointer (some ⟨b, 0, none⟩)] w fun r w' => r = .returned (.int .i64 e.last) ∧ w = w' := by
 have hc := last_any b 0 e.last w hs.store_last.1
 clear hs
 go_enter Tryz.func31, Tryz.ntmps31
 go_wp2_with (go_at_call 48; with_reducible refine hc.mono ?_; rintro r w' ⟨rfl, rfl⟩)
 go_ret
 exact ⟨rfl, rfl⟩
theorem ewaits_any (w0 w : World) (b : Nat) (e : Eng) (n : Int) (L : List HProp) (hs : S w0 w (tabP 3 b 11 e.t :: L)) :
  Calls Tryz.prog 42 #[.pointer (some ⟨b, 0, none⟩), .int .i64 n] w fun r w' => r = .returned (.int .i64 (e.waits n)) ∧ w = w' := by
 have hw := twaits_any w0 w 3 b 11 e.t n L hs
 have hh := fun key => tholds_any w0 w 3 b 11 e.t key L hs
 cases hm : mget e.t.wait n with
 | none =>
  have hf : e.waits n = 0 := by unfold Eng.waits; rw [hm]
  rw [hm] at hw
  have HF := hid hf; have HW := hid hw
  clear hs hw hh hm hf
  go_enter Tryz.func42, Tryz.ntmps42
  go_wp2_with fail
  with_reducible refine HW.out.mono ?_
  rintro r w' ⟨rfl, rfl⟩
  go_wp2_with fail
  go_ret
  exact ⟨by rw [HF.out]; rfl, rfl⟩
 | some kk =>
  rw [hm] at hw
  by_cases h0 : 0 ≤ kk
  ·have hf : e.waits n = (mget e.t.hold kk).getD 0 := by unfold Eng.waits; rw [hm]; exact if_pos h0
   have HF := hid hf; have HW := hid hw; have HH := hid (hh kk)
   clear hs hw hh hm hf
   go_enter Tryz.func42, Tryz.ntmps42
   go_wp2_with fail
   with_reducible refine HW.out.mono ?_
   rintro r w' ⟨rfl, rfl⟩
   go_wp2_with fail
   with_reducible refine HH.out.mono ?_
   rintro r w' ⟨rfl, rfl⟩
   go_wp2_with fail
   go_ret
   exact ⟨by rw [HF.out]; rfl, rfl⟩
  ·have hf : e.waits n = 0 := by unfold Eng.waits; rw [hm]; exact if_neg h0
   have HF := hid hf; have HW := hid hw
   clear hs hw hh hm hf
   go_enter Tryz.func42, Tryz.ntmps42
   go_wp2_with fail
   with_reducible refine HW.out.mono ?_
   rintro r w' ⟨rfl, rfl⟩
   go_wp2_with fail
   go_ret
   exact ⟨by rw [HF.out]; rfl, rfl⟩
end Go.Proofs.YtmfngjclccehaaaGreatDoor
/- The program's engine: whether a key was read. -/
namespace Go.Proofs.YtmfngjclccehaaaGreatDoor
open Go Go.RowKit Go.Sep
theorem saw1_any (w0 w : World) (k1 f1 key : Int) (bw : Nat) (L : List HProp) (hs : S w0 w L) (hc : w.cell? ⟨bw, 0, none⟩ = some (.int .i64 key)) :
  Calls Tryz.prog 86 #[.agg #[.int .i64 k1, .int .i64 f1], .pointer (some ⟨bw, 0, none⟩)] w fun r w' => r = .returned (.bool (k1 == key)) ∧ S w0 w' L := by
 have hlt := World.block_lt_of_cell? w ⟨bw, 0, none⟩ hc
 have h1 : (w.alloc (.cells #[.int .i64 k1, .int .i64 f1] 139)).cell? ⟨bw, 0, none⟩ = some (.int .i64 key) := by rw [World.cell?_alloc_lt _ _ _ hlt]; exact hc
 have HS := hid (hs.alloc #[.int .i64 k1, .int .i64 f1] 139).tail
 clear hs hc hlt
 go_enter Tryz.func86, Tryz.ntmps86
 go_wp2
 go_ret
 exact ⟨rfl, HS.out⟩
abbrev sawF (bw : Nat) : Value := .func (.func 86) #[] #[.pointer (some ⟨bw, 0, none⟩)]
def RxPost (w0 : World) (L : List HProp) (key : Int) (l : List (Int × Int)) (e : Ending) (w' : World) : Prop := ∃ r : Int, e = .returned (.int .i64 r) ∧ -1 ≤ r ∧ (decide (0 ≤ r) = l.any fun p => decide (p.1 = key)) ∧ S w0 w' L
set_option maxRecDepth 20000 in
set_option maxHeartbeats 1000000 in
theorem indexR_any (w0 w : World) (b : Nat) (bs : List Nat) (k : EngV) (e : Eng) (j : Nat) (bw : Nat) (key val : Int) (L : List HProp) (hs : S w0 w (blk bw 101 [.int .i64 key, .int .i64 val] :: engO b bs k e :: L)) (hj : j < e.txs.length) :
  Calls Tryz.prog 100 #[(k.v j).rv, sawF bw] w (RxPost w0 (blk bw 101 [.int .i64 key, .int .i64 val] :: engO b bs k e :: L) key (e.tx j).reads) := by
 obtain ⟨a, cap, hrv, hle, hcap, _⟩ := (hs.swap.eng_txc hj).2.rs
 have hrd : ∀ W, S w0 W (blk bw 101 [.int .i64 key, .int .i64 val] :: engO b bs k e :: L) → ∀ i p, (e.tx j).reads[i]? = some p → ∃ g o, a = some ⟨g, o, none⟩ ∧ W.cell? ⟨g, o + i * 2, none⟩ = some (.int .i64 p.1) ∧ W.cell? ⟨g, o + i * 2 + 1, none⟩ = some (.int .i64 p.2) := by
  intro W hW i p hp
  obtain ⟨a', cap', hrv', _, _, h⟩ := (hW.swap.eng_txc hj).2.rs
  rw [hrv] at hrv'
  simp only [Value.slice.injEq] at hrv'
  obtain ⟨rfl, _, _⟩ := hrv'
  exact h i p hp
 rw [hrv]
 generalize (e.tx j).reads = l at *
 unfold maxLen at hcap
 have HS := hid hs; have HRD := hid hrd
 clear hs hrd hrv
 go_enter Tryz.func100, Tryz.ntmps100
 go_wp2_with fail
 go_loopw [8] (fun x wr => ∃ i : Nat, i ≤ l.length ∧ x = .int .i64 i ∧ Hid (∀ p ∈ l.take i, p.1 ≠ key) ∧ S w0 wr (blk bw 101 [.int .i64 key, .int .i64 val] :: engO b bs k e :: L)) (fun x _ => l.length - (intOf x).toNat)
 case atStart => exact ⟨0, Nat.zero_le _, rfl, hid (by simp), HS.out⟩
 case round =>
  rename World => wr
  obtain ⟨i, hi, rfl, hno, hsr⟩ := hrel
  clear HS
  by_cases hlt : i < l.length
  ·have hp : l[i]? = some l[i] := by simp [hlt]
   generalize l[i] = p at hp
   obtain ⟨g, o, rfl, c1, c2⟩ := HRD.out _ hsr _ _ hp
   have hc := saw1_any w0 wr p.1 p.2 key bw _ hsr (hsr.blk_cell 0 rfl)
   have HP := hid hp; have HC := hid hc; have HSR := hid hsr
   clear hp hc hsr
   by_cases hx : p.1 = key
   ·have hbe : (p.1 == key) = true := by simpa using hx
    have HF := hid (show (l.any fun p => decide (p.1 = key)) = true by
     rw [List.any_eq_true]; exact ⟨p, List.mem_of_getElem? HP.out, by simpa using hx⟩)
    clear hx hno
    go_wp2_with fail
    with_reducible refine HC.out.mono ?_
    rintro r w' ⟨rfl, hs'⟩
    have H2 := hid hs'
    clear hs'
    go_wp2_with fail
    go_ret
    exact ⟨i, rfl, by omega, by rw [HF.out]; simp, H2.out⟩
   ·have hn : Hid (∀ q ∈ l.take (i + 1), q.1 ≠ key) := hid (by
     rw [take_succ_get HP.out]
     intro q hq
     rcases List.mem_append.1 hq with hq | hq
     ·exact hno.out q hq
     ·simp only [List.mem_singleton] at hq; subst hq; exact hx)
    have hbe : (p.1 == key) = false := by simpa using hx
    clear hx hno
    go_wp2_with fail
    with_reducible refine HC.out.mono ?_
    rintro r w' ⟨rfl, hs'⟩
    have H2 := hid hs'
    clear hs'
    go_wp2_with fail
    go_roundw
    case rel => exact ⟨i + 1, by omega, by go_num, hn, H2.out⟩
    case measure => simp [intOf]; omega
  ·have HF := hid (show (l.any fun p => decide (p.1 = key)) = false by
    rw [List.any_eq_false]
    intro p hp
    have := hno.out p (by rw [List.take_of_length_le (by omega)]; exact hp)
    simp [this])
   have H2 := hid hsr
   clear hno hsr
   go_wp2_with fail
   go_ret
   exact ⟨-1, rfl, by omega, by rw [HF.out]; simp, H2.out⟩
theorem containsR_any (w0 w : World) (b : Nat) (bs : List Nat) (k : EngV) (e : Eng) (j : Nat) (bw : Nat) (key val : Int) (L : List HProp) (hs : S w0 w (blk bw 101 [.int .i64 key, .int .i64 val] :: engO b bs k e :: L)) (hj : j < e.txs.length) :
  Calls Tryz.prog 85 #[(k.v j).rv, sawF bw] w fun r w' => r = .returned (.bool ((e.tx j).saw key)) ∧ S w0 w' (blk bw 101 [.int .i64 key, .int .i64 val] :: engO b bs k e :: L) := by
 have HC := hid (indexR_any w0 w b bs k e j bw key val L hs hj)
 clear hs
 go_enter Tryz.func85, Tryz.ntmps85
 go_wp2_with fail
 with_reducible refine HC.out.mono ?_
 rintro r w' ⟨x, rfl, hr, hd, hs'⟩
 have HD := hid hd; have H2 := hid hs'
 clear hd hs'
 go_wp2_with fail
 go_ret
 exact ⟨by unfold Tx.saw; rw [← HD.out]; rfl, H2.out⟩
end Go.Proofs.YtmfngjclccehaaaGreatDoor
namespace Go.Proofs.YtmfngjclccehaaaGreatDoor
open Go Go.RowKit Go.Sep
def GoesAny (n : Nat) : Prop := ∀ (w0 w : World) (b : Nat) (bs : List Nat) (e : Eng) (i : Nat) (why : Int) (L : List HProp) (N : Nat) (U : List Task), OkT N e U → i < e.txs.length → (e.tx i).alive = true → (∀ u ∈ U, u.who ≠ i) → e.open_ ≤ n → N ≤ 100000000 → S w0 w (engP b bs e :: L) →
 Calls Tryz.prog 58 #[.pointer (some ⟨b, 0, none⟩), .int .i64 ((i : Int) + 1), .int .i64 why] w fun r w' => r = .returned (.tuple #[]) ∧ S w0 w' (engP b bs (goesN n e i why) :: L)
theorem OkT.row_le {N : Nat} {e : Eng} {U : List Task} (h : OkT N e U) : ∀ vs ∈ e.V, vs.length ≤ 401 := by
 intro vs hv
 have h1 := h.rows vs hv
 have h2 := h.cnt
 have h3 := h.few
 have : (0 : Int) ≤ e.open_ := by omega
 omega
theorem enewer_any (w0 w : World) (b : Nat) (e : Eng) (key at_ : Int) (L : List HProp) (N : Nat) (U : List Task) (h : OkT N e U) (hk : keyOk key) (hs : S w0 w (storeP 107 b 0 e.V e.last :: L)) :
  Calls Tryz.prog 81 #[.pointer (some ⟨b, 0, none⟩), .int .i64 key, .int .i64 at_] w (fun r w' => ∃ a c, r = .returned (.tuple #[.slice a (newerL (e.row key) at_).length c, .nilIface]) ∧ (newerL (e.row key) at_).length ≤ c ∧ c ≤ maxLen ∧ S w0 w' (sl 3 1 (.slice a (newerL (e.row key) at_).length c) (newerL (e.row key) at_).length (icells (newerL (e.row key) at_)) :: storeP 107 b 0 e.V e.last :: L)) := by
 obtain ⟨k, rfl⟩ : ∃ k : Nat, key = k := ⟨key.toNat, by have := hk.1; omega⟩
 have hk2 : k < 10 := by have := hk.2; omega
 have hV : e.V[k]? = some (e.row k) := by
  unfold Eng.row
  have : k < e.V.length := by rw [h.v10]; exact hk2
  simp [this]
 have hle := h.row_le _ (List.mem_of_getElem? hV)
 refine (newer_any w0 w b 0 e.V e.last at_ k (e.row k) L hk2 hs hV (by omega)).mono fun r w' hp => ?_
 obtain ⟨v, h1, h2⟩ := hp
 obtain ⟨a, c, rfl, h3, h4, _⟩ := h2.sl_val
 exact ⟨a, c, h1, h3, h4, h2⟩
theorem eng_wput {w0 w : World} {b : Nat} {bs : List Nat} {k : EngV} {e : Eng} {i : Nat} {L : List HProp} (h : S w0 w (engO b bs k e :: L)) (hi : i < e.txs.length) (key val : Int) :
  ∃ w', (Instr.mapUpdate 53 (.map (some (k.v i).mb)) (.int .i64 key) (.int .i64 val)).run Tryz.prog w = .ok () w' ∧ S w0 w' (engO b bs k (e.wput i (key, val)) :: L) := by
 have hp := h.sep_elim.pur_elim.1
 have h1 : S w0 w (mp encI (fun _ => True) (k.v i).mb (ienc (e.tx i).writes) :: blk (blkOf bs i) 123 (txF (k.v i) (e.tx i)) :: sl 139 2 (k.v i).rv (e.tx i).reads.length (pcells (e.tx i).reads) :: sl 120 1 (k.v i).fv (e.tx i).fore.length (ptrs bs (e.tx i).fore) :: sl 120 1 (k.v i).av (e.tx i).aft.length (ptrs bs (e.tx i).aft) :: engX b bs k e i :: L) :=
  (h.eng_tx hi).conv (by rw [all, txK_parts]; simp only [all]; ac_rfl)
 obtain ⟨w', hr, h2⟩ := h1.put Tryz.keyInt Tryz.underlying53 key trivial (.int .i64 val)
 refine ⟨w', hr, ?_⟩
 have e1 : mput (ienc (e.tx i).writes) key (.int .i64 val) = ienc (mput (e.tx i).writes key val) := ienc_put _ _ _
 rw [e1] at h2
 have h3 : S w0 w' (txK bs (blkOf bs i) (k.v i) { e.tx i with writes := mput (e.tx i).writes key val } :: engX b bs k e i :: L) := by
  refine h2.conv ?_
  rw [txK_parts]
  show _ = sep (sep (blk (blkOf bs i) _ (txF (k.v i) (e.tx i))) (sep (sl _ 2 (k.v i).rv (e.tx i).reads.length (pcells (e.tx i).reads)) (sep _ (sep (sl _ 1 (k.v i).fv (e.tx i).fore.length (ptrs bs (e.tx i).fore)) (sl _ 1 (k.v i).av (e.tx i).aft.length (ptrs bs (e.tx i).aft)))))) _
  simp only [all]; ac_rfl
 have h4 := S.eng_back hi h3
 have e2 : k.set i (k.v i) = k := by
  unfold EngV.set EngV.v
  have : k.tv.set i ((k.tv[i]?).getD .none) = k.tv := by simp [show i < k.tv.length by omega]
  rw [this]
 rw [e2] at h4
 have e3 : { e with txs := e.txs.set i { e.tx i with writes := mput (e.tx i).writes key val } } = e.wput i (key, val) := by
  have := Eng.upd_set hi (fun x => { x with writes := mput x.writes key val })
  unfold Eng.wput Eng.upd at this ⊢
  simp only at this
  rw [this]
 rwa [e3] at h4
theorem tx_size : (Tryz.prog.info? 123).map (·.size) = some 12 := by kernel_rfl
theorem eqlT_same (w : World) (p : Nat) : (binOp .eql 120 (.pointer (some ⟨p, 0, none⟩)) (.pointer (some ⟨p, 0, none⟩))).run Tryz.prog w = .ok (.bool true) w := by
 obtain ⟨j, hj, _⟩ := Option.map_eq_some_iff.1 tx_size
 exact run_eql_ptr_same w ⟨p, 0, none⟩ Tryz.underlying120 hj
theorem eqlT_other {w0 w : World} {b : Nat} {bs : List Nat} {k : EngV} {e : Eng} {i m : Nat} {L : List HProp} (hs : S w0 w (engO b bs k e :: L)) (hi : i < e.txs.length) (hm : m < e.txs.length) (hne : blkOf bs m ≠ blkOf bs i) :
  (binOp .eql 120 (.pointer (some ⟨blkOf bs m, 0, none⟩)) (.pointer (some ⟨blkOf bs i, 0, none⟩))).run Tryz.prog w = .ok (.bool false) w := by
 obtain ⟨j, hj, hsz⟩ := Option.map_eq_some_iff.1 tx_size
 exact run_eql_ptr_other w Tryz.underlying120 hj (by rw [hsz]; decide) (fun e1 => hne (congrArg Addr.block e1)) (hs.eng_tx hm).sep_elim.blk_heap (hs.eng_tx hi).sep_elim.blk_heap
set_option linter.unusedSimpArgs false in
set_option maxRecDepth 100000 in
set_option maxHeartbeats 20000000 in
theorem writes_any (n : Nat) (hg : GoesAny n) (w0 w : World) (b : Nat) (bs : List Nat) (e : Eng) (i : Nat) (key val : Int) (L : List HProp) (N : Nat) (U : List Task) (hok : OkT N e (.put i (key, val) :: U)) (ho : e.open_ ≤ n) (hN : N ≤ 100000000) (hs : S w0 w (engP b bs e :: L)) :
  Calls Tryz.prog 62 #[.pointer (some ⟨b, 0, none⟩), .int .i64 ((i : Int) + 1), .agg #[.int .i64 key, .int .i64 val]] w fun r w' => r = .returned (.tuple #[]) ∧ S w0 w' (engP b bs (putsG (goesN n) e i (key, val)) :: L) := by
 have hk0 := hok.ok _ (List.mem_cons_self ..)
 obtain ⟨hst, hkey, hval, _⟩ := hk0.put i (key, val) rfl
 have hi : i < e.txs.length := hk0.lt
 obtain ⟨k, hs⟩ := hs.eng_open
 have h1 := hs.alloc #[.int .i64 key, .int .i64 val] 101
 have hO : ∀ W M, S w0 W (M ++ (storeP 107 b 0 e.V e.last :: tabP 3 b 11 e.t :: engO b bs k e :: L)) → S w0 W (engO b bs k e :: L) := fun W M h => (h.rest).tail.tail
 have hc := (hO _ [_] h1).eng_c.2
 have c14 := hc.txs
 obtain ⟨a, cap, hv, hle, hcap, hrow⟩ := hc.row
 obtain ⟨g, o, rfl, ci⟩ := hrow i hi
 rw [hv] at c14
 unfold maxLen at hcap
 unfold ptr at ci
 have HS := hid h1; have HO := hid hO; have HOK := hid hok; have HG := hid hg; have HV := hid hv
 have hq : ∀ W M, S w0 W (blk w.heap.size 101 [.int .i64 key, .int .i64 val] :: storeP 107 b 0 e.V e.last :: tabP 3 b 11 e.t :: engO b bs k e :: M) → W.cell? ⟨w.heap.size, 0, none⟩ = some (.int .i64 key) ∧ W.cell? ⟨blkOf bs i, 2, none⟩ = some (.int .i64 (e.tx i).start) := fun W M h =>
  ⟨h.blk_cell 0 rfl, (h.tail.tail.tail.eng_txc hi).2.start⟩
 have HQ := hid hq
 have q0 := hq _ _ h1.drew
 have HHI := hid hi
 clear h1 hO hc hrow hok hg hq hs hk0 hv
 go_enter Tryz.func62, Tryz.ntmps62
 go_wp2_with fail
 go_region_held_law (fun w' => w'.cell? ⟨w.heap.size, 0, none⟩ = some (.int .i64 key) ∧ w'.cell? ⟨blkOf bs i, 2, none⟩ = some (.int .i64 (e.tx i).start)) (first | (with_reducible assumption) | (with_reducible exact q0) | (with_reducible exact q1))
  ((go_at_call 81; with_reducible refine (enewer_any w0 _ b e key _ _ N _ HOK.out hkey (HS.out.drew.swap)).mono ?_; rintro r w2 ⟨an, cn, rfl, hcn, hcn2, hs2⟩; have q1 := HQ.out _ _ (hs2.tail.swap); have G2 := hid hs2; clear hs2))
 have hs3 := G2.out.tail.swap
 have c0 := (hs3.tail.tail.tail.eng_txc HHI.out).2.level
 unfold maxLen at hcn2
 have HLT : Hid (e.late i key ↔ (e.tx i).level ≠ 0 ∧ newerL (e.row key) (e.tx i).start ≠ []) := hid Iff.rfl
 have HM : Hid (newerL (e.row key) (e.tx i).start ≠ [] ↔ 0 < (newerL (e.row key) (e.tx i).start).length) := hid (by rw [List.length_pos_iff])
 have hml : (newerL (e.row key) (e.tx i).start).length ≤ 9223372036854775807 := by omega
 generalize (newerL (e.row key) (e.tx i).start).length = m at *
 have H3 := hid hs3
 clear hs3 q0 G2 HS
 by_cases hl : e.late i key
 ·obtain ⟨hl0, hl1⟩ := HLT.out.1 hl
  have hm0 := HM.out.1 hl1
  have hb0 : ((e.tx i).level != 0) = true := by simpa using hl0
  have hlv : putsG (goesN n) e i (key, val) = goesN n e i 10 := if_pos hl
  have HF := hid hlv
  have hcall := HG.out w0 _ b bs e i 10 L N U (HOK.out.tail (by simp)) HHI.out (by simp [Tx.alive, hst]) (HOK.out.who_ne) ho hN H3.out.tail.eng_shut
  have HC := hid hcall
  clear hl hl0 hl1 hlv hcall HLT HM
  go_wp2_with fail
  with_reducible refine HC.out.mono ?_
  rintro r w' ⟨rfl, hs'⟩
  have H4 := hid hs'
  clear hs'
  go_wp2_with fail
  refine bodyPost_ret (v := .tuple #[]) (by simp [results, Tryz.results62, go_sem]) rfl ?_
  exact ⟨rfl, by rw [HF.out]; exact H4.out⟩
 have hw := HOK.out.wput
 have HW := hid hw
 have hup : ∀ W, S w0 W (blk w.heap.size 101 [.int .i64 key, .int .i64 val] :: storeP 107 b 0 e.V e.last :: tabP 3 b 11 e.t :: engO b bs k e :: L) → ∃ w', (Instr.mapUpdate 53 (.map (some (k.v i).mb)) (.int .i64 key) (.int .i64 val)).run Tryz.prog W = .ok () w' ∧ S w0 w' (blk w.heap.size 101 [.int .i64 key, .int .i64 val] :: storeP 107 b 0 (e.wput i (key, val)).V (e.wput i (key, val)).last :: tabP 3 b 11 (e.wput i (key, val)).t :: engO b bs k (e.wput i (key, val)) :: L) := by
  intro W hW
  obtain ⟨w', hr, h⟩ := eng_wput (hW.conv (M := engO b bs k e :: blk w.heap.size 101 [.int .i64 key, .int .i64 val] :: storeP 107 b 0 e.V e.last :: tabP 3 b 11 e.t :: L) (by simp only [all]; ac_rfl)) HHI.out key val
  exact ⟨w', hr, h.conv (by simp only [all]; show sep _ (sep _ (sep (storeP _ b 0 e.V e.last) (sep (tabP _ b 11 e.t) _))) = sep _ (sep (storeP _ b 0 e.V e.last) (sep (tabP _ b 11 e.t) _)); ac_rfl)⟩
 have hq5 : ∀ W M, S w0 W (blk w.heap.size 101 [.int .i64 key, .int .i64 val] :: storeP 107 b 0 e.V e.last :: tabP 3 b 11 e.t :: engO b bs k e :: M) → W.cell? ⟨blkOf bs i, 6, none⟩ = some (.map (some (k.v i).mb)) ∧ W.cell? ⟨w.heap.size, 0, none⟩ = some (.int .i64 key) ∧ W.cell? ⟨w.heap.size, 1, none⟩ = some (.int .i64 val) := fun W M h =>
  ⟨(h.tail.tail.tail.eng_txc HHI.out).2.writes, h.blk_cell 0 rfl, h.blk_cell 1 rfl⟩
 have HUP := hid hup; have HQ5 := hid hq5
 clear hup hq5 hw
 go_upto_region 3 with fail
 go_cut [41] (fun c wx => c = .bool false ∧ S w0 wx (blk w.heap.size 101 [.int .i64 key, .int .i64 val] :: storeP 107 b 0 e.V e.last :: tabP 3 b 11 e.t :: engO b bs k e :: L))
 case first =>
  by_cases h0 : (e.tx i).level = 0
  ·have hb : ((e.tx i).level != 0) = false := by simp [h0]
   clear hl h0 HLT HM
   go_wp2_with fail
   go_meet
   exact ⟨rfl, H3.out⟩
  ·have hb : ((e.tx i).level != 0) = true := by simpa using h0
   obtain rfl : m = 0 := by
    rcases Nat.eq_zero_or_pos m with h1 | h1
    ·exact h1
    ·exact absurd (HLT.out.2 ⟨h0, HM.out.2 h1⟩) hl
   clear hl h0 HLT HM
   go_wp2_with fail
   go_meet
   exact ⟨rfl, H3.out⟩
 case rest =>
 rename World => w3
 obtain ⟨rfl, hs4⟩ := hcut
 have H4 := hid hs4
 clear hs4 c0 H3 HLT HM
 go_upto_region 5 with fail
 go_cut [] (fun wx => S w0 wx (blk w.heap.size 101 [.int .i64 key, .int .i64 val] :: storeP 107 b 0 (e.wput i (key, val)).V (e.wput i (key, val)).last :: tabP 3 b 11 (e.wput i (key, val)).t :: engO b bs k (e.wput i (key, val)) :: L))
 case first =>
  refine region_U (S := fun w' => w'.cell? ⟨blkOf bs i, 6, none⟩ = some (.map (some (k.v i).mb)) ∧ w'.cell? ⟨w.heap.size, 0, none⟩ = some (.int .i64 key) ∧ w'.cell? ⟨w.heap.size, 1, none⟩ = some (.int .i64 val)) (u := 8) (by kernel_rfl) (HQ5.out _ _ H4.out.drew) (fun hHeld => ?_)
  refine anyU_take (i := 0) (v := ?_) rfl (by kernel_rfl) (fun _ _ _ h => h) (Or.inl ⟨by rfl, ?_⟩) hHeld ?_
  rotate_left
  ·(intro w hSw; (try dsimp only at hSw); go_simp) <;> with_reducible rfl
  try simp only [putU]
  refine anyU_take (i := 1) (v := ?_) rfl (by kernel_rfl) (fun _ _ _ h => h) (Or.inl ⟨by rfl, ?_⟩) hHeld ?_
  rotate_left
  ·(intro w hSw; (try dsimp only at hSw); go_simp) <;> with_reducible rfl
  try simp only [putU]
  refine anyU_take (i := 2) (v := ?_) rfl (by kernel_rfl) (fun _ _ _ h => h) (Or.inl ⟨by rfl, ?_⟩) hHeld ?_
  rotate_left
  ·(intro w hSw; (try dsimp only at hSw); go_simp) <;> with_reducible rfl
  try simp only [putU]
  refine anyU_take (i := 3) (v := ?_) rfl (by kernel_rfl) (fun _ _ _ h => h) (Or.inl ⟨by rfl, ?_⟩) hHeld ?_
  rotate_left
  ·(intro w hSw; (try dsimp only at hSw); go_simp) <;> with_reducible rfl
  try simp only [putU]
  refine anyU_take (i := 4) (v := ?_) rfl (by kernel_rfl) (fun _ _ _ h => h) (Or.inl ⟨by rfl, ?_⟩) hHeld ?_
  rotate_left
  ·(intro w hSw; (try dsimp only at hSw); go_simp) <;> with_reducible rfl
  try simp only [putU]
  refine anyU_take (i := 5) (v := ?_) rfl (by kernel_rfl) (fun _ _ _ h => h) (Or.inl ⟨by rfl, ?_⟩) hHeld ?_
  rotate_left
  ·(intro w hSw; (try dsimp only at hSw); go_simp) <;> with_reducible rfl
  try simp only [putU]
  refine anyU_take (i := 6) (v := ?_) rfl (by kernel_rfl) (fun _ _ _ h => h) (Or.inl ⟨by rfl, ?_⟩) hHeld ?_
  rotate_left
  ·(intro w hSw; (try dsimp only at hSw); go_simp) <;> with_reducible rfl
  try simp only [putU]
  refine anyU_take (i := 7) (v := ?_) rfl (by kernel_rfl) (fun _ _ _ h => h) (Or.inl ⟨by rfl, ?_⟩) hHeld ?_
  rotate_left
  ·(intro w hSw; (try dsimp only at hSw); go_simp) <;> with_reducible rfl
  try simp only [putU]
  have HS := hid H4.out.drew
  clear hHeld
  refine anyU_world (fun w => Hid (S w0 w _)) HS (fun w1 HS => ?_)
  refine anyU_next (rs := [8]) (by kernel_rfl) (by simp) ?_
  refine NextU.cons rfl (fun K hK => ?_) ?_
  ·refine step_mapuE rfl 53 (.tmp 48) (.tmp 50) (.tmp 52) rfl (by rfl) (by rfl) (by rfl) (HUP.out _ HS.out) ?_
   intro w2 hs2
   have H6 := hid hs2
   clear hs2
   refine hK.out _ _ (fun h => Bool.noConfusion (show true = false from h)) ?_
   clear hK K
   try simp only [putU]
   refine anyU_done (by kernel_rfl) ?_ _
   go_wp2_with fail
   go_meet
   exact H6.out
  exact NextU.nil
 case rest =>
 rename World => w4
 have H5 := hid hcut
 clear hcut H4 HUP HQ5 HQ HO
 have hlv : ((e.wput i (key, val)).tx i).level = (e.tx i).level := Eng.upd_keep (·.level) (fun x => { x with writes := mput x.writes key val }) (fun _ => rfl) i
 have hln : (e.wput i (key, val)).txs.length = e.txs.length := Eng.upd_len ..
 have hop : (e.wput i (key, val)).open_ = e.open_ := Eng.many_keep Tx.alive _ fun _ => rfl
 have HHI2 : i < (e.wput i (key, val)).txs.length := by rw [hln]; exact HHI.out
 have c0 := (H5.out.tail.tail.tail.eng_txc HHI2).2.level
 rw [hlv] at c0
 have HLV := hid hlv; have HLN := hid hln; have HOP := hid hop
 clear hlv hln hop
 by_cases h2 : (e.tx i).level ≠ 2
 ·have hb2 : ((e.tx i).level != 2) = true := by simpa using h2
  have hpv : putsG (goesN n) e i (key, val) = e.wput i (key, val) := by unfold putsG; rw [if_neg hl, if_neg h2]
  have HF := hid hpv
  clear hl h2 hpv HHI2
  go_wp2_with fail
  refine bodyPost_ret (v := .tuple #[]) (by simp [results, Tryz.results62, go_sem]) rfl ?_
  exact ⟨rfl, by rw [HF.out]; exact H5.out.tail.eng_shut⟩
 have h2 := Decidable.not_not.1 h2
 have hb2 : ((e.tx i).level != 2) = false := by simp [h2]
 have hpv : putsG (goesN n) e i (key, val) = putsL (goesN n) i key (List.range e.txs.length) (e.wput i (key, val)) := by unfold putsG; rw [if_neg hl, if_pos h2]
 have hok2 := HW.out.2 h2
 have HF := hid hpv; have HOK2 := hid hok2
 have hc4 := H5.out.tail.tail.tail.eng_c.2.txs
 rw [HV.out] at hc4
 have hrow : ∀ (W : World) (k1 : EngV) (e1 : Eng) (M : List HProp), k1.txv = k.txv → e1.txs.length = e.txs.length → S w0 W (engO b bs k1 e1 :: M) → ∀ j, j < e.txs.length → W.cell? ⟨g, o + j, none⟩ = some (ptr bs j) := by
  intro W k1 e1 M h1 h2 h3 j hj
  obtain ⟨a', cap', h4, _, _, h5⟩ := h3.eng_c.2.row
  obtain ⟨g', o', h6, h7⟩ := h5 j (by omega)
  rw [h1, HV.out, h6] at h4
  simp only [Value.slice.injEq, Option.some.injEq, Addr.mk.injEq] at h4
  obtain ⟨⟨rfl, rfl, _⟩, _, _⟩ := h4
  exact h7
 have HROW := hid hrow
 have hfew := HOK.out.few
 have HO2 : Hid ((e.wput i (key, val)).open_ ≤ n) := hid (by rw [HOP.out]; exact ho)
 clear hl h2 hpv hok2 hrow HHI2 HW HOP
 go_wp2_with fail
 go_loopw [63] (fun c wr => ∃ (m : Nat) (e1 : Eng) (k1 : EngV), m ≤ e.txs.length ∧ c = .int .i64 m ∧ Hid (k1.txv = k.txv) ∧ Hid (OkT N e1 (.ask i key ((List.range e.txs.length).drop m) :: U)) ∧ Hid (e1.open_ ≤ n) ∧ Hid (e1.txs.length = e.txs.length) ∧ Hid (putsG (goesN n) e i (key, val) = putsL (goesN n) i key ((List.range e.txs.length).drop m) e1) ∧ S w0 wr (blk w.heap.size 101 [.int .i64 key, .int .i64 val] :: storeP 107 b 0 e1.V e1.last :: tabP 3 b 11 e1.t :: engO b bs k1 e1 :: L)) (fun c _ => e.txs.length - (intOf c).toNat)
 case atStart => exact ⟨0, e.wput i (key, val), k, Nat.zero_le _, rfl, hid rfl, HOK2, HO2, HLN, HF, H5.out⟩
 case round =>
  rename World => wr
  obtain ⟨m, e1, k1, hm, rfl, hk1, hok1, ho1, hn1, hf1, hsr⟩ := hrel
  clear H5 HF HOK2 HO2 HLN HLV HOK hc4 c0
  by_cases hlt : m < e.txs.length
  ·have hd : (List.range e.txs.length).drop m = m :: (List.range e.txs.length).drop (m + 1) := by rw [List.drop_eq_getElem_cons (by simpa using hlt)]; simp
   have hok2 := hok1.out
   have hf2 := hf1.out
   rw [hd] at hok2 hf2
   have hj : m < e1.txs.length := by rw [hn1.out]; exact hlt
   have hi1 : i < e1.txs.length := by rw [hn1.out]; exact HHI.out
   have cm := HROW.out wr k1 e1 _ hk1.out hn1.out hsr.tail.tail.tail m hlt
   unfold ptr at cm
   have hq10 : ∀ W M, S w0 W (blk w.heap.size 101 [.int .i64 key, .int .i64 val] :: storeP 107 b 0 e1.V e1.last :: tabP 3 b 11 e1.t :: engO b bs k1 e1 :: M) → W.cell? ⟨blkOf bs m, 1, none⟩ = some (.int .i64 (e1.tx m).state) ∧ W.cell? ⟨blkOf bs m, 4, none⟩ = some (.int .i64 (e1.tx m).ended) ∧ W.cell? ⟨blkOf bs i, 3, none⟩ = some (.int .i64 (e1.tx i).begun) ∧ W.cell? ⟨blkOf bs m, 5, none⟩ = some (k1.v m).rv := fun W M h =>
    ⟨(h.tail.tail.tail.eng_txc hj).2.state, (h.tail.tail.tail.eng_txc hj).2.ended, (h.tail.tail.tail.eng_txc hi1).2.begun, (h.tail.tail.tail.eng_txc hj).2.reads⟩
   have hstr : ∀ W, S w0 W (blk w.heap.size 101 [.int .i64 key, .int .i64 val] :: storeP 107 b 0 e1.V e1.last :: tabP 3 b 11 e1.t :: engO b bs k1 e1 :: L) → Calls Tryz.prog 82 #[.pointer (some ⟨blkOf bs m, 0, none⟩)] W fun r w' => r = .returned (.bool (e1.tx m).strict) ∧ W = w' := fun W h => strict_eng w0 W b bs k1 e1 m _ h.tail.tail.tail hj
   have hcon : ∀ W, S w0 W (blk w.heap.size 101 [.int .i64 key, .int .i64 val] :: storeP 107 b 0 e1.V e1.last :: tabP 3 b 11 e1.t :: engO b bs k1 e1 :: L) → Calls Tryz.prog 85 #[(k1.v m).rv, sawF w.heap.size] W fun r w' => r = .returned (.bool ((e1.tx m).saw key)) ∧ S w0 w' (blk w.heap.size 101 [.int .i64 key, .int .i64 val] :: storeP 107 b 0 e1.V e1.last :: tabP 3 b 11 e1.t :: engO b bs k1 e1 :: L) := fun W h =>
    (containsR_any w0 W b bs k1 e1 m w.heap.size key val (storeP 107 b 0 e1.V e1.last :: tabP 3 b 11 e1.t :: L) (h.conv (by simp only [all]; ac_rfl)) hj).mono fun r w' h => ⟨h.1, h.2.conv (by simp only [all]; ac_rfl)⟩
   have hsk : skips e1 i key m = (decide (m = i) || !(e1.tx m).strict || (decide ((e1.tx m).state = 2) && decide ((e1.tx m).ended < (e1.tx i).begun)) || !(e1.tx m).saw key) := rfl
   have hbne : m ≠ i → blkOf bs m ≠ blkOf bs i := fun h => blk_ne hsr.tail.tail.tail.eng_c.2 hj hi1 h
   have HR0 := hid hsr; have HQ10 := hid hq10; have HCON := hid hcon; have HOKM := hid hok2; have HFM := hid hf2; have HSTR0 := hid hstr; have HSK0 := hid hsk; have HBNE := hid hbne; have HJ := hid hj; have HI1 := hid hi1
   clear hd hok2 hf2 hj hi1 hq10 hstr hcon hsk hsr hok1 hf1 hbne
   go_upto_region 10 with fail
   go_cut [101] (fun s101 wx => s101 = .bool (skips e1 i key m) ∧ S w0 wx (blk w.heap.size 101 [.int .i64 key, .int .i64 val] :: storeP 107 b 0 e1.V e1.last :: tabP 3 b 11 e1.t :: engO b bs k1 e1 :: L))
   case first =>
    generalize (e1.tx m).state = stj at *
    generalize (e1.tx m).ended = enj at *
    generalize (e1.tx i).begun = bgi at *
    generalize hrv : (k1.v m).rv = rvj at *
    clear hrv
    generalize (e1.tx m).saw key = sk at *
    generalize (e1.tx m).strict = st at *
    have HSTR := HSTR0
    clear HSTR0
    by_cases hmi : m = i
    ·subst hmi
     have HSK : Hid (skips e1 m key m = true) := hid (by rw [HSK0.out]; simp)
     have heqs := fun w => eqlT_same w (blkOf bs m)
     clear HSK0 HBNE
     refine wp_region_held_drew (S := fun w' => w'.cell? ⟨blkOf bs m, 1, none⟩ = some (.int .i64 stj) ∧ w'.cell? ⟨blkOf bs m, 4, none⟩ = some (.int .i64 enj) ∧ w'.cell? ⟨blkOf bs m, 3, none⟩ = some (.int .i64 bgi) ∧ w'.cell? ⟨blkOf bs m, 5, none⟩ = some rvj) (by kernel_rfl) (HQ10.out _ _ HR0.out.drew) (fun hHeld => ?_)
     refine wpAnyH_take (i := 0) (v := ?_) rfl (by kernel_rfl) (by kernel_rfl) (by kernel_rfl) (fun _ _ _ h => h) (Or.inl ⟨by rfl, ?_⟩) hHeld ?_
     rotate_left
     ·(intro w hSw; (try dsimp only at hSw); go_simp) <;> with_reducible rfl
     try simp only [putU]
     refine wpAnyH_take (i := 1) (v := ?_) rfl (by kernel_rfl) (by kernel_rfl) (by kernel_rfl) (fun _ _ _ h => h) (Or.inl ⟨by rfl, ?_⟩) hHeld ?_
     rotate_left
     ·(intro w hSw; (try dsimp only at hSw); go_simp) <;> with_reducible rfl
     try simp only [putU]
     refine wpAnyH_take (i := 2) (v := ?_) rfl (by kernel_rfl) (by kernel_rfl) (by kernel_rfl) (fun _ _ _ h => h) (Or.inl ⟨by rfl, ?_⟩) hHeld ?_
     rotate_left
     ·(intro w hSw; (try dsimp only at hSw); go_simp) <;> with_reducible rfl
     try simp only [putU]
     refine wpAnyH_take (i := 3) (v := ?_) rfl (by kernel_rfl) (by kernel_rfl) (by kernel_rfl) (fun _ _ _ h => h) (Or.inl ⟨by rfl, ?_⟩) hHeld ?_
     rotate_left
     ·(intro w hSw; (try dsimp only at hSw); go_simp) <;> with_reducible rfl
     try simp only [putU]
     refine wpAnyH_take (i := 4) (v := undef) rfl (by kernel_rfl) (by kernel_rfl) (by kernel_rfl) (fun _ _ _ h => h) (Or.inr ⟨by rfl, rfl⟩) hHeld ?_
     try simp only [putU]
     refine wpAnyH_take (i := 5) (v := undef) rfl (by kernel_rfl) (by kernel_rfl) (by kernel_rfl) (fun _ _ _ h => h) (Or.inr ⟨by rfl, rfl⟩) hHeld ?_
     try simp only [putU]
     refine wpAnyH_take (i := 6) (v := undef) rfl (by kernel_rfl) (by kernel_rfl) (by kernel_rfl) (fun _ _ _ h => h) (Or.inr ⟨by rfl, rfl⟩) hHeld ?_
     try simp only [putU]
     refine wpAnyH_take (i := 7) (v := ?_) rfl (by kernel_rfl) (by kernel_rfl) (by kernel_rfl) (fun _ _ _ h => h) (Or.inl ⟨by rfl, ?_⟩) hHeld ?_
     rotate_left
     ·(intro w hSw; (try dsimp only at hSw); go_simp) <;> with_reducible rfl
     try simp only [putU]
     refine wpAnyH_take (i := 8) (v := ?_) rfl (by kernel_rfl) (by kernel_rfl) (by kernel_rfl) (fun _ _ _ h => h) (Or.inl ⟨by rfl, ?_⟩) hHeld ?_
     rotate_left
     ·(intro w hSw; (try dsimp only at hSw); go_simp) <;> with_reducible rfl
     try simp only [putU]
     refine wpAnyH_take (i := 9) (v := undef) rfl (by kernel_rfl) (by kernel_rfl) (by kernel_rfl) (fun _ _ _ h => h) (Or.inr ⟨by rfl, rfl⟩) hHeld ?_
     try simp only [putU]
     refine wpAnyH_take (i := 10) (v := undef) rfl (by kernel_rfl) (by kernel_rfl) (by kernel_rfl) (fun _ _ _ h => h) (Or.inr ⟨by rfl, rfl⟩) hHeld ?_
     try simp only [putU]
     refine wpAnyH_take (i := 11) (v := undef) rfl (by kernel_rfl) (by kernel_rfl) (by kernel_rfl) (fun _ _ _ h => h) (Or.inr ⟨by rfl, rfl⟩) hHeld ?_
     try simp only [putU]
     refine wpAnyH_take (i := 12) (v := undef) rfl (by kernel_rfl) (by kernel_rfl) (by kernel_rfl) (fun _ _ _ h => h) (Or.inr ⟨by rfl, rfl⟩) hHeld ?_
     try simp only [putU]
     refine wpAnyH_take (i := 13) (v := undef) rfl (by kernel_rfl) (by kernel_rfl) (by kernel_rfl) (fun _ _ _ h => h) (Or.inr ⟨by rfl, rfl⟩) hHeld ?_
     try simp only [putU]
     refine wpAnyH_take (i := 14) (v := undef) rfl (by kernel_rfl) (by kernel_rfl) (by kernel_rfl) (fun _ _ _ h => h) (Or.inr ⟨by rfl, rfl⟩) hHeld ?_
     try simp only [putU]
     refine wpAnyH_take (i := 15) (v := undef) rfl (by kernel_rfl) (by kernel_rfl) (by kernel_rfl) (fun _ _ _ h => h) (Or.inr ⟨by rfl, rfl⟩) hHeld ?_
     try simp only [putU]
     refine wpAnyH_take (i := 16) (v := undef) rfl (by kernel_rfl) (by kernel_rfl) (by kernel_rfl) (fun _ _ _ h => h) (Or.inr ⟨by rfl, rfl⟩) hHeld ?_
     try simp only [putU]
     refine wpAnyH_take (i := 17) (v := undef) rfl (by kernel_rfl) (by kernel_rfl) (by kernel_rfl) (fun _ _ _ h => h) (Or.inr ⟨by rfl, rfl⟩) hHeld ?_
     try simp only [putU]
     refine wpAnyH_take (i := 18) (v := undef) rfl (by kernel_rfl) (by kernel_rfl) (by kernel_rfl) (fun _ _ _ h => h) (Or.inr ⟨by rfl, rfl⟩) hHeld ?_
     try simp only [putU]
     refine wpAnyH_take (i := 19) (v := undef) rfl (by kernel_rfl) (by kernel_rfl) (by kernel_rfl) (fun _ _ _ h => h) (Or.inr ⟨by rfl, rfl⟩) hHeld ?_
     try simp only [putU]
     refine wpAnyH_take (i := 20) (v := undef) rfl (by kernel_rfl) (by kernel_rfl) (by kernel_rfl) (fun _ _ _ h => h) (Or.inr ⟨by rfl, rfl⟩) hHeld ?_
     try simp only [putU]
     refine wpAnyH_take (i := 21) (v := undef) rfl (by kernel_rfl) (by kernel_rfl) (by kernel_rfl) (fun _ _ _ h => h) (Or.inr ⟨by rfl, rfl⟩) hHeld ?_
     try simp only [putU]
     refine wpAnyH_take (i := 22) (v := undef) rfl (by kernel_rfl) (by kernel_rfl) (by kernel_rfl) (fun _ _ _ h => h) (Or.inr ⟨by rfl, rfl⟩) hHeld ?_
     try simp only [putU]
     refine wpAnyH_take (i := 23) (v := undef) rfl (by kernel_rfl) (by kernel_rfl) (by kernel_rfl) (fun _ _ _ h => h) (Or.inr ⟨by rfl, rfl⟩) hHeld ?_
     try simp only [putU]
     refine wpAnyH_take (i := 24) (v := undef) rfl (by kernel_rfl) (by kernel_rfl) (by kernel_rfl) (fun _ _ _ h => h) (Or.inr ⟨by rfl, rfl⟩) hHeld ?_
     try simp only [putU]
     refine wpAnyH_take (i := 25) (v := ?_) rfl (by kernel_rfl) (by kernel_rfl) (by kernel_rfl) (fun _ _ _ h => h) (Or.inl ⟨by rfl, ?_⟩) hHeld ?_
     rotate_left
     ·(intro w hSw; (try dsimp only at hSw); go_simp) <;> with_reducible rfl
     try simp only [putU]
     refine wpAnyH_take (i := 26) (v := ?_) rfl (by kernel_rfl) (by kernel_rfl) (by kernel_rfl) (fun _ _ _ h => h) (Or.inl ⟨by rfl, ?_⟩) hHeld ?_
     rotate_left
     ·(intro w hSw; (try dsimp only at hSw); go_simp) <;> with_reducible rfl
     try simp only [putU]
     refine wpAnyH_take (i := 27) (v := undef) rfl (by kernel_rfl) (by kernel_rfl) (by kernel_rfl) (fun _ _ _ h => h) (Or.inr ⟨by rfl, rfl⟩) hHeld ?_
     try simp only [putU]
     refine wpAnyH_take (i := 28) (v := undef) rfl (by kernel_rfl) (by kernel_rfl) (by kernel_rfl) (fun _ _ _ h => h) (Or.inr ⟨by rfl, rfl⟩) hHeld ?_
     try simp only [putU]
     refine wpAnyH_take (i := 29) (v := undef) rfl (by kernel_rfl) (by kernel_rfl) (by kernel_rfl) (fun _ _ _ h => h) (Or.inr ⟨by rfl, rfl⟩) hHeld ?_
     try simp only [putU]
     refine wpAnyH_take (i := 30) (v := undef) rfl (by kernel_rfl) (by kernel_rfl) (by kernel_rfl) (fun _ _ _ h => h) (Or.inr ⟨by rfl, rfl⟩) hHeld ?_
     try simp only [putU]
     refine wpAnyH_take (i := 31) (v := undef) rfl (by kernel_rfl) (by kernel_rfl) (by kernel_rfl) (fun _ _ _ h => h) (Or.inr ⟨by rfl, rfl⟩) hHeld ?_
     try simp only [putU]
     refine wpAnyH_take (i := 32) (v := undef) rfl (by kernel_rfl) (by kernel_rfl) (by kernel_rfl) (fun _ _ _ h => h) (Or.inr ⟨by rfl, rfl⟩) hHeld ?_
     try simp only [putU]
     refine wpAnyH_take (i := 33) (v := undef) rfl (by kernel_rfl) (by kernel_rfl) (by kernel_rfl) (fun _ _ _ h => h) (Or.inr ⟨by rfl, rfl⟩) hHeld ?_
     try simp only [putU]
     refine wpAnyH_take (i := 34) (v := ?_) rfl (by kernel_rfl) (by kernel_rfl) (by kernel_rfl) (fun _ _ _ h => h) (Or.inl ⟨by rfl, ?_⟩) hHeld ?_
     rotate_left
     ·(intro w hSw; (try dsimp only at hSw); go_simp) <;> with_reducible rfl
     try simp only [putU]
     have HS := hid HR0.out.drew
     clear hHeld
     refine anyH_world (fun w => Hid (S w0 w _)) HS (fun w1 HS => ?_)
     refine wpAnyH_done (by kernel_rfl) ?_ _
     go_wp2_with fail
     go_meet
     exact ⟨by rw [HSK.out] <;> rfl, HS.out⟩
    have hne := HBNE.out hmi
    have hq11 := fun W M h => And.intro (eqlT_other (S.tail (S.tail (S.tail h))) HI1.out HJ.out hne) (HQ10.out W M h)
    have HQ11 := hid hq11
    clear HBNE hne hq11 HQ10
    cases st with
    | false =>
     have HSK : Hid (skips e1 i key m = true) := hid (by rw [HSK0.out]; simp)
     clear HSK0 hmi
     refine wp_region_held_drew (S := fun w' => (binOp .eql 120 (.pointer (some ⟨blkOf bs m, 0, none⟩)) (.pointer (some ⟨blkOf bs i, 0, none⟩))).run Tryz.prog w' = .ok (.bool false) w' ∧ w'.cell? ⟨blkOf bs m, 1, none⟩ = some (.int .i64 stj) ∧ w'.cell? ⟨blkOf bs m, 4, none⟩ = some (.int .i64 enj) ∧ w'.cell? ⟨blkOf bs i, 3, none⟩ = some (.int .i64 bgi) ∧ w'.cell? ⟨blkOf bs m, 5, none⟩ = some rvj) (by kernel_rfl) (HQ11.out _ _ HR0.out.drew) (fun hHeld => ?_)
     refine wpAnyH_take (i := 0) (v := ?_) rfl (by kernel_rfl) (by kernel_rfl) (by kernel_rfl) (fun _ _ _ h => h) (Or.inl ⟨by rfl, ?_⟩) hHeld ?_
     rotate_left
     ·(intro w hSw; (try dsimp only at hSw); go_simp) <;> with_reducible rfl
     try simp only [putU]
     refine wpAnyH_take (i := 1) (v := ?_) rfl (by kernel_rfl) (by kernel_rfl) (by kernel_rfl) (fun _ _ _ h => h) (Or.inl ⟨by rfl, ?_⟩) hHeld ?_
     rotate_left
     ·(intro w hSw; (try dsimp only at hSw); go_simp) <;> with_reducible rfl
     try simp only [putU]
     refine wpAnyH_take (i := 2) (v := ?_) rfl (by kernel_rfl) (by kernel_rfl) (by kernel_rfl) (fun _ _ _ h => h) (Or.inl ⟨by rfl, ?_⟩) hHeld ?_
     rotate_left
     ·(intro w hSw; (try dsimp only at hSw); go_simp) <;> with_reducible rfl
     try simp only [putU]
     refine wpAnyH_take (i := 3) (v := ?_) rfl (by kernel_rfl) (by kernel_rfl) (by kernel_rfl) (fun _ _ _ h => h) (Or.inl ⟨by rfl, ?_⟩) hHeld ?_
     rotate_left
     ·(intro w hSw; (try dsimp only at hSw); go_simp) <;> with_reducible rfl
     try simp only [putU]
     refine wpAnyH_take (i := 4) (v := ?_) rfl (by kernel_rfl) (by kernel_rfl) (by kernel_rfl) (fun _ _ _ h => h) (Or.inl ⟨by rfl, ?_⟩) hHeld ?_
     rotate_left
     ·(intro w hSw; (try dsimp only at hSw); go_simp) <;> with_reducible rfl
     try simp only [putU]
     have HS := hid HR0.out.drew
     clear hHeld
     refine anyH_world (fun w => Hid (S w0 w _)) HS (fun w1 HS => ?_)
     refine wpAnyH_ready (rs := [5]) (by kernel_rfl) (by simp) ?_
     refine AllReadyH.cons rfl (fun K hK => ?_) ?_
     ·go_simp
      go_wp2_with (go_at_call 82; with_reducible refine (HSTR.out _ HS.out).mono ?_; rintro r w' ⟨rfl, rfl⟩)
      refine hK.out _ _ (HQ11.out _ _ HS.out) (fun _ => ?_)
      clear hK K
      refine wpAnyH_take (i := 6) (v := ?_) rfl (by kernel_rfl) (by kernel_rfl) (by kernel_rfl) (fun _ _ _ h => h) (Or.inl ⟨by rfl, ?_⟩) (HQ11.out _ _ HS.out) ?_
      rotate_left
      ·(intro w hSw; (try dsimp only at hSw); go_simp) <;> with_reducible rfl
      try simp only [putU]
      refine wpAnyH_take (i := 7) (v := ?_) rfl (by kernel_rfl) (by kernel_rfl) (by kernel_rfl) (fun _ _ _ h => h) (Or.inl ⟨by rfl, ?_⟩) (HQ11.out _ _ HS.out) ?_
      rotate_left
      ·(intro w hSw; (try dsimp only at hSw); go_simp) <;> with_reducible rfl
      try simp only [putU]
      refine wpAnyH_take (i := 8) (v := ?_) rfl (by kernel_rfl) (by kernel_rfl) (by kernel_rfl) (fun _ _ _ h => h) (Or.inl ⟨by rfl, ?_⟩) (HQ11.out _ _ HS.out) ?_
      rotate_left
      ·(intro w hSw; (try dsimp only at hSw); go_simp) <;> with_reducible rfl
      try simp only [putU]
      refine wpAnyH_take (i := 9) (v := undef) rfl (by kernel_rfl) (by kernel_rfl) (by kernel_rfl) (fun _ _ _ h => h) (Or.inr ⟨by rfl, rfl⟩) (HQ11.out _ _ HS.out) ?_
      try simp only [putU]
      refine wpAnyH_take (i := 10) (v := undef) rfl (by kernel_rfl) (by kernel_rfl) (by kernel_rfl) (fun _ _ _ h => h) (Or.inr ⟨by rfl, rfl⟩) (HQ11.out _ _ HS.out) ?_
      try simp only [putU]
      refine wpAnyH_take (i := 11) (v := undef) rfl (by kernel_rfl) (by kernel_rfl) (by kernel_rfl) (fun _ _ _ h => h) (Or.inr ⟨by rfl, rfl⟩) (HQ11.out _ _ HS.out) ?_
      try simp only [putU]
      refine wpAnyH_take (i := 12) (v := undef) rfl (by kernel_rfl) (by kernel_rfl) (by kernel_rfl) (fun _ _ _ h => h) (Or.inr ⟨by rfl, rfl⟩) (HQ11.out _ _ HS.out) ?_
      try simp only [putU]
      refine wpAnyH_take (i := 13) (v := undef) rfl (by kernel_rfl) (by kernel_rfl) (by kernel_rfl) (fun _ _ _ h => h) (Or.inr ⟨by rfl, rfl⟩) (HQ11.out _ _ HS.out) ?_
      try simp only [putU]
      refine wpAnyH_take (i := 14) (v := undef) rfl (by kernel_rfl) (by kernel_rfl) (by kernel_rfl) (fun _ _ _ h => h) (Or.inr ⟨by rfl, rfl⟩) (HQ11.out _ _ HS.out) ?_
      try simp only [putU]
      refine wpAnyH_take (i := 15) (v := undef) rfl (by kernel_rfl) (by kernel_rfl) (by kernel_rfl) (fun _ _ _ h => h) (Or.inr ⟨by rfl, rfl⟩) (HQ11.out _ _ HS.out) ?_
      try simp only [putU]
      refine wpAnyH_take (i := 16) (v := undef) rfl (by kernel_rfl) (by kernel_rfl) (by kernel_rfl) (fun _ _ _ h => h) (Or.inr ⟨by rfl, rfl⟩) (HQ11.out _ _ HS.out) ?_
      try simp only [putU]
      refine wpAnyH_take (i := 17) (v := undef) rfl (by kernel_rfl) (by kernel_rfl) (by kernel_rfl) (fun _ _ _ h => h) (Or.inr ⟨by rfl, rfl⟩) (HQ11.out _ _ HS.out) ?_
      try simp only [putU]
      refine wpAnyH_take (i := 18) (v := undef) rfl (by kernel_rfl) (by kernel_rfl) (by kernel_rfl) (fun _ _ _ h => h) (Or.inr ⟨by rfl, rfl⟩) (HQ11.out _ _ HS.out) ?_
      try simp only [putU]
      refine wpAnyH_take (i := 19) (v := undef) rfl (by kernel_rfl) (by kernel_rfl) (by kernel_rfl) (fun _ _ _ h => h) (Or.inr ⟨by rfl, rfl⟩) (HQ11.out _ _ HS.out) ?_
      try simp only [putU]
      refine wpAnyH_take (i := 20) (v := undef) rfl (by kernel_rfl) (by kernel_rfl) (by kernel_rfl) (fun _ _ _ h => h) (Or.inr ⟨by rfl, rfl⟩) (HQ11.out _ _ HS.out) ?_
      try simp only [putU]
      refine wpAnyH_take (i := 21) (v := undef) rfl (by kernel_rfl) (by kernel_rfl) (by kernel_rfl) (fun _ _ _ h => h) (Or.inr ⟨by rfl, rfl⟩) (HQ11.out _ _ HS.out) ?_
      try simp only [putU]
      refine wpAnyH_take (i := 22) (v := undef) rfl (by kernel_rfl) (by kernel_rfl) (by kernel_rfl) (fun _ _ _ h => h) (Or.inr ⟨by rfl, rfl⟩) (HQ11.out _ _ HS.out) ?_
      try simp only [putU]
      refine wpAnyH_take (i := 23) (v := undef) rfl (by kernel_rfl) (by kernel_rfl) (by kernel_rfl) (fun _ _ _ h => h) (Or.inr ⟨by rfl, rfl⟩) (HQ11.out _ _ HS.out) ?_
      try simp only [putU]
      refine wpAnyH_take (i := 24) (v := undef) rfl (by kernel_rfl) (by kernel_rfl) (by kernel_rfl) (fun _ _ _ h => h) (Or.inr ⟨by rfl, rfl⟩) (HQ11.out _ _ HS.out) ?_
      try simp only [putU]
      refine wpAnyH_take (i := 25) (v := ?_) rfl (by kernel_rfl) (by kernel_rfl) (by kernel_rfl) (fun _ _ _ h => h) (Or.inl ⟨by rfl, ?_⟩) (HQ11.out _ _ HS.out) ?_
      rotate_left
      ·(intro w hSw; (try dsimp only at hSw); go_simp) <;> with_reducible rfl
      try simp only [putU]
      refine wpAnyH_take (i := 26) (v := ?_) rfl (by kernel_rfl) (by kernel_rfl) (by kernel_rfl) (fun _ _ _ h => h) (Or.inl ⟨by rfl, ?_⟩) (HQ11.out _ _ HS.out) ?_
      rotate_left
      ·(intro w hSw; (try dsimp only at hSw); go_simp) <;> with_reducible rfl
      try simp only [putU]
      refine wpAnyH_take (i := 27) (v := undef) rfl (by kernel_rfl) (by kernel_rfl) (by kernel_rfl) (fun _ _ _ h => h) (Or.inr ⟨by rfl, rfl⟩) (HQ11.out _ _ HS.out) ?_
      try simp only [putU]
      refine wpAnyH_take (i := 28) (v := undef) rfl (by kernel_rfl) (by kernel_rfl) (by kernel_rfl) (fun _ _ _ h => h) (Or.inr ⟨by rfl, rfl⟩) (HQ11.out _ _ HS.out) ?_
      try simp only [putU]
      refine wpAnyH_take (i := 29) (v := undef) rfl (by kernel_rfl) (by kernel_rfl) (by kernel_rfl) (fun _ _ _ h => h) (Or.inr ⟨by rfl, rfl⟩) (HQ11.out _ _ HS.out) ?_
      try simp only [putU]
      refine wpAnyH_take (i := 30) (v := undef) rfl (by kernel_rfl) (by kernel_rfl) (by kernel_rfl) (fun _ _ _ h => h) (Or.inr ⟨by rfl, rfl⟩) (HQ11.out _ _ HS.out) ?_
      try simp only [putU]
      refine wpAnyH_take (i := 31) (v := undef) rfl (by kernel_rfl) (by kernel_rfl) (by kernel_rfl) (fun _ _ _ h => h) (Or.inr ⟨by rfl, rfl⟩) (HQ11.out _ _ HS.out) ?_
      try simp only [putU]
      refine wpAnyH_take (i := 32) (v := undef) rfl (by kernel_rfl) (by kernel_rfl) (by kernel_rfl) (fun _ _ _ h => h) (Or.inr ⟨by rfl, rfl⟩) (HQ11.out _ _ HS.out) ?_
      try simp only [putU]
      refine wpAnyH_take (i := 33) (v := undef) rfl (by kernel_rfl) (by kernel_rfl) (by kernel_rfl) (fun _ _ _ h => h) (Or.inr ⟨by rfl, rfl⟩) (HQ11.out _ _ HS.out) ?_
      try simp only [putU]
      refine wpAnyH_take (i := 34) (v := ?_) rfl (by kernel_rfl) (by kernel_rfl) (by kernel_rfl) (fun _ _ _ h => h) (Or.inl ⟨by rfl, ?_⟩) (HQ11.out _ _ HS.out) ?_
      rotate_left
      ·(intro w hSw; (try dsimp only at hSw); go_simp) <;> with_reducible rfl
      try simp only [putU]
      refine wpAnyH_done (by kernel_rfl) ?_ _
      go_wp2_with fail
      go_meet
      exact ⟨by rw [HSK.out] <;> rfl, HS.out⟩
     exact AllReadyH.nil
    | true =>
     by_cases h3 : stj = 2
     ·subst h3
      by_cases h4 : enj < bgi
      ·have HSK : Hid (skips e1 i key m = true) := hid (by rw [HSK0.out]; simp [h4])
       have hb4 : decide (enj < bgi) = true := decide_eq_true h4
       clear HSK0 hmi h4
       refine wp_region_held_drew (S := fun w' => (binOp .eql 120 (.pointer (some ⟨blkOf bs m, 0, none⟩)) (.pointer (some ⟨blkOf bs i, 0, none⟩))).run Tryz.prog w' = .ok (.bool false) w' ∧ w'.cell? ⟨blkOf bs m, 1, none⟩ = some (.int .i64 2) ∧ w'.cell? ⟨blkOf bs m, 4, none⟩ = some (.int .i64 enj) ∧ w'.cell? ⟨blkOf bs i, 3, none⟩ = some (.int .i64 bgi) ∧ w'.cell? ⟨blkOf bs m, 5, none⟩ = some rvj) (by kernel_rfl) (HQ11.out _ _ HR0.out.drew) (fun hHeld => ?_)
       refine wpAnyH_take (i := 0) (v := ?_) rfl (by kernel_rfl) (by kernel_rfl) (by kernel_rfl) (fun _ _ _ h => h) (Or.inl ⟨by rfl, ?_⟩) hHeld ?_
       rotate_left
       ·(intro w hSw; (try dsimp only at hSw); go_simp) <;> with_reducible rfl
       try simp only [putU]
       refine wpAnyH_take (i := 1) (v := ?_) rfl (by kernel_rfl) (by kernel_rfl) (by kernel_rfl) (fun _ _ _ h => h) (Or.inl ⟨by rfl, ?_⟩) hHeld ?_
       rotate_left
       ·(intro w hSw; (try dsimp only at hSw); go_simp) <;> with_reducible rfl
       try simp only [putU]
       refine wpAnyH_take (i := 2) (v := ?_) rfl (by kernel_rfl) (by kernel_rfl) (by kernel_rfl) (fun _ _ _ h => h) (Or.inl ⟨by rfl, ?_⟩) hHeld ?_
       rotate_left
       ·(intro w hSw; (try dsimp only at hSw); go_simp) <;> with_reducible rfl
       try simp only [putU]
       refine wpAnyH_take (i := 3) (v := ?_) rfl (by kernel_rfl) (by kernel_rfl) (by kernel_rfl) (fun _ _ _ h => h) (Or.inl ⟨by rfl, ?_⟩) hHeld ?_
       rotate_left
       ·(intro w hSw; (try dsimp only at hSw); go_simp) <;> with_reducible rfl
       try simp only [putU]
       refine wpAnyH_take (i := 4) (v := ?_) rfl (by kernel_rfl) (by kernel_rfl) (by kernel_rfl) (fun _ _ _ h => h) (Or.inl ⟨by rfl, ?_⟩) hHeld ?_
       rotate_left
       ·(intro w hSw; (try dsimp only at hSw); go_simp) <;> with_reducible rfl
       try simp only [putU]
       have HS := hid HR0.out.drew
       clear hHeld
       refine anyH_world (fun w => Hid (S w0 w _)) HS (fun w1 HS => ?_)
       refine wpAnyH_ready (rs := [5]) (by kernel_rfl) (by simp) ?_
       refine AllReadyH.cons rfl (fun K hK => ?_) ?_
       ·go_simp
        go_wp2_with (go_at_call 82; with_reducible refine (HSTR.out _ HS.out).mono ?_; rintro r w' ⟨rfl, rfl⟩)
        refine hK.out _ _ (HQ11.out _ _ HS.out) (fun _ => ?_)
        clear hK K
        refine wpAnyH_take (i := 6) (v := ?_) rfl (by kernel_rfl) (by kernel_rfl) (by kernel_rfl) (fun _ _ _ h => h) (Or.inl ⟨by rfl, ?_⟩) (HQ11.out _ _ HS.out) ?_
        rotate_left
        ·(intro w hSw; (try dsimp only at hSw); go_simp) <;> with_reducible rfl
        try simp only [putU]
        refine wpAnyH_take (i := 7) (v := ?_) rfl (by kernel_rfl) (by kernel_rfl) (by kernel_rfl) (fun _ _ _ h => h) (Or.inl ⟨by rfl, ?_⟩) (HQ11.out _ _ HS.out) ?_
        rotate_left
        ·(intro w hSw; (try dsimp only at hSw); go_simp) <;> with_reducible rfl
        try simp only [putU]
        refine wpAnyH_take (i := 8) (v := ?_) rfl (by kernel_rfl) (by kernel_rfl) (by kernel_rfl) (fun _ _ _ h => h) (Or.inl ⟨by rfl, ?_⟩) (HQ11.out _ _ HS.out) ?_
        rotate_left
        ·(intro w hSw; (try dsimp only at hSw); go_simp) <;> with_reducible rfl
        try simp only [putU]
        refine wpAnyH_take (i := 9) (v := ?_) rfl (by kernel_rfl) (by kernel_rfl) (by kernel_rfl) (fun _ _ _ h => h) (Or.inl ⟨by rfl, ?_⟩) (HQ11.out _ _ HS.out) ?_
        rotate_left
        ·(intro w hSw; (try dsimp only at hSw); go_simp) <;> with_reducible rfl
        try simp only [putU]
        refine wpAnyH_take (i := 10) (v := ?_) rfl (by kernel_rfl) (by kernel_rfl) (by kernel_rfl) (fun _ _ _ h => h) (Or.inl ⟨by rfl, ?_⟩) (HQ11.out _ _ HS.out) ?_
        rotate_left
        ·(intro w hSw; (try dsimp only at hSw); go_simp) <;> with_reducible rfl
        try simp only [putU]
        refine wpAnyH_take (i := 11) (v := ?_) rfl (by kernel_rfl) (by kernel_rfl) (by kernel_rfl) (fun _ _ _ h => h) (Or.inl ⟨by rfl, ?_⟩) (HQ11.out _ _ HS.out) ?_
        rotate_left
        ·(intro w hSw; (try dsimp only at hSw); go_simp) <;> with_reducible rfl
        try simp only [putU]
        refine wpAnyH_take (i := 12) (v := ?_) rfl (by kernel_rfl) (by kernel_rfl) (by kernel_rfl) (fun _ _ _ h => h) (Or.inl ⟨by rfl, ?_⟩) (HQ11.out _ _ HS.out) ?_
        rotate_left
        ·(intro w hSw; (try dsimp only at hSw); go_simp) <;> with_reducible rfl
        try simp only [putU]
        refine wpAnyH_take (i := 13) (v := ?_) rfl (by kernel_rfl) (by kernel_rfl) (by kernel_rfl) (fun _ _ _ h => h) (Or.inl ⟨by rfl, ?_⟩) (HQ11.out _ _ HS.out) ?_
        rotate_left
        ·(intro w hSw; (try dsimp only at hSw); go_simp) <;> with_reducible rfl
        try simp only [putU]
        refine wpAnyH_take (i := 14) (v := ?_) rfl (by kernel_rfl) (by kernel_rfl) (by kernel_rfl) (fun _ _ _ h => h) (Or.inl ⟨by rfl, ?_⟩) (HQ11.out _ _ HS.out) ?_
        rotate_left
        ·(intro w hSw; (try dsimp only at hSw); go_simp) <;> with_reducible rfl
        try simp only [putU]
        refine wpAnyH_take (i := 15) (v := ?_) rfl (by kernel_rfl) (by kernel_rfl) (by kernel_rfl) (fun _ _ _ h => h) (Or.inl ⟨by rfl, ?_⟩) (HQ11.out _ _ HS.out) ?_
        rotate_left
        ·(intro w hSw; (try dsimp only at hSw); go_simp) <;> with_reducible rfl
        try simp only [putU]
        refine wpAnyH_take (i := 16) (v := ?_) rfl (by kernel_rfl) (by kernel_rfl) (by kernel_rfl) (fun _ _ _ h => h) (Or.inl ⟨by rfl, ?_⟩) (HQ11.out _ _ HS.out) ?_
        rotate_left
        ·(intro w hSw; (try dsimp only at hSw); go_simp) <;> with_reducible rfl
        try simp only [putU]
        refine wpAnyH_take (i := 17) (v := ?_) rfl (by kernel_rfl) (by kernel_rfl) (by kernel_rfl) (fun _ _ _ h => h) (Or.inl ⟨by rfl, ?_⟩) (HQ11.out _ _ HS.out) ?_
        rotate_left
        ·(intro w hSw; (try dsimp only at hSw); go_simp) <;> with_reducible rfl
        try simp only [putU]
        refine wpAnyH_take (i := 18) (v := ?_) rfl (by kernel_rfl) (by kernel_rfl) (by kernel_rfl) (fun _ _ _ h => h) (Or.inl ⟨by rfl, ?_⟩) (HQ11.out _ _ HS.out) ?_
        rotate_left
        ·(intro w hSw; (try dsimp only at hSw); go_simp) <;> with_reducible rfl
        try simp only [putU]
        refine wpAnyH_take (i := 19) (v := ?_) rfl (by kernel_rfl) (by kernel_rfl) (by kernel_rfl) (fun _ _ _ h => h) (Or.inl ⟨by rfl, ?_⟩) (HQ11.out _ _ HS.out) ?_
        rotate_left
        ·(intro w hSw; (try dsimp only at hSw); go_simp) <;> with_reducible rfl
        try simp only [putU]
        refine wpAnyH_take (i := 20) (v := ?_) rfl (by kernel_rfl) (by kernel_rfl) (by kernel_rfl) (fun _ _ _ h => h) (Or.inl ⟨by rfl, ?_⟩) (HQ11.out _ _ HS.out) ?_
        rotate_left
        ·(intro w hSw; (try dsimp only at hSw); go_simp) <;> with_reducible rfl
        try simp only [putU]
        refine wpAnyH_take (i := 21) (v := ?_) rfl (by kernel_rfl) (by kernel_rfl) (by kernel_rfl) (fun _ _ _ h => h) (Or.inl ⟨by rfl, ?_⟩) (HQ11.out _ _ HS.out) ?_
        rotate_left
        ·(intro w hSw; (try dsimp only at hSw); go_simp) <;> with_reducible rfl
        try simp only [putU]
        refine wpAnyH_take (i := 22) (v := ?_) rfl (by kernel_rfl) (by kernel_rfl) (by kernel_rfl) (fun _ _ _ h => h) (Or.inl ⟨by rfl, ?_⟩) (HQ11.out _ _ HS.out) ?_
        rotate_left
        ·(intro w hSw; (try dsimp only at hSw); go_simp) <;> with_reducible rfl
        try simp only [putU]
        refine wpAnyH_take (i := 23) (v := ?_) rfl (by kernel_rfl) (by kernel_rfl) (by kernel_rfl) (fun _ _ _ h => h) (Or.inl ⟨by rfl, ?_⟩) (HQ11.out _ _ HS.out) ?_
        rotate_left
        ·(intro w hSw; (try dsimp only at hSw); go_simp) <;> with_reducible rfl
        try simp only [putU]
        refine wpAnyH_take (i := 24) (v := ?_) rfl (by kernel_rfl) (by kernel_rfl) (by kernel_rfl) (fun _ _ _ h => h) (Or.inl ⟨by rfl, ?_⟩) (HQ11.out _ _ HS.out) ?_
        rotate_left
        ·(intro w hSw; (try dsimp only at hSw); go_simp) <;> with_reducible rfl
        try simp only [putU]
        refine wpAnyH_take (i := 25) (v := ?_) rfl (by kernel_rfl) (by kernel_rfl) (by kernel_rfl) (fun _ _ _ h => h) (Or.inl ⟨by rfl, ?_⟩) (HQ11.out _ _ HS.out) ?_
        rotate_left
        ·(intro w hSw; (try dsimp only at hSw); go_simp) <;> with_reducible rfl
        try simp only [putU]
        refine wpAnyH_take (i := 26) (v := ?_) rfl (by kernel_rfl) (by kernel_rfl) (by kernel_rfl) (fun _ _ _ h => h) (Or.inl ⟨by rfl, ?_⟩) (HQ11.out _ _ HS.out) ?_
        rotate_left
        ·(intro w hSw; (try dsimp only at hSw); go_simp) <;> with_reducible rfl
        try simp only [putU]
        refine wpAnyH_take (i := 27) (v := undef) rfl (by kernel_rfl) (by kernel_rfl) (by kernel_rfl) (fun _ _ _ h => h) (Or.inr ⟨by rfl, rfl⟩) (HQ11.out _ _ HS.out) ?_
        try simp only [putU]
        refine wpAnyH_take (i := 28) (v := undef) rfl (by kernel_rfl) (by kernel_rfl) (by kernel_rfl) (fun _ _ _ h => h) (Or.inr ⟨by rfl, rfl⟩) (HQ11.out _ _ HS.out) ?_
        try simp only [putU]
        refine wpAnyH_take (i := 29) (v := undef) rfl (by kernel_rfl) (by kernel_rfl) (by kernel_rfl) (fun _ _ _ h => h) (Or.inr ⟨by rfl, rfl⟩) (HQ11.out _ _ HS.out) ?_
        try simp only [putU]
        refine wpAnyH_take (i := 30) (v := undef) rfl (by kernel_rfl) (by kernel_rfl) (by kernel_rfl) (fun _ _ _ h => h) (Or.inr ⟨by rfl, rfl⟩) (HQ11.out _ _ HS.out) ?_
        try simp only [putU]
        refine wpAnyH_take (i := 31) (v := undef) rfl (by kernel_rfl) (by kernel_rfl) (by kernel_rfl) (fun _ _ _ h => h) (Or.inr ⟨by rfl, rfl⟩) (HQ11.out _ _ HS.out) ?_
        try simp only [putU]
        refine wpAnyH_take (i := 32) (v := undef) rfl (by kernel_rfl) (by kernel_rfl) (by kernel_rfl) (fun _ _ _ h => h) (Or.inr ⟨by rfl, rfl⟩) (HQ11.out _ _ HS.out) ?_
        try simp only [putU]
        refine wpAnyH_take (i := 33) (v := undef) rfl (by kernel_rfl) (by kernel_rfl) (by kernel_rfl) (fun _ _ _ h => h) (Or.inr ⟨by rfl, rfl⟩) (HQ11.out _ _ HS.out) ?_
        try simp only [putU]
        refine wpAnyH_take (i := 34) (v := ?_) rfl (by kernel_rfl) (by kernel_rfl) (by kernel_rfl) (fun _ _ _ h => h) (Or.inl ⟨by rfl, ?_⟩) (HQ11.out _ _ HS.out) ?_
        rotate_left
        ·(intro w hSw; (try dsimp only at hSw); go_simp) <;> with_reducible rfl
        try simp only [putU]
        refine wpAnyH_done (by kernel_rfl) ?_ _
        go_wp2_with fail
        go_meet
        exact ⟨by rw [HSK.out] <;> rfl, HS.out⟩
       exact AllReadyH.nil
      ·have HSK : Hid (skips e1 i key m = !sk) := hid (by rw [HSK0.out]; simp [h4, hmi])
       have hb4 : decide (enj < bgi) = false := decide_eq_false h4
       clear HSK0 hmi h4
       refine wp_region_held_drew (S := fun w' => (binOp .eql 120 (.pointer (some ⟨blkOf bs m, 0, none⟩)) (.pointer (some ⟨blkOf bs i, 0, none⟩))).run Tryz.prog w' = .ok (.bool false) w' ∧ w'.cell? ⟨blkOf bs m, 1, none⟩ = some (.int .i64 2) ∧ w'.cell? ⟨blkOf bs m, 4, none⟩ = some (.int .i64 enj) ∧ w'.cell? ⟨blkOf bs i, 3, none⟩ = some (.int .i64 bgi) ∧ w'.cell? ⟨blkOf bs m, 5, none⟩ = some rvj) (by kernel_rfl) (HQ11.out _ _ HR0.out.drew) (fun hHeld => ?_)
       refine wpAnyH_take (i := 0) (v := ?_) rfl (by kernel_rfl) (by kernel_rfl) (by kernel_rfl) (fun _ _ _ h => h) (Or.inl ⟨by rfl, ?_⟩) hHeld ?_
       rotate_left
       ·(intro w hSw; (try dsimp only at hSw); go_simp) <;> with_reducible rfl
       try simp only [putU]
       refine wpAnyH_take (i := 1) (v := ?_) rfl (by kernel_rfl) (by kernel_rfl) (by kernel_rfl) (fun _ _ _ h => h) (Or.inl ⟨by rfl, ?_⟩) hHeld ?_
       rotate_left
       ·(intro w hSw; (try dsimp only at hSw); go_simp) <;> with_reducible rfl
       try simp only [putU]
       refine wpAnyH_take (i := 2) (v := ?_) rfl (by kernel_rfl) (by kernel_rfl) (by kernel_rfl) (fun _ _ _ h => h) (Or.inl ⟨by rfl, ?_⟩) hHeld ?_
       rotate_left
       ·(intro w hSw; (try dsimp only at hSw); go_simp) <;> with_reducible rfl
       try simp only [putU]
       refine wpAnyH_take (i := 3) (v := ?_) rfl (by kernel_rfl) (by kernel_rfl) (by kernel_rfl) (fun _ _ _ h => h) (Or.inl ⟨by rfl, ?_⟩) hHeld ?_
       rotate_left
       ·(intro w hSw; (try dsimp only at hSw); go_simp) <;> with_reducible rfl
       try simp only [putU]
       refine wpAnyH_take (i := 4) (v := ?_) rfl (by kernel_rfl) (by kernel_rfl) (by kernel_rfl) (fun _ _ _ h => h) (Or.inl ⟨by rfl, ?_⟩) hHeld ?_
       rotate_left
       ·(intro w hSw; (try dsimp only at hSw); go_simp) <;> with_reducible rfl
       try simp only [putU]
       have HS := hid HR0.out.drew
       clear hHeld
       refine anyH_world (fun w => Hid (S w0 w _)) HS (fun w1 HS => ?_)
       refine wpAnyH_ready (rs := [5]) (by kernel_rfl) (by simp) ?_
       refine AllReadyH.cons rfl (fun K hK => ?_) ?_
       ·go_simp
        go_wp2_with (go_at_call 82; with_reducible refine (HSTR.out _ HS.out).mono ?_; rintro r w' ⟨rfl, rfl⟩)
        refine hK.out _ _ (HQ11.out _ _ HS.out) (fun _ => ?_)
        clear hK K
        refine wpAnyH_take (i := 6) (v := ?_) rfl (by kernel_rfl) (by kernel_rfl) (by kernel_rfl) (fun _ _ _ h => h) (Or.inl ⟨by rfl, ?_⟩) (HQ11.out _ _ HS.out) ?_
        rotate_left
        ·(intro w hSw; (try dsimp only at hSw); go_simp) <;> with_reducible rfl
        try simp only [putU]
        refine wpAnyH_take (i := 7) (v := ?_) rfl (by kernel_rfl) (by kernel_rfl) (by kernel_rfl) (fun _ _ _ h => h) (Or.inl ⟨by rfl, ?_⟩) (HQ11.out _ _ HS.out) ?_
        rotate_left
        ·(intro w hSw; (try dsimp only at hSw); go_simp) <;> with_reducible rfl
        try simp only [putU]
        refine wpAnyH_take (i := 8) (v := ?_) rfl (by kernel_rfl) (by kernel_rfl) (by kernel_rfl) (fun _ _ _ h => h) (Or.inl ⟨by rfl, ?_⟩) (HQ11.out _ _ HS.out) ?_
        rotate_left
        ·(intro w hSw; (try dsimp only at hSw); go_simp) <;> with_reducible rfl
        try simp only [putU]
        refine wpAnyH_take (i := 9) (v := ?_) rfl (by kernel_rfl) (by kernel_rfl) (by kernel_rfl) (fun _ _ _ h => h) (Or.inl ⟨by rfl, ?_⟩) (HQ11.out _ _ HS.out) ?_
        rotate_left
        ·(intro w hSw; (try dsimp only at hSw); go_simp) <;> with_reducible rfl
        try simp only [putU]
        refine wpAnyH_take (i := 10) (v := ?_) rfl (by kernel_rfl) (by kernel_rfl) (by kernel_rfl) (fun _ _ _ h => h) (Or.inl ⟨by rfl, ?_⟩) (HQ11.out _ _ HS.out) ?_
        rotate_left
        ·(intro w hSw; (try dsimp only at hSw); go_simp) <;> with_reducible rfl
        try simp only [putU]
        refine wpAnyH_take (i := 11) (v := ?_) rfl (by kernel_rfl) (by kernel_rfl) (by kernel_rfl) (fun _ _ _ h => h) (Or.inl ⟨by rfl, ?_⟩) (HQ11.out _ _ HS.out) ?_
        rotate_left
        ·(intro w hSw; (try dsimp only at hSw); go_simp) <;> with_reducible rfl
        try simp only [putU]
        refine wpAnyH_take (i := 12) (v := ?_) rfl (by kernel_rfl) (by kernel_rfl) (by kernel_rfl) (fun _ _ _ h => h) (Or.inl ⟨by rfl, ?_⟩) (HQ11.out _ _ HS.out) ?_
        rotate_left
        ·(intro w hSw; (try dsimp only at hSw); go_simp) <;> with_reducible rfl
        try simp only [putU]
        refine wpAnyH_take (i := 13) (v := ?_) rfl (by kernel_rfl) (by kernel_rfl) (by kernel_rfl) (fun _ _ _ h => h) (Or.inl ⟨by rfl, ?_⟩) (HQ11.out _ _ HS.out) ?_
        rotate_left
        ·(intro w hSw; (try dsimp only at hSw); go_simp) <;> with_reducible rfl
        try simp only [putU]
        refine wpAnyH_take (i := 14) (v := ?_) rfl (by kernel_rfl) (by kernel_rfl) (by kernel_rfl) (fun _ _ _ h => h) (Or.inl ⟨by rfl, ?_⟩) (HQ11.out _ _ HS.out) ?_
        rotate_left
        ·(intro w hSw; (try dsimp only at hSw); go_simp) <;> with_reducible rfl
        try simp only [putU]
        refine wpAnyH_take (i := 15) (v := ?_) rfl (by kernel_rfl) (by kernel_rfl) (by kernel_rfl) (fun _ _ _ h => h) (Or.inl ⟨by rfl, ?_⟩) (HQ11.out _ _ HS.out) ?_
        rotate_left
        ·(intro w hSw; (try dsimp only at hSw); go_simp) <;> with_reducible rfl
        try simp only [putU]
        refine wpAnyH_take (i := 16) (v := ?_) rfl (by kernel_rfl) (by kernel_rfl) (by kernel_rfl) (fun _ _ _ h => h) (Or.inl ⟨by rfl, ?_⟩) (HQ11.out _ _ HS.out) ?_
        rotate_left
        ·(intro w hSw; (try dsimp only at hSw); go_simp) <;> with_reducible rfl
        try simp only [putU]
        refine wpAnyH_take (i := 17) (v := ?_) rfl (by kernel_rfl) (by kernel_rfl) (by kernel_rfl) (fun _ _ _ h => h) (Or.inl ⟨by rfl, ?_⟩) (HQ11.out _ _ HS.out) ?_
        rotate_left
        ·(intro w hSw; (try dsimp only at hSw); go_simp) <;> with_reducible rfl
        try simp only [putU]
        refine wpAnyH_take (i := 18) (v := ?_) rfl (by kernel_rfl) (by kernel_rfl) (by kernel_rfl) (fun _ _ _ h => h) (Or.inl ⟨by rfl, ?_⟩) (HQ11.out _ _ HS.out) ?_
        rotate_left
        ·(intro w hSw; (try dsimp only at hSw); go_simp) <;> with_reducible rfl
        try simp only [putU]
        refine wpAnyH_take (i := 19) (v := ?_) rfl (by kernel_rfl) (by kernel_rfl) (by kernel_rfl) (fun _ _ _ h => h) (Or.inl ⟨by rfl, ?_⟩) (HQ11.out _ _ HS.out) ?_
        rotate_left
        ·(intro w hSw; (try dsimp only at hSw); go_simp) <;> with_reducible rfl
        try simp only [putU]
        refine wpAnyH_take (i := 20) (v := ?_) rfl (by kernel_rfl) (by kernel_rfl) (by kernel_rfl) (fun _ _ _ h => h) (Or.inl ⟨by rfl, ?_⟩) (HQ11.out _ _ HS.out) ?_
        rotate_left
        ·(intro w hSw; (try dsimp only at hSw); go_simp) <;> with_reducible rfl
        try simp only [putU]
        refine wpAnyH_take (i := 21) (v := ?_) rfl (by kernel_rfl) (by kernel_rfl) (by kernel_rfl) (fun _ _ _ h => h) (Or.inl ⟨by rfl, ?_⟩) (HQ11.out _ _ HS.out) ?_
        rotate_left
        ·(intro w hSw; (try dsimp only at hSw); go_simp) <;> with_reducible rfl
        try simp only [putU]
        refine wpAnyH_take (i := 22) (v := ?_) rfl (by kernel_rfl) (by kernel_rfl) (by kernel_rfl) (fun _ _ _ h => h) (Or.inl ⟨by rfl, ?_⟩) (HQ11.out _ _ HS.out) ?_
        rotate_left
        ·(intro w hSw; (try dsimp only at hSw); go_simp) <;> with_reducible rfl
        try simp only [putU]
        refine wpAnyH_take (i := 23) (v := ?_) rfl (by kernel_rfl) (by kernel_rfl) (by kernel_rfl) (fun _ _ _ h => h) (Or.inl ⟨by rfl, ?_⟩) (HQ11.out _ _ HS.out) ?_
        rotate_left
        ·(intro w hSw; (try dsimp only at hSw); go_simp) <;> with_reducible rfl
        try simp only [putU]
        refine wpAnyH_take (i := 24) (v := ?_) rfl (by kernel_rfl) (by kernel_rfl) (by kernel_rfl) (fun _ _ _ h => h) (Or.inl ⟨by rfl, ?_⟩) (HQ11.out _ _ HS.out) ?_
        rotate_left
        ·(intro w hSw; (try dsimp only at hSw); go_simp) <;> with_reducible rfl
        try simp only [putU]
        refine wpAnyH_take (i := 25) (v := ?_) rfl (by kernel_rfl) (by kernel_rfl) (by kernel_rfl) (fun _ _ _ h => h) (Or.inl ⟨by rfl, ?_⟩) (HQ11.out _ _ HS.out) ?_
        rotate_left
        ·(intro w hSw; (try dsimp only at hSw); go_simp) <;> with_reducible rfl
        try simp only [putU]
        refine wpAnyH_take (i := 26) (v := ?_) rfl (by kernel_rfl) (by kernel_rfl) (by kernel_rfl) (fun _ _ _ h => h) (Or.inl ⟨by rfl, ?_⟩) (HQ11.out _ _ HS.out) ?_
        rotate_left
        ·(intro w hSw; (try dsimp only at hSw); go_simp) <;> with_reducible rfl
        try simp only [putU]
        refine wpAnyH_take (i := 27) (v := ?_) rfl (by kernel_rfl) (by kernel_rfl) (by kernel_rfl) (fun _ _ _ h => h) (Or.inl ⟨by rfl, ?_⟩) (HQ11.out _ _ HS.out) ?_
        rotate_left
        ·(intro w hSw; (try dsimp only at hSw); go_simp) <;> with_reducible rfl
        try simp only [putU]
        refine wpAnyH_take (i := 28) (v := ?_) rfl (by kernel_rfl) (by kernel_rfl) (by kernel_rfl) (fun _ _ _ h => h) (Or.inl ⟨by rfl, ?_⟩) (HQ11.out _ _ HS.out) ?_
        rotate_left
        ·(intro w hSw; (try dsimp only at hSw); go_simp) <;> with_reducible rfl
        try simp only [putU]
        refine wpAnyH_take (i := 29) (v := ?_) rfl (by kernel_rfl) (by kernel_rfl) (by kernel_rfl) (fun _ _ _ h => h) (Or.inl ⟨by rfl, ?_⟩) (HQ11.out _ _ HS.out) ?_
        rotate_left
        ·(intro w hSw; (try dsimp only at hSw); go_simp) <;> with_reducible rfl
        try simp only [putU]
        refine wpAnyH_take (i := 30) (v := ?_) rfl (by kernel_rfl) (by kernel_rfl) (by kernel_rfl) (fun _ _ _ h => h) (Or.inl ⟨by rfl, ?_⟩) (HQ11.out _ _ HS.out) ?_
        rotate_left
        ·(intro w hSw; (try dsimp only at hSw); go_simp) <;> with_reducible rfl
        try simp only [putU]
        refine wpAnyH_take (i := 31) (v := ?_) rfl (by kernel_rfl) (by kernel_rfl) (by kernel_rfl) (fun _ _ _ h => h) (Or.inl ⟨by rfl, ?_⟩) (HQ11.out _ _ HS.out) ?_
        rotate_left
        ·(intro w hSw; (try dsimp only at hSw); go_simp) <;> with_reducible rfl
        try simp only [putU]
        refine wpAnyH_ready (rs := [32]) (by kernel_rfl) (by simp) ?_
        refine AllReadyH.cons rfl (fun K hK => ?_) ?_
        ·go_simp
         go_wp2_with (go_at_call 85; with_reducible refine (HCON.out _ HS.out).mono ?_; rintro r w9 ⟨rfl, hs9⟩; replace HS := hid hs9; clear hs9)
         refine hK.out _ _ (HQ11.out _ _ HS.out) (fun _ => ?_)
         clear hK K
         refine wpAnyH_take (i := 33) (v := ?_) rfl (by kernel_rfl) (by kernel_rfl) (by kernel_rfl) (fun _ _ _ h => h) (Or.inl ⟨by rfl, ?_⟩) (HQ11.out _ _ HS.out) ?_
         rotate_left
         ·(intro w hSw; (try dsimp only at hSw); go_simp) <;> with_reducible rfl
         try simp only [putU]
         refine wpAnyH_take (i := 34) (v := ?_) rfl (by kernel_rfl) (by kernel_rfl) (by kernel_rfl) (fun _ _ _ h => h) (Or.inl ⟨by rfl, ?_⟩) (HQ11.out _ _ HS.out) ?_
         rotate_left
         ·(intro w hSw; (try dsimp only at hSw); go_simp) <;> with_reducible rfl
         try simp only [putU]
         refine wpAnyH_done (by kernel_rfl) ?_ _
         go_wp2_with fail
         go_meet
         exact ⟨by rw [HSK.out] <;> rfl, HS.out⟩
        exact AllReadyH.nil
       exact AllReadyH.nil
     ·have HSK : Hid (skips e1 i key m = !sk) := hid (by rw [HSK0.out]; simp [h3, hmi])
      have hb3 : (stj == 2) = false := by simpa using h3
      clear HSK0 hmi h3
      refine wp_region_held_drew (S := fun w' => (binOp .eql 120 (.pointer (some ⟨blkOf bs m, 0, none⟩)) (.pointer (some ⟨blkOf bs i, 0, none⟩))).run Tryz.prog w' = .ok (.bool false) w' ∧ w'.cell? ⟨blkOf bs m, 1, none⟩ = some (.int .i64 stj) ∧ w'.cell? ⟨blkOf bs m, 4, none⟩ = some (.int .i64 enj) ∧ w'.cell? ⟨blkOf bs i, 3, none⟩ = some (.int .i64 bgi) ∧ w'.cell? ⟨blkOf bs m, 5, none⟩ = some rvj) (by kernel_rfl) (HQ11.out _ _ HR0.out.drew) (fun hHeld => ?_)
      refine wpAnyH_take (i := 0) (v := ?_) rfl (by kernel_rfl) (by kernel_rfl) (by kernel_rfl) (fun _ _ _ h => h) (Or.inl ⟨by rfl, ?_⟩) hHeld ?_
      rotate_left
      ·(intro w hSw; (try dsimp only at hSw); go_simp) <;> with_reducible rfl
      try simp only [putU]
      refine wpAnyH_take (i := 1) (v := ?_) rfl (by kernel_rfl) (by kernel_rfl) (by kernel_rfl) (fun _ _ _ h => h) (Or.inl ⟨by rfl, ?_⟩) hHeld ?_
      rotate_left
      ·(intro w hSw; (try dsimp only at hSw); go_simp) <;> with_reducible rfl
      try simp only [putU]
      refine wpAnyH_take (i := 2) (v := ?_) rfl (by kernel_rfl) (by kernel_rfl) (by kernel_rfl) (fun _ _ _ h => h) (Or.inl ⟨by rfl, ?_⟩) hHeld ?_
      rotate_left
      ·(intro w hSw; (try dsimp only at hSw); go_simp) <;> with_reducible rfl
      try simp only [putU]
      refine wpAnyH_take (i := 3) (v := ?_) rfl (by kernel_rfl) (by kernel_rfl) (by kernel_rfl) (fun _ _ _ h => h) (Or.inl ⟨by rfl, ?_⟩) hHeld ?_
      rotate_left
      ·(intro w hSw; (try dsimp only at hSw); go_simp) <;> with_reducible rfl
      try simp only [putU]
      refine wpAnyH_take (i := 4) (v := ?_) rfl (by kernel_rfl) (by kernel_rfl) (by kernel_rfl) (fun _ _ _ h => h) (Or.inl ⟨by rfl, ?_⟩) hHeld ?_
      rotate_left
      ·(intro w hSw; (try dsimp only at hSw); go_simp) <;> with_reducible rfl
      try simp only [putU]
      have HS := hid HR0.out.drew
      clear hHeld
      refine anyH_world (fun w => Hid (S w0 w _)) HS (fun w1 HS => ?_)
      refine wpAnyH_ready (rs := [5]) (by kernel_rfl) (by simp) ?_
      refine AllReadyH.cons rfl (fun K hK => ?_) ?_
      ·go_simp
       go_wp2_with (go_at_call 82; with_reducible refine (HSTR.out _ HS.out).mono ?_; rintro r w' ⟨rfl, rfl⟩)
       refine hK.out _ _ (HQ11.out _ _ HS.out) (fun _ => ?_)
       clear hK K
       refine wpAnyH_take (i := 6) (v := ?_) rfl (by kernel_rfl) (by kernel_rfl) (by kernel_rfl) (fun _ _ _ h => h) (Or.inl ⟨by rfl, ?_⟩) (HQ11.out _ _ HS.out) ?_
       rotate_left
       ·(intro w hSw; (try dsimp only at hSw); go_simp) <;> with_reducible rfl
       try simp only [putU]
       refine wpAnyH_take (i := 7) (v := ?_) rfl (by kernel_rfl) (by kernel_rfl) (by kernel_rfl) (fun _ _ _ h => h) (Or.inl ⟨by rfl, ?_⟩) (HQ11.out _ _ HS.out) ?_
       rotate_left
       ·(intro w hSw; (try dsimp only at hSw); go_simp) <;> with_reducible rfl
       try simp only [putU]
       refine wpAnyH_take (i := 8) (v := ?_) rfl (by kernel_rfl) (by kernel_rfl) (by kernel_rfl) (fun _ _ _ h => h) (Or.inl ⟨by rfl, ?_⟩) (HQ11.out _ _ HS.out) ?_
       rotate_left
       ·(intro w hSw; (try dsimp only at hSw); go_simp) <;> with_reducible rfl
       try simp only [putU]
       refine wpAnyH_take (i := 9) (v := ?_) rfl (by kernel_rfl) (by kernel_rfl) (by kernel_rfl) (fun _ _ _ h => h) (Or.inl ⟨by rfl, ?_⟩) (HQ11.out _ _ HS.out) ?_
       rotate_left
       ·(intro w hSw; (try dsimp only at hSw); go_simp) <;> with_reducible rfl
       try simp only [putU]
       refine wpAnyH_take (i := 10) (v := ?_) rfl (by kernel_rfl) (by kernel_rfl) (by kernel_rfl) (fun _ _ _ h => h) (Or.inl ⟨by rfl, ?_⟩) (HQ11.out _ _ HS.out) ?_
       rotate_left
       ·(intro w hSw; (try dsimp only at hSw); go_simp) <;> with_reducible rfl
       try simp only [putU]
       refine wpAnyH_take (i := 11) (v := ?_) rfl (by kernel_rfl) (by kernel_rfl) (by kernel_rfl) (fun _ _ _ h => h) (Or.inl ⟨by rfl, ?_⟩) (HQ11.out _ _ HS.out) ?_
       rotate_left
       ·(intro w hSw; (try dsimp only at hSw); go_simp) <;> with_reducible rfl
       try simp only [putU]
       refine wpAnyH_take (i := 12) (v := ?_) rfl (by kernel_rfl) (by kernel_rfl) (by kernel_rfl) (fun _ _ _ h => h) (Or.inl ⟨by rfl, ?_⟩) (HQ11.out _ _ HS.out) ?_
       rotate_left
       ·(intro w hSw; (try dsimp only at hSw); go_simp) <;> with_reducible rfl
       try simp only [putU]
       refine wpAnyH_take (i := 13) (v := ?_) rfl (by kernel_rfl) (by kernel_rfl) (by kernel_rfl) (fun _ _ _ h => h) (Or.inl ⟨by rfl, ?_⟩) (HQ11.out _ _ HS.out) ?_
       rotate_left
       ·(intro w hSw; (try dsimp only at hSw); go_simp) <;> with_reducible rfl
       try simp only [putU]
       refine wpAnyH_take (i := 14) (v := ?_) rfl (by kernel_rfl) (by kernel_rfl) (by kernel_rfl) (fun _ _ _ h => h) (Or.inl ⟨by rfl, ?_⟩) (HQ11.out _ _ HS.out) ?_
       rotate_left
       ·(intro w hSw; (try dsimp only at hSw); go_simp) <;> with_reducible rfl
       try simp only [putU]
       refine wpAnyH_take (i := 15) (v := undef) rfl (by kernel_rfl) (by kernel_rfl) (by kernel_rfl) (fun _ _ _ h => h) (Or.inr ⟨by rfl, rfl⟩) (HQ11.out _ _ HS.out) ?_
       try simp only [putU]
       refine wpAnyH_take (i := 16) (v := undef) rfl (by kernel_rfl) (by kernel_rfl) (by kernel_rfl) (fun _ _ _ h => h) (Or.inr ⟨by rfl, rfl⟩) (HQ11.out _ _ HS.out) ?_
       try simp only [putU]
       refine wpAnyH_take (i := 17) (v := undef) rfl (by kernel_rfl) (by kernel_rfl) (by kernel_rfl) (fun _ _ _ h => h) (Or.inr ⟨by rfl, rfl⟩) (HQ11.out _ _ HS.out) ?_
       try simp only [putU]
       refine wpAnyH_take (i := 18) (v := undef) rfl (by kernel_rfl) (by kernel_rfl) (by kernel_rfl) (fun _ _ _ h => h) (Or.inr ⟨by rfl, rfl⟩) (HQ11.out _ _ HS.out) ?_
       try simp only [putU]
       refine wpAnyH_take (i := 19) (v := undef) rfl (by kernel_rfl) (by kernel_rfl) (by kernel_rfl) (fun _ _ _ h => h) (Or.inr ⟨by rfl, rfl⟩) (HQ11.out _ _ HS.out) ?_
       try simp only [putU]
       refine wpAnyH_take (i := 20) (v := undef) rfl (by kernel_rfl) (by kernel_rfl) (by kernel_rfl) (fun _ _ _ h => h) (Or.inr ⟨by rfl, rfl⟩) (HQ11.out _ _ HS.out) ?_
       try simp only [putU]
       refine wpAnyH_take (i := 21) (v := undef) rfl (by kernel_rfl) (by kernel_rfl) (by kernel_rfl) (fun _ _ _ h => h) (Or.inr ⟨by rfl, rfl⟩) (HQ11.out _ _ HS.out) ?_
       try simp only [putU]
       refine wpAnyH_take (i := 22) (v := undef) rfl (by kernel_rfl) (by kernel_rfl) (by kernel_rfl) (fun _ _ _ h => h) (Or.inr ⟨by rfl, rfl⟩) (HQ11.out _ _ HS.out) ?_
       try simp only [putU]
       refine wpAnyH_take (i := 23) (v := undef) rfl (by kernel_rfl) (by kernel_rfl) (by kernel_rfl) (fun _ _ _ h => h) (Or.inr ⟨by rfl, rfl⟩) (HQ11.out _ _ HS.out) ?_
       try simp only [putU]
       refine wpAnyH_take (i := 24) (v := ?_) rfl (by kernel_rfl) (by kernel_rfl) (by kernel_rfl) (fun _ _ _ h => h) (Or.inl ⟨by rfl, ?_⟩) (HQ11.out _ _ HS.out) ?_
       rotate_left
       ·(intro w hSw; (try dsimp only at hSw); go_simp) <;> with_reducible rfl
       try simp only [putU]
       refine wpAnyH_take (i := 25) (v := ?_) rfl (by kernel_rfl) (by kernel_rfl) (by kernel_rfl) (fun _ _ _ h => h) (Or.inl ⟨by rfl, ?_⟩) (HQ11.out _ _ HS.out) ?_
       rotate_left
       ·(intro w hSw; (try dsimp only at hSw); go_simp) <;> with_reducible rfl
       try simp only [putU]
       refine wpAnyH_take (i := 26) (v := ?_) rfl (by kernel_rfl) (by kernel_rfl) (by kernel_rfl) (fun _ _ _ h => h) (Or.inl ⟨by rfl, ?_⟩) (HQ11.out _ _ HS.out) ?_
       rotate_left
       ·(intro w hSw; (try dsimp only at hSw); go_simp) <;> with_reducible rfl
       try simp only [putU]
       refine wpAnyH_take (i := 27) (v := ?_) rfl (by kernel_rfl) (by kernel_rfl) (by kernel_rfl) (fun _ _ _ h => h) (Or.inl ⟨by rfl, ?_⟩) (HQ11.out _ _ HS.out) ?_
       rotate_left
       ·(intro w hSw; (try dsimp only at hSw); go_simp) <;> with_reducible rfl
       try simp only [putU]
       refine wpAnyH_take (i := 28) (v := ?_) rfl (by kernel_rfl) (by kernel_rfl) (by kernel_rfl) (fun _ _ _ h => h) (Or.inl ⟨by rfl, ?_⟩) (HQ11.out _ _ HS.out) ?_
       rotate_left
       ·(intro w hSw; (try dsimp only at hSw); go_simp) <;> with_reducible rfl
       try simp only [putU]
       refine wpAnyH_take (i := 29) (v := ?_) rfl (by kernel_rfl) (by kernel_rfl) (by kernel_rfl) (fun _ _ _ h => h) (Or.inl ⟨by rfl, ?_⟩) (HQ11.out _ _ HS.out) ?_
       rotate_left
       ·(intro w hSw; (try dsimp only at hSw); go_simp) <;> with_reducible rfl
       try simp only [putU]
       refine wpAnyH_take (i := 30) (v := ?_) rfl (by kernel_rfl) (by kernel_rfl) (by kernel_rfl) (fun _ _ _ h => h) (Or.inl ⟨by rfl, ?_⟩) (HQ11.out _ _ HS.out) ?_
       rotate_left
       ·(intro w hSw; (try dsimp only at hSw); go_simp) <;> with_reducible rfl
       try simp only [putU]
       refine wpAnyH_take (i := 31) (v := ?_) rfl (by kernel_rfl) (by kernel_rfl) (by kernel_rfl) (fun _ _ _ h => h) (Or.inl ⟨by rfl, ?_⟩) (HQ11.out _ _ HS.out) ?_
       rotate_left
       ·(intro w hSw; (try dsimp only at hSw); go_simp) <;> with_reducible rfl
       try simp only [putU]
       refine wpAnyH_ready (rs := [32]) (by kernel_rfl) (by simp) ?_
       refine AllReadyH.cons rfl (fun K hK => ?_) ?_
       ·go_simp
        go_wp2_with (go_at_call 85; with_reducible refine (HCON.out _ HS.out).mono ?_; rintro r w9 ⟨rfl, hs9⟩; replace HS := hid hs9; clear hs9)
        refine hK.out _ _ (HQ11.out _ _ HS.out) (fun _ => ?_)
        clear hK K
        refine wpAnyH_take (i := 33) (v := ?_) rfl (by kernel_rfl) (by kernel_rfl) (by kernel_rfl) (fun _ _ _ h => h) (Or.inl ⟨by rfl, ?_⟩) (HQ11.out _ _ HS.out) ?_
        rotate_left
        ·(intro w hSw; (try dsimp only at hSw); go_simp) <;> with_reducible rfl
        try simp only [putU]
        refine wpAnyH_take (i := 34) (v := ?_) rfl (by kernel_rfl) (by kernel_rfl) (by kernel_rfl) (fun _ _ _ h => h) (Or.inl ⟨by rfl, ?_⟩) (HQ11.out _ _ HS.out) ?_
        rotate_left
        ·(intro w hSw; (try dsimp only at hSw); go_simp) <;> with_reducible rfl
        try simp only [putU]
        refine wpAnyH_done (by kernel_rfl) ?_ _
        go_wp2_with fail
        go_meet
        exact ⟨by rw [HSK.out] <;> rfl, HS.out⟩
       exact AllReadyH.nil
      exact AllReadyH.nil
   case rest =>
   rename World => wy
   obtain ⟨rfl, hs10⟩ := hcut
   have H10 := hid hs10
   clear hs10 HR0 HQ10 HCON HSTR0 HSK0 HBNE
   cases hsk : skips e1 i key m with
   | true =>
    have hf3 : putsG (goesN n) e i (key, val) = putsL (goesN n) i key ((List.range e.txs.length).drop (m + 1)) e1 := by rw [HFM.out, putsL, if_pos hsk]
    have HF3 := hid hf3; have HOK3 := hid HOKM.out.skipped
    clear hf3 hsk HFM
    go_wp2_with fail
    go_roundw
    case rel => exact ⟨m + 1, e1, k1, by omega, by go_num, hk1, HOK3, ho1, hn1, HF3, H10.out⟩
    case measure => simp [intOf]; omega
   | false =>
    have hmi : m ≠ i := by
     intro h; subst h
     unfold skips at hsk; simp at hsk
    have hbnd : ∀ j, j < e1.txs.length → (e1.tx j).aft.length + 1 ≤ 1000000000000 ∧ (e1.tx j).fore.length + 1 ≤ 1000000000000 := fun j hj => by have := HOKM.out.fits _ (Eng.tx_mem hj); omega
    have hcall := noted_any w0 _ b bs k1 e1 m i (blk w.heap.size 101 [.int .i64 key, .int .i64 val] :: storeP 107 b 0 e1.V e1.last :: tabP 3 b 11 e1.t :: L) (H10.out.conv (by simp only [all]; ac_rfl)) HJ.out HI1.out hmi (hbnd m HJ.out).1 (hbnd i HI1.out).2 (fun x hx => (HOKM.out.txs x hx).refs)
    unfold ptr at hcall
    have HC := hid hcall
    have hsk' := hsk
    have hnt := HOKM.out.noted
    have HNT := hid hnt; have HSKF := hid hsk'
    have hno := Eng.note_open e1 m i
    have hnl := Eng.note_len e1 m i
    have HNO := hid hno; have HNL := hid hnl
    clear hcall hsk hsk' hbnd hmi hnt hno hnl
    cases hbad : (e1.note m i).bad m i with
    | true =>
     have hf3 : putsG (goesN n) e i (key, val) = goesN n (e1.note m i) i 13 := by rw [HFM.out, putsL, if_neg (by rw [HSKF.out]; simp)]; simp [hbad]
     have hk3 := HNT.out.ok _ (List.mem_cons_self ..)
     have hst3 := (hk3.ask i key _ rfl).1
     have hcg := fun W (hW : S w0 W (engP b bs (e1.note m i) :: L)) => HG.out w0 W b bs (e1.note m i) i 13 L N U (HNT.out.tail (by simp)) hk3.lt (by simp [Tx.alive, hst3]) HNT.out.who_ne (by rw [HNO.out]; exact ho1.out) hN hW
     have HF3 := hid hf3; have HCG := hid hcg
     clear hf3 hk3 hst3 hcg HFM
     rw [hbad] at HC
     clear hbad
     go_wp2_with fail
     with_reducible refine HC.out.mono ?_
     rintro r w' ⟨k2, hk2, rfl, hs2⟩
     have hs3 : S w0 w' (engP b bs (e1.note m i) :: L) := (hs2.conv (M := blk w.heap.size 101 [.int .i64 key, .int .i64 val] :: storeP 107 b 0 e1.V e1.last :: tabP 3 b 11 e1.t :: engO b bs k2 (e1.note m i) :: L) (by simp only [all]; ac_rfl)).tail.eng_shut
     have hcc := HCG.out _ hs3
     have HCC := hid hcc
     clear hs2 hs3 hcc hk2
     go_wp2_with fail
     with_reducible refine HCC.out.mono ?_
     rintro r w2 ⟨rfl, hs4⟩
     have H4 := hid hs4
     clear hs4
     go_wp2_with fail
     refine bodyPost_ret (v := .tuple #[]) (by simp [results, Tryz.results62, go_sem]) rfl ?_
     exact ⟨rfl, by rw [HF3.out]; exact H4.out⟩
    | false =>
     have hf3 : putsG (goesN n) e i (key, val) = putsL (goesN n) i key ((List.range e.txs.length).drop (m + 1)) (e1.note m i) := by rw [HFM.out, putsL, if_neg (by rw [HSKF.out]; simp)]; simp [hbad]
     have HF3 := hid hf3
     clear hf3 HFM
     rw [hbad] at HC
     clear hbad
     go_wp2_with fail
     with_reducible refine HC.out.mono ?_
     rintro r w' ⟨k2, hk2, rfl, hs2⟩
     have hs3 : S w0 w' (blk w.heap.size 101 [.int .i64 key, .int .i64 val] :: storeP 107 b 0 (e1.note m i).V (e1.note m i).last :: tabP 3 b 11 (e1.note m i).t :: engO b bs k2 (e1.note m i) :: L) := hs2.conv (by simp only [all]; show sep _ (sep _ (sep (storeP _ b 0 e1.V e1.last) (sep (tabP _ b 11 e1.t) _))) = sep _ (sep (storeP _ b 0 e1.V e1.last) (sep (tabP _ b 11 e1.t) _)); ac_rfl)
     have H3 := hid hs3; have HK2 := hid hk2
     clear hs2 hs3 hk2
     go_wp2_with fail
     go_roundw
     case rel => exact ⟨m + 1, e1.note m i, k2, by omega, by go_num, hid (HK2.out.trans hk1.out), HNT, hid (by rw [HNO.out]; exact ho1.out), hid (by rw [HNL.out]; exact hn1.out), HF3, H3.out⟩
     case measure => simp [intOf]; omega
  ·have hd : (List.range e.txs.length).drop m = [] := List.drop_eq_nil_iff.2 (by simp; omega)
   have hf2 := hf1.out
   rw [hd] at hf2
   have HF2 := hid hf2; have HSR := hid hsr
   clear hd hf2 hsr hf1 hok1 HROW
   go_wp2_with fail
   go_end0
   exact ⟨rfl, by rw [HF2.out]; exact HSR.out.tail.eng_shut⟩
end Go.Proofs.YtmfngjclccehaaaGreatDoor
