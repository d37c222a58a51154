/- A range over a function, in the words of ownership. No program in sight. -/
import Derived.Test.YtdlkjppppdminaaGreatDoorZ0
import Derived.Test.YtdlkjppppdminaaGreatDoorProg
import Derived.WalkSpells
import Derived.Deep.QuietTactic
import Derived.BigQuiet
import Derived.Deep.RegionLaw
import Derived.Deep.LoopGhost
import Derived.Deep.DeepCutAuto
import Derived.LaidEql
import Derived.Stop.Asserts
import Derived.RowKitTokens
import Derived.LoopN
import Derived.Test.YtdlkjppppdminaaGreatDoorCards
import Derived.Test.YtdlkjppppdminaaGreatDoorTie
import Derived.WalkKit
import Derived.ProofKit
import Derived.OpenShut
import Derived.Deep.DeepHandedRow
import Derived.Lib.LaidTab
import Derived.LaidHandle
import Derived.Deep.SlicePairs
import Derived.Deep.Strs
import Derived.Lib.SmallJoins
import Derived.Lib.ItoaNum
import Derived.Lib.Join
import Derived.Lib.Atoi
import Derived.Lib.SplitLaws
import Derived.Shelf.Strings.OnBuilder
import Derived.Shelf.Strconv.Atoi
import Derived.Shelf.Strconv.Itoa0
import Derived.Shelf.Strconv.Itoa1
import Derived.Shelf.LaysM
import Derived.Shelf.Strconv.Itoa2
import Derived.Shelf.Strconv.Itoa3
import Derived.Shelf.Strings.Split
import Derived.Shelf.Strings.SplitShaped
import Derived.Lib.AppendIntMem
import Derived.Lib.Walk
import Derived.BigCall
import Derived.BigGuard
import Derived.RangeFuncNested
import Derived.RangeFuncBound
import Derived.RangeFuncCalls
import Derived.RangeFuncLeaves
/- The program's store: the walks. -/
namespace Go.Proofs.YtdlkjppppdminaaGreatDoor
open Go Go.RowKit Go.Sep
theorem right_any (k : Int) (w : World) : Calls Tryz.prog 53 #[.int .i64 k] w fun e w' => e = .returned (.bool (decide (keyOk k))) ∧ w = w' := by
 by_cases h0 : 0 ≤ k
 ·go_enter Tryz.func53, Tryz.ntmps53
  go_wp2
  go_ret
  exact ⟨retB (by simp [keyOk, h0]), rfl⟩
 ·go_enter Tryz.func53, Tryz.ntmps53
  go_wp2
  go_ret
  exact ⟨retB (decide_eq_false (by unfold keyOk; omega)).symm, rfl⟩
theorem Tryz.info99 : (Tryz.prog.info? 99).map (fun i => (i.zero, i.size, i.bytes)) = some (some (.agg #[.int .i64 0, .int .i64 0]), 2, 16) := by kernel_rfl
theorem last_any (b o : Nat) (last : Int) (w : World) (hc : w.cell? ⟨b, o + 10, none⟩ = some (.int .i64 last)) : Calls Tryz.prog 104 #[.pointer (some ⟨b, o, none⟩)] w fun e w' => e = .returned (.int .i64 last) ∧ w = w' := by
 go_enter Tryz.func104, Tryz.ntmps104
 go_wp2
 go_ret
 exact ⟨rfl, rfl⟩
def InstPost (w0 : World) (b o : Nat) (V : List Vers) (last at_ : Int) (l : Vers) (L : List HProp) (e : Ending) (w' : World) : Prop :=
 if last < at_ ∧ at_ ≤ 1099511627776 then
  match badAt 0 l with
  | none => e = .returned .nilIface ∧ S w0 w' (storeP 99 b o (putAll at_ V l) at_ :: L)
  | some (x, p) => ∃ v, e = .returned v ∧ S w0 w' (errP 54 97 95 v (.at_ x p) :: storeP 99 b o V last :: L)
 else e = .returned (.iface 54 (.int .i64 10)) ∧ S w0 w' (storeP 99 b o V last :: L)
set_option maxHeartbeats 1000000 in
theorem install_any (w0 w : World) (b o : Nat) (V : List Vers) (last at_ : Int) (v : Value) (l : Vers) (L : List HProp) (N : Nat)
  (hs : S w0 w (storeP 99 b o V last :: L)) (hr : RdK w0 L v l.length (pcells l)) (hN : ∀ vs ∈ V, vs.length ≤ N) (hb : N + l.length ≤ 1000000) :
  Calls Tryz.prog 25 #[.pointer (some ⟨b, o, none⟩), .int .i64 at_, v] w (InstPost w0 b o V last at_ l L) := by
 have hc := hs.store_last.1
 by_cases h1 : at_ ≤ last
 ·have hfin : ∀ e w', e = Ending.returned (.iface 54 (.int .i64 10)) ∧ w = w' → InstPost w0 b o V last at_ l L e w' := by
   rintro e w' ⟨rfl, rfl⟩; unfold InstPost; rw [if_neg (by omega)]; exact ⟨rfl, hs⟩
  refine Calls.mono (R := fun e w' => e = Ending.returned (.iface 54 (.int .i64 10)) ∧ w = w') ?_ hfin
  clear hfin hr hN hb hs
  go_enter Tryz.func25, Tryz.ntmps25
  go_wp2
  go_ret
  exact ⟨rfl, rfl⟩
 by_cases h2 : 1099511627776 < at_
 ·have hfin : ∀ e w', e = Ending.returned (.iface 54 (.int .i64 10)) ∧ w = w' → InstPost w0 b o V last at_ l L e w' := by
   rintro e w' ⟨rfl, rfl⟩; unfold InstPost; rw [if_neg (by omega)]; exact ⟨rfl, hs⟩
  refine Calls.mono (R := fun e w' => e = Ending.returned (.iface 54 (.int .i64 10)) ∧ w = w') ?_ hfin
  clear hfin hr hN hb hs
  have h1' : last < at_ := by omega
  go_enter Tryz.func25, Tryz.ntmps25
  go_wp2
  go_ret
  exact ⟨rfl, rfl⟩
 have h1' : last < at_ := by omega
 have h2' : at_ ≤ 1099511627776 := by omega
 clear h1 h2
 obtain ⟨a, cap, hv, hcap, hcap', hrd⟩ := hr w hs.tail
 subst hv
 unfold maxLen at hcap'
 go_enter Tryz.func25, Tryz.ntmps25
 go_wp2
 go_loopw [26] (fun c wr => ∃ i : Nat, i ≤ l.length ∧ c = .int .i64 i ∧ badAt 0 l = badAt i (l.drop i) ∧ S w0 wr (storeP 99 b o V last :: L)) (fun c _ => l.length - (intOf c).toNat)
 case atStart => exact ⟨0, Nat.zero_le _, rfl, rfl, hs⟩
 case round =>
  obtain ⟨i, hi, rfl, hbad, hsr⟩ := hrel
  clear hc hrd
  by_cases hlt : i < l.length
  ·have hp : l[i]? = some l[i] := by simp [hlt]
   generalize l[i] = p at hp
   obtain ⟨lb, lo, rfl, c1, c2⟩ := hr.pair hsr.tail hp
   have hd : l.drop i = p :: l.drop (i + 1) := by
    have := List.getElem?_eq_some_iff.1 hp
    rw [List.drop_eq_getElem_cons this.1, this.2]
   rw [hd] at hbad
   have HB := hid hbad; clear hbad
   have HD := hid hd; clear hd
   have HP := hid hp; clear hp
   have hs1 := (hsr.alloc #[.int .i64 p.1, .int .i64 p.2] 91).tail
   have herr : ∀ x : Int, badAt i (p :: l.drop (i + 1)) = some (x, (i : Int)) → InstPost w0 b o V last at_ l L (.returned (.iface 95 (.pointer (some ⟨wr.heap.size + 1, 0, none⟩)))) ((wr.alloc (.cells #[.int .i64 p.1, .int .i64 p.2] 91)).alloc (.cells #[.int .i64 x, .int .i64 i] 97)) := by
    intro x hx
    have hs2 := hs1.alloc #[.int .i64 x, .int .i64 i] 97
    rw [World.size_alloc] at hs2
    unfold InstPost
    rw [if_pos ⟨h1', h2'⟩, HB.out, hx]
    exact ⟨_, rfl, .ex_intro (wr.heap.size + 1) (.sep_intro (.pur_intro rfl hs2))⟩
   have HE := hid herr; clear herr
   by_cases hk : keyOk p.1
   ·have hk1 : decide (keyOk p.1) = true := by simpa using hk
    by_cases hv : valOk p.2
    ·have hv1 := hv.1
     have hv2 := hv.2
     go_wp2_with (first | (go_at_call 53; refine (right_any _ _).mono ?_; rintro e w' ⟨rfl, rfl⟩))
     go_roundw
     case rel => exact ⟨i + 1, by omega, by go_num, by rw [HB.out]; simp [badAt, hk, hv], hs1⟩
     case measure => simp [intOf]; omega
    ·have hfin := HE.out 1 (by simp [badAt, hk, hv])
     have HF := hid hfin; clear hfin
     rcases (show p.2 < -1099511627776 ∨ (-1099511627776 ≤ p.2 ∧ 1099511627776 < p.2) by unfold valOk at hv; omega) with hv1 | ⟨hv0, hv1⟩
     ·clear hv
      go_wp2_with (first | (go_at_call 53; refine (right_any _ _).mono ?_; rintro e w' ⟨rfl, rfl⟩))
      go_ret
      exact HF.out
     ·clear hv
      go_wp2_with (first | (go_at_call 53; refine (right_any _ _).mono ?_; rintro e w' ⟨rfl, rfl⟩))
      go_ret
      exact HF.out
   ·have hk1 : decide (keyOk p.1) = false := by simpa using hk
    have hfin := HE.out 2 (by simp [badAt, hk])
    have HF := hid hfin; clear hfin
    go_wp2_with (first | (go_at_call 53; refine (right_any _ _).mono ?_; rintro e w' ⟨rfl, rfl⟩))
    go_ret
    exact HF.out
  ·have hil : i = l.length := by omega
   subst hil
   rw [List.drop_length] at hbad
   have hok := badAt_none (i := 0) (l := l) (by rw [hbad]; rfl)
   have HB := hid hbad; clear hbad
   have HO := hid hok; clear hok
   have HN := hid hN; clear hN
   go_wp2
   go_loopw [56] (fun c wr => ∃ i : Nat, i ≤ l.length ∧ c = .int .i64 i ∧ S w0 wr (storeP 99 b o (putAll at_ V (l.take i)) last :: L)) (fun c _ => l.length - (intOf c).toNat)
   case atStart => exact ⟨0, Nat.zero_le _, rfl, hsr⟩
   case round =>
    obtain ⟨i, hi, rfl, hsr⟩ := hrel
    by_cases hlt : i < l.length
    ·have hp : l[i]? = some l[i] := by simp [hlt]
     have hokp := HO.out l[i] (List.getElem_mem hlt)
     have htk : l.take (i + 1) = l.take i ++ [l[i]] := by rw [List.take_succ_eq_append_getElem hlt]
     generalize l[i] = p at hp hokp htk
     obtain ⟨pk, pv⟩ := p
     obtain ⟨⟨hk0, hk1⟩, hv0, hv1⟩ := hokp
     simp only at hk0 hk1 hv0 hv1
     obtain ⟨k, rfl⟩ := Int.eq_ofNat_of_zero_le hk0
     have hk10 : k < 10 := by omega
     have hpa : putAll at_ V (l.take (i + 1)) = put1 at_ (putAll at_ V (l.take i)) (k, pv) := by rw [htk]; simp [putAll]
     have hle := putAll_le (at_ := at_) (l.take i) HN.out
     obtain ⟨v, vs, X, hVk, hsk, hcell, hback, hset, hmod⟩ := hsr.store_key k hk10
     have hvl : vs.length ≤ 1000000 := by
      have := hle vs (List.mem_of_getElem? hVk)
      rw [List.length_take] at this; omega
     obtain ⟨lb, lo, rfl, c1, c2⟩ := hr.pair hsk.tail.tail hp
     obtain ⟨c3, f3, hw0⟩ := hcell wr hsk.tail
     have hb1 := World.block_lt_of_cell? wr _ c1
     have hb3 := World.block_lt_of_cell? wr _ c3
     simp only at hb1 hb3
     have HP := hid hp; have HT := hid htk; have HPA := hid hpa; have HLE := hid hle; have HVK := hid hVk
     clear hp htk hpa hle hVk hsr
     have hput : ∀ vs', vs' = (if (vs.getLast?.map (·.1)) = some at_ then vs.dropLast ++ [(at_, pv)] else vs ++ [(at_, pv)]) → (putAll at_ V (l.take i)).set k vs' = putAll at_ V (l.take (i + 1)) := by
      intro vs' h'; rw [HPA.out, h']; unfold put1; simp only [Int.toNat_natCast, HVK.out, Option.getD_some]
     have HPUT := hid hput; clear hput
     have hs1 := (hsk.alloc #[.int .i64 (k : Int), .int .i64 pv] 91).tail
     have hs2 := hs1.drew
     by_cases hemp : vs = []
     ·subst hemp
      obtain ⟨a0, cp, rfl, _, _, _⟩ := hsk.sl_val
      simp only [List.length_nil] at hsk c3 hset
      have hn0 : ¬ (0 : Int) > 0 := by omega
      obtain ⟨i0, hi0, hz0, hz1, hz2⟩ := info_parts Tryz.info99
      have hs3 : ∀ nq, S w0 (((wr.alloc (.cells #[.int .i64 (k : Int), .int .i64 pv] 91)).drewN nq).drew.alloc (.cells #[.int .i64 at_, .int .i64 pv] 99)) (blk (wr.heap.size + 1) 99 [.int .i64 at_, .int .i64 pv] :: blk wr.heap.size 91 [.int .i64 (k : Int), .int .i64 pv] :: sl 99 2 (.slice a0 0 cp) 0 [] :: X :: L) := by
       intro nq
       have h5 := (((hsk.alloc #[.int .i64 (k : Int), .int .i64 pv] 91).drewN nq).drew).alloc #[.int .i64 at_, .int .i64 pv] 99
       simpa [pcells] using h5
      have hn3 := fun nq => news_blk (hs3 nq)
      have hs4 := fun nq => (hs3 nq).tail.swap
      have hfin : ∀ w1 v', S w0 w1 (sl 99 2 v' (0 + 1) ([] ++ [.int .i64 at_, .int .i64 pv]) :: blk wr.heap.size 91 [.int .i64 (k : Int), .int .i64 pv] :: X :: L) → S w0 (w1.setCell ⟨b, o + k, none⟩ v') (storeP 99 b o (putAll at_ V (l.take (i + 1))) last :: L) := by
       intro w1 v' h5
       have h6 := hset w1 v' [(at_, pv)] L (by simpa [pcells] using h5.swap.tail)
       rwa [HPUT.out _ (by simp)] at h6
      have HF := hid hfin; clear hfin
      have H3 := hid hs4; have H4 := hid hn3; have HC := hid hcell
      clear hs4 hn3 hs3 hs1 hs2 hsk hback hset hmod hr hcell
      go_wp2_with (fail)
      go_quiet (fail)
      go_wp2_with fail
      go_region_law (refine step_append rfl (.tmp 91) (.tmp 96) 66 rfl 99 i0 _ 2 16 Tryz.underlying66 hi0 hz0 hz1 hz2 rfl (by decide) (H3.out _) rfl (some ⟨wr.heap.size + 1, 0, none⟩) 1 1 [.int .i64 at_, .int .i64 pv] rfl rfl (H4.out _) (by simp [Value.oneCell']) (by unfold maxLen; omega) (by omega) ?_; intro v1 w1 hs1; obtain ⟨a1, cp1, rfl, _, _, _⟩ := hs1.sl_val; obtain ⟨c9, f9, _⟩ := HC.out w1 hs1.tail.tail; have d1 := hs1.tail.blk_cell 0 rfl; have d2 := hs1.tail.blk_cell 1 rfl; have HS := hid (HF.out _ _ hs1); clear hs1)
      all_goals
       go_wp2_with fail
       go_roundw
       case rel => exact ⟨i + 1, by omega, by go_num, HS.out⟩
       case measure => simp [intOf]; omega
     ·obtain ⟨vs0, ⟨qa, qv⟩, rfl⟩ : ∃ vs0 q, vs = vs0 ++ [q] := ⟨vs.dropLast, vs.getLast hemp, (List.dropLast_concat_getLast hemp).symm⟩
      obtain ⟨g, og, cp, rfl, hcp1, hcp2, hg0, hg1, hgc, hgf⟩ := hsk.sl_some (by rw [pcells_length]; simp)
      have hq := pcells_at (vs0 ++ [(qa, qv)]) vs0.length (qa, qv) (by simp)
      have hq1 := hgc _ _ hq.1
      have hq2 : wr.cell? ⟨g, og + vs0.length * 2 + 1, none⟩ = some (.int .i64 qv) := hgc _ _ hq.2
      simp only [List.length_append, List.length_cons, List.length_nil, Nat.zero_add] at hvl hcp1 c3
      generalize hm : vs0.length = m at hq1 hq2 hvl hcp1 c3
      have HM := hid hm; clear hm
      clear hgc hemp hq
      unfold maxLen at hcp2
      by_cases hqa : qa = at_
      ·subst hqa
       have hfin : ∀ nq, S w0 (((wr.alloc (.cells #[.int .i64 (k : Int), .int .i64 pv] 91)).drewN nq).setCell ⟨g, og + m * 2 + 1, none⟩ (.int .i64 pv)) (storeP 99 b o (putAll qa V (l.take (i + 1))) last :: L) := by
        intro nq
        have h5 := (hs1.drewN nq).sl_set (g := g) (o := og) (cap := cp) rfl (m * 2 + 1) (by rw [pcells_length, List.length_append, HM.out]; simp; omega) (.int .i64 pv)
        rw [← HM.out, pcells_set _ vs0.length (qa, qv) pv (by simp), List.set_append_right _ _ (Nat.le_refl _), Nat.sub_self, List.set_cons_zero] at h5
        have h6 := hmod _ (vs0 ++ [(qa, pv)]) _ (by simpa using h5)
        rw [HPUT.out _ (by simp), ← Nat.add_assoc, HM.out] at h6
        exact h6
       have HF := hid hfin; clear hfin hs1 hs2 hsk hback hset hmod hr hcell
       go_wp2_with (fail)
       go_quiet (fail)
       go_wp2_with fail
       go_roundw
       case rel => exact ⟨i + 1, by omega, by go_num, HF.out _⟩
       case measure => simp [intOf]; omega
      ·have hqb : (qa == at_) = false := by simpa using hqa
       obtain ⟨i0, hi0, hz0, hz1, hz2⟩ := info_parts Tryz.info99
       have hs3 : ∀ nq, S w0 (((wr.alloc (.cells #[.int .i64 (k : Int), .int .i64 pv] 91)).drewN nq).drew.alloc (.cells #[.int .i64 at_, .int .i64 pv] 99)) (blk (wr.heap.size + 1) 99 [.int .i64 at_, .int .i64 pv] :: blk wr.heap.size 91 [.int .i64 (k : Int), .int .i64 pv] :: sl 99 2 (.slice (some ⟨g, og, none⟩) (m + 1) cp) (m + 1) (pcells (vs0 ++ [(qa, qv)])) :: X :: L) := by
        intro nq
        have h5 := (((hsk.alloc #[.int .i64 (k : Int), .int .i64 pv] 91).drewN nq).drew).alloc #[.int .i64 at_, .int .i64 pv] 99
        rw [← HM.out]
        simpa using h5
       have hn3 := fun nq => news_blk (hs3 nq)
       have hs4 := fun nq => (hs3 nq).tail.swap
       have hfin : ∀ w1 v', S w0 w1 (sl 99 2 v' (m + 1 + 1) (pcells (vs0 ++ [(qa, qv)]) ++ [.int .i64 at_, .int .i64 pv]) :: blk wr.heap.size 91 [.int .i64 (k : Int), .int .i64 pv] :: X :: L) → S w0 (w1.setCell ⟨b, o + k, none⟩ v') (storeP 99 b o (putAll at_ V (l.take (i + 1))) last :: L) := by
        intro w1 v' h5
        have h6 := hset w1 v' (vs0 ++ [(qa, qv)] ++ [(at_, pv)]) L (by rw [pcells_append]; simpa [HM.out, pcells] using h5.swap.tail)
        rwa [HPUT.out _ (by simp [hqa])] at h6
       have HF := hid hfin; clear hfin
       have H3 := hid hs4; have H4 := hid hn3; have HC := hid hcell
       clear hs4 hn3 hs3 hs1 hs2 hsk hback hset hmod hr hcell
       go_wp2_with (fail)
       go_quiet (fail)
       go_wp2_with fail
       go_region_law (refine step_append rfl (.tmp 91) (.tmp 96) 66 rfl 99 i0 _ 2 16 Tryz.underlying66 hi0 hz0 hz1 hz2 rfl (by decide) (H3.out _) rfl (some ⟨wr.heap.size + 1, 0, none⟩) 1 1 [.int .i64 at_, .int .i64 pv] rfl rfl (H4.out _) (by simp [Value.oneCell']) (by unfold maxLen; omega) (by omega) ?_; intro v1 w1 hs1; obtain ⟨a1, cp1, rfl, _, _, _⟩ := hs1.sl_val; obtain ⟨c9, f9, _⟩ := HC.out w1 hs1.tail.tail; have d1 := hs1.tail.blk_cell 0 rfl; have d2 := hs1.tail.blk_cell 1 rfl; have HS := hid (HF.out _ _ hs1); clear hs1)
       all_goals
        go_wp2_with fail
        go_roundw
        case rel => exact ⟨i + 1, by omega, by go_num, HS.out⟩
        case measure => simp [intOf]; omega
    ·have hil : i = l.length := by omega
     subst hil
     rw [List.take_length] at hsr
     obtain ⟨c9, f9, hl9⟩ := hsr.store_last
     have hfin : InstPost w0 b o V last at_ l L (.returned .nilIface) (wr.setCell ⟨b, o + 10, none⟩ (.int .i64 at_)) := by
      unfold InstPost; rw [if_pos ⟨h1', h2'⟩, HB.out]; exact ⟨rfl, hl9 at_⟩
     have HF := hid hfin; clear hfin hl9 hsr
     go_wp2_with fail
     go_ret
     exact HF.out
end Go.Proofs.YtdlkjppppdminaaGreatDoor
/- More words for walks: whole arrays, clones. -/
namespace Go.Sep
open Go Go.RowKit
variable {P : Program} {w w0 : World} {L : List HProp}
theorem wpList_load_arr {ops : Array Oper} {rest : List Oper} {o : Oper} {a : Act} {Q : Exit → Act → World → Prop} (hg : o.guard = none) (t : TypeId) (x : Operand) (hop : o.op = .load t x)
  (ad : Addr) (hx : a.eval x = .pointer (some ad)) (n : Nat) (e : TypeId) (ht : P.underlying t = some (.array n e)) (cs : List Value) (hsz' : (P.info? t).map (·.size) = some cs.length)
  (hc : ∀ j u, cs[j]? = some u → w.cell? (ad.add j) = some u) (h : wpList P ops Q rest (a.put o.dst (.agg cs.toArray)) w) : wpList P ops Q (o :: rest) a w :=
 wpList_plain hg fun K hK => by
  obtain ⟨i, hi, hsz⟩ := Option.map_eq_some_iff.1 hsz'
  have hl := run_loadCells_list (P := P) w ad cs hc
  have hrun : (loadVar t ad).run P w = .ok (.agg cs.toArray) w := by simp [loadVar, isAgg, run_underlying ht, sizeOf, typeInfo, hi, hsz, hl]
  unfold Oper.wp execOp
  simp only [hop, hx, Instr.loadAt, Instr.sureAddr, Sem.run_bind, Sem.run_pure, Result.andThen_ok, hrun]
  exact hK _ _ h
theorem run_index_arr {t e : TypeId} {n : Nat} {d : TypeDesc} (ht : P.underlying t = some (.array n e)) (he : P.underlying e = some d) (hd : (match d with | .struct _ | .array _ _ => false | _ => true) = true)
  (hsz : (P.info? e).map (·.size) = some 1) {cs : List Value} {i : Nat} {v : Value} (hi : i < n) (hv : cs[i]? = some v) (w : World) :
  (Instr.index t (.agg cs.toArray) (.int .i64 i)).run P w = .ok v w := by
 obtain ⟨info, h1, h2⟩ := Option.map_eq_some_iff.1 hsz
 have ha : (isAgg e).run P w = .ok false w := by
  simp only [isAgg, Sem.run_bind, run_underlying he, Result.andThen_ok]
  cases d <;> simp_all
 simp [Instr.index, asIntOf, run_underlying ht, hi, sizeOf, typeInfo, h1, h2, part, ha, hv]
end Go.Sep
/- The program's store: Newer, Many, Sweep. -/
namespace Go.Proofs.YtdlkjppppdminaaGreatDoor
open Go Go.RowKit Go.Sep
theorem Tryz.info3 : (Tryz.prog.info? 3).map (fun i => (i.zero, i.size, i.bytes)) = some (some (.int .i64 0), 1, 8) := by kernel_rfl
def newerL (vs : Vers) (at_ : Int) : List Int := (vs.filter fun p => decide (at_ < p.1)).map (·.1)
theorem newerL_snoc (vs : Vers) (p : Int × Int) (at_ : Int) : newerL (vs ++ [p]) at_ = newerL vs at_ ++ if at_ < p.1 then [p.1] else [] := by
 unfold newerL; rw [List.filter_append, List.map_append]; by_cases h : at_ < p.1 <;> simp [h]
theorem newerL_le (vs : Vers) (at_ : Int) : (newerL vs at_).length ≤ vs.length := by unfold newerL; rw [List.length_map]; exact List.length_filter_le _ _
def NewPost (w0 : World) (b o : Nat) (V : List Vers) (last at_ : Int) (vs : Vers) (L : List HProp) (e : Ending) (w' : World) : Prop :=
 ∃ v, e = .returned (.tuple #[v, .nilIface]) ∧ S w0 w' (sl 3 1 v (newerL vs at_).length (icells (newerL vs at_)) :: storeP 99 b o V last :: L)
set_option maxHeartbeats 1000000 in
theorem newer_any (w0 w : World) (b o : Nat) (V : List Vers) (last at_ : Int) (k : Nat) (vs : Vers) (L : List HProp) (hk : k < 10)
  (hs : S w0 w (storeP 99 b o V last :: L)) (hV : V[k]? = some vs) (hb : vs.length ≤ 2000000) :
  Calls Tryz.prog 149 #[.pointer (some ⟨b, o, none⟩), .int .i64 k, .int .i64 at_] w (NewPost w0 b o V last at_ vs L) := by
 have hk1 : decide (keyOk (k : Int)) = true := decide_eq_true ⟨by omega, by omega⟩
 obtain ⟨v, vs', X, hVk, hsk, hcell, hback, -, -⟩ := hs.store_key k hk
 obtain rfl : vs = vs' := Option.some.inj (hV.symm.trans hVk)
 obtain ⟨a0, cp, rfl, hcp, hcp2, _⟩ := hsk.sl_val
 obtain ⟨c3, _, _⟩ := hcell w hsk.tail
 unfold maxLen at hcp2
 clear hs hV hVk hcell
 go_enter Tryz.func149, Tryz.ntmps149
 go_wp2_with (first | (go_at_call 53; refine (right_any _ _).mono ?_; rintro e w' ⟨rfl, rfl⟩))
 go_loopw [8, 22] (fun u c wr => ∃ i : Nat, i ≤ vs.length ∧ c = .int .i64 i ∧ S w0 wr (sl 3 1 u (newerL (vs.take i) at_).length (icells (newerL (vs.take i) at_)) :: sl 99 2 (.slice a0 vs.length cp) vs.length (pcells vs) :: X :: L)) (fun _ c _ => vs.length - (intOf c).toNat)
 case atStart => exact ⟨0, Nat.zero_le _, rfl, by simpa [newerL, icells] using hsk.sl_nil⟩
 case round =>
  obtain ⟨i, hi, rfl, hsr⟩ := hrel
  clear c3 hsk
  by_cases hlt : i < vs.length
  ·have hp : vs[i]? = some vs[i] := by simp [hlt]
   generalize vs[i] = p at hp
   have htk := newerL_snoc (vs.take i) p at_
   rw [← take_succ_get hp] at htk
   have hle := newerL_le (vs.take i) at_
   rw [List.length_take] at hle
   obtain ⟨g, og, rfl, hg, c1, c2⟩ := (hsr.swap).sl_pair hp
   have HP := hid hp; clear hp
   have HT := hid htk; clear htk
   by_cases hgt : at_ < p.1
   ·obtain ⟨i0, hi0, hz0, hz1, hz2⟩ := info_parts Tryz.info3
    have hs1 := (hsr.alloc #[.int .i64 p.1, .int .i64 p.2] 99).tail.alloc #[.int .i64 p.1] 3
    rw [World.size_alloc] at hs1
    have hn1 := news_blk hs1
    have hs2 := hs1.tail
    have H1 := hid hs2; have H2 := hid hn1; clear hs1 hs2 hn1 hsr
    go_wp2_with (at_builtin; refine wpList_append rfl (.tmp 30) (.tmp 33) 47 rfl 3 i0 _ 1 8 Tryz.underlying47 hi0 hz0 hz1 hz2 rfl (by decide) H1.out rfl (some ⟨wr.heap.size + 1, 0, none⟩) 1 1 [.int .i64 p.1] rfl rfl H2.out (by simp [Value.oneCell']) (by unfold maxLen; omega) (by omega) ?_; intro v1 w1 hs1; have HS := hid hs1; clear hs1)
    go_roundw
    case rel => exact ⟨i + 1, by omega, by go_num, by rw [HT.out, if_pos hgt]; simpa [icells_append, icells] using HS.out⟩
    case measure => simp [intOf]; omega
   ·have hs1 := (hsr.alloc #[.int .i64 p.1, .int .i64 p.2] 99).tail
    have H1 := hid hs1; clear hs1 hsr
    go_wp2
    go_roundw
    case rel => exact ⟨i + 1, by omega, by go_num, by rw [HT.out, if_neg hgt]; simpa using H1.out⟩
    case measure => simp [intOf]; omega
  ·have hil : i = vs.length := by omega
   subst hil
   rw [List.take_length] at hsr
   have hfin : ∀ v, S w0 wr (sl 3 1 v (newerL vs at_).length (icells (newerL vs at_)) :: sl 99 2 (.slice a0 vs.length cp) vs.length (pcells vs) :: X :: L) → NewPost w0 b o V last at_ vs L (.returned (.tuple #[v, .nilIface])) wr := by
    intro v h; exact ⟨v, rfl, (hback wr (_ :: L) (h.perm (by exact List.Perm.trans (List.Perm.swap _ _ _) (List.Perm.cons _ (List.Perm.swap _ _ _))))).swap⟩
   have HF := hid (hfin _ hsr); clear hfin hsr hback
   go_wp2
   go_ret2
   exact HF.out
theorem Tryz.size66 : (Tryz.prog.info? 66).map (·.size) = some 1 := by kernel_rfl
theorem Tryz.size67 : (Tryz.prog.info? 67).map (·.size) = some 10 := by kernel_rfl
def manyV (V : List Vers) : Nat := (V.map List.length).sum
theorem manyV_take {V : List Vers} {i : Nat} {vs : Vers} (h : V[i]? = some vs) : manyV (V.take (i + 1)) = manyV (V.take i) + vs.length := by
 unfold manyV; rw [take_succ_get h, List.map_append, List.sum_append]; simp
theorem manyV_le {V : List Vers} {N : Nat} (h : ∀ vs ∈ V, vs.length ≤ N) : manyV V ≤ N * V.length := by
 unfold manyV
 induction V with
 | nil => simp
 | cons v V ih =>
  have h1 := h v (by simp)
  have h2 := ih (fun vs hv => h vs (by simp [hv]))
  simp only [List.map_cons, List.sum_cons, List.length_cons, Nat.mul_add, Nat.mul_one]
  omega
end Go.Proofs.YtdlkjppppdminaaGreatDoor
/- What comes in as arguments: slices of pairs, and slices of those. -/
namespace Go.Proofs.YtdlkjppppdminaaGreatDoor
open Go Go.RowKit Go.Sep
theorem Tryz.info91 : (Tryz.prog.info? 91).map (fun i => (i.zero, i.size, i.bytes)) = some (some (.agg #[.int .i64 0, .int .i64 0]), 2, 16) := by kernel_rfl
end Go.Proofs.YtdlkjppppdminaaGreatDoor
/- errors.As at the target *api.Errno (after the guide's worked example ToyasAs), and api.Tell. -/
namespace Go.Proofs.YtdlkjppppdminaaGreatDoor
open Go Go.RowKit Go.Sep Go.Extern.Stop Go.Stop Go.Extern
theorem Tryz.valueOfT (t : Addr) (w : World) : (ReflectliteValue.unpack (.iface 112 (.pointer (some t)))).run Tryz.prog w
  = .ok (.agg #[.pointer (some ⟨9, 112, none⟩), .pointer (some ⟨w.heap.size, 0, none⟩), .int .u64 150]) (w.alloc (.cells #[.pointer (some t)] 112)) := by kernel_rfl
theorem Tryz.typeT (a : Addr) (w : World) : (ReflectliteValue.methodAny (ReflectliteValue.valueError "reflectlite.Value.Type" 0) (fun t _ _ _ => ReflectliteType.toType t) #[.agg #[.pointer (some ⟨9, 112, none⟩), .pointer (some a), .int .u64 150]]).run Tryz.prog w
  = .ok (.iface 193 (.agg #[.pointer (some ⟨9, 112, none⟩)])) w := by kernel_rfl
theorem Tryz.methodKind (h : Value) (w : World) : (Go.method 400 193 (.agg #[h]) "Kind").run Tryz.prog w = .ok (221, h) w := by kernel_rfl
theorem Tryz.kindT (w : World) : ((ReflectliteType.abiMethod fun t => Functor.map (fun a : Nat => Value.int IntKind.u8 (a : Int)) (Rtype.kind t)) #[.pointer (some ⟨9, 112, none⟩)]).run Tryz.prog w = .ok (.int .u8 22) w := by kernel_rfl
theorem Tryz.kindE (w : World) : ((ReflectliteType.abiMethod fun t => Functor.map (fun a : Nat => Value.int IntKind.u8 (a : Int)) (Rtype.kind t)) #[.pointer (some ⟨9, 54, none⟩)]).run Tryz.prog w = .ok (.int .u8 2) w := by kernel_rfl
theorem rlm (z : Sem Value) (f : TypeId → Addr → Nat → Nat → Sem Value) (v : Value) :
  ReflectliteValue.method z f #[v] = (do match ← ReflectliteValue.parts v with | none => z | some (t, a, fl) => f t a fl (fl % 32)) := rfl
theorem Tryz.partsT (a : Addr) (w : World) : (ReflectliteValue.parts (.agg #[.pointer (some ⟨9, 112, none⟩), .pointer (some a), .int .u64 150])).run Tryz.prog w = .ok (some (112, a, 150)) w := by kernel_rfl
theorem Tryz.isNilT (a p : Addr) (W : World) (ha : W.cell? a = some (.pointer (some p))) :
  (ReflectliteValue.method (ReflectliteValue.valueError "reflectlite.Value.IsNil" 0) ReflectliteValue.isNil #[.agg #[.pointer (some ⟨9, 112, none⟩), .pointer (some a), .int .u64 150]]).run Tryz.prog W = .ok (.bool false) W := by
 rw [rlm]
 simp only [Sem.run_bind, Tryz.partsT, Result.andThen]
 simp [ReflectliteValue.isNil, loadVar, isAgg, underlying, Tryz.underlying112, ha, Result.andThen]
theorem Tryz.methodElem (h : Value) (w : World) : (Go.method 400 193 (.agg #[h]) "Elem").run Tryz.prog w = .ok (237, .agg #[h]) w := by kernel_rfl
theorem Tryz.methodImplements (h : Value) (w : World) : (Go.method 400 193 (.agg #[h]) "Implements").run Tryz.prog w = .ok (238, .agg #[h]) w := by kernel_rfl
theorem Tryz.methodAssignableTo (h : Value) (w : World) : (Go.method 400 193 (.agg #[h]) "AssignableTo").run Tryz.prog w = .ok (235, .agg #[h]) w := by kernel_rfl
theorem Tryz.elemT (w : World) : (ReflectliteType.method ReflectliteType.elem #[.agg #[.pointer (some ⟨9, 112, none⟩)]]).run Tryz.prog w = .ok (.iface 193 (.agg #[.pointer (some ⟨9, 54, none⟩)])) w := by kernel_rfl
theorem Tryz.implementsE (w : World) : (ReflectliteType.relation "Implements" ReflectliteType.implements_ #[.agg #[.pointer (some ⟨9, 54, none⟩)], .iface 193 (.agg #[.pointer (some ⟨9, 42, none⟩)])]).run Tryz.prog w = .ok (.bool true) w := by kernel_rfl
theorem Tryz.typeOfE (v : Value) (w : World) : (ReflectliteType.typeOf #[.iface 54 v]).run Tryz.prog w = .ok (.iface 193 (.agg #[.pointer (some ⟨9, 54, none⟩)])) w := by kernel_rfl
theorem Tryz.typeOfA (v : Value) (w : World) : (ReflectliteType.typeOf #[.iface 95 v]).run Tryz.prog w = .ok (.iface 193 (.agg #[.pointer (some ⟨9, 95, none⟩)])) w := by kernel_rfl
theorem Tryz.assignableE (w : World) : (ReflectliteType.relation "AssignableTo" ReflectliteType.assignableTo #[.agg #[.pointer (some ⟨9, 54, none⟩)], .iface 193 (.agg #[.pointer (some ⟨9, 54, none⟩)])]).run Tryz.prog w = .ok (.bool true) w := by kernel_rfl
theorem Tryz.assignableA (w : World) : (ReflectliteType.relation "AssignableTo" ReflectliteType.assignableTo #[.agg #[.pointer (some ⟨9, 95, none⟩)], .iface 193 (.agg #[.pointer (some ⟨9, 54, none⟩)])]).run Tryz.prog w = .ok (.bool false) w := by kernel_rfl
theorem Tryz.valueOfE (e : Int) (w : World) : (ReflectliteValue.unpack (.iface 54 (.int .i64 e))).run Tryz.prog w
  = .ok (.agg #[.pointer (some ⟨9, 54, none⟩), .pointer (some ⟨w.heap.size, 0, none⟩), .int .u64 130]) (w.alloc (.cells #[.int .i64 e] 54)) := by kernel_rfl
theorem Tryz.elemOfT (w : World) : (Rtype.elem? 112).run Tryz.prog w = .ok (some 54) w := by kernel_rfl
theorem Tryz.mkE (p : Addr) (w : World) : (ReflectliteValue.mk 54 p ReflectliteValue.flagAddr).run Tryz.prog w = .ok (.agg #[.pointer (some ⟨9, 54, none⟩), .pointer (some p), .int .u64 386]) w := by kernel_rfl
theorem Tryz.elemVT (a p : Addr) (W : World) (ha : W.cell? a = some (.pointer (some p))) :
  (ReflectliteValue.method (ReflectliteValue.valueError "reflectlite.Value.Elem" 0) ReflectliteValue.elem #[.agg #[.pointer (some ⟨9, 112, none⟩), .pointer (some a), .int .u64 150]]).run Tryz.prog W
   = .ok (.agg #[.pointer (some ⟨9, 54, none⟩), .pointer (some p), .int .u64 386]) W := by
 rw [rlm]
 simp only [Sem.run_bind, Tryz.partsT, Result.andThen]
 simp [ReflectliteValue.elem, loadVar, isAgg, underlying, Tryz.underlying112, ha, Result.andThen, Tryz.elemOfT, Tryz.mkE]
theorem rls (v x : Value) : ReflectliteValue.set #[v, x] = (do
  let (some (dst, a, fl), some (src, b, _)) := (← ReflectliteValue.parts v, ← ReflectliteValue.parts x)
   | unsupported (.noEntry "extern/(internal/reflectlite.Value).Set.zeroValue")
  if fl / ReflectliteValue.flagAddr % 2 == 0 then unsupported (.noEntry "extern/(internal/reflectlite.Value).Set.unaddressable")
  let val ← loadVar src b
  if ← Rtype.directlyAssignable dst src then storeVar dst a val
  else if ← Rtype.implements dst src then
   if (← Rtype.kind src) == 20 then
    match val with
    | .nilIface => unsupported (.noEntry "extern/reflectlite: a nil value of one interface type handed on as a value of another")
    | _ => storeVar dst a val
   else storeVar dst a (.iface src val)
  else panicString ("reflectlite.Set: value of type " ++ (← Rtype.spelt src) ++ " is not assignable to type " ++ (← Rtype.spelt dst))
  pure (.tuple #[])) := rfl
theorem Tryz.partsEa (a : Addr) (w : World) : (ReflectliteValue.parts (.agg #[.pointer (some ⟨9, 54, none⟩), .pointer (some a), .int .u64 386])).run Tryz.prog w = .ok (some (54, a, 386)) w := by kernel_rfl
theorem Tryz.partsE (a : Addr) (w : World) : (ReflectliteValue.parts (.agg #[.pointer (some ⟨9, 54, none⟩), .pointer (some a), .int .u64 130])).run Tryz.prog w = .ok (some (54, a, 130)) w := by kernel_rfl
theorem Tryz.directE (w : World) : (Rtype.directlyAssignable 54 54).run Tryz.prog w = .ok true w := by kernel_rfl
theorem Tryz.setE (ta b : Addr) (e : Int) (old : Value) (W : World) (hb : W.cell? b = some (.int .i64 e)) (ht : W.cell? ta = some old) (hf : W.frozen? ta = false) :
  (ReflectliteValue.set #[.agg #[.pointer (some ⟨9, 54, none⟩), .pointer (some ta), .int .u64 386], .agg #[.pointer (some ⟨9, 54, none⟩), .pointer (some b), .int .u64 130]]).run Tryz.prog W
   = .ok (.tuple #[]) (W.setCell ta (.int .i64 e)) := by
 rw [rls]
 simp only [Sem.run_bind, Tryz.partsEa, Tryz.partsE, Result.andThen]
 simp [ReflectliteValue.flagAddr, loadVar, isAgg, underlying, Tryz.underlying54, hb, Result.andThen, Tryz.directE, storeVar, Value.cells, storeCells, Addr.add]
 rw [run_store Tryz.prog W ta _ _ (by rfl)]
 simp [ht, hf]
end Go.Proofs.YtdlkjppppdminaaGreatDoor
/- errors.As at *api.Errno: an Errno; an At around one. api.Tell. -/
namespace Go.Proofs.YtdlkjppppdminaaGreatDoor
open Go Go.RowKit Go.Sep Go.Extern.Stop Go.Stop Go.Extern
def ErrT (w : World) : Prop := w.cell? ⟨0, 0, none⟩ = some (.iface 193 (.agg #[.pointer (some ⟨9, 42, none⟩)]))
theorem ErrT.lt {w : World} (h : ErrT w) : 0 < w.heap.size := World.block_lt_of_cell? w _ h
theorem ErrT.of {w0 w : World} {L : List HProp} (h : ErrT w0) (hs : S w0 w L) : ErrT w := (hs.1.cell (p := ⟨0, 0, none⟩) h.lt).trans h
set_option maxRecDepth 20000 in
set_option maxHeartbeats 4000000 in
theorem as_hit (e : Int) (t : Nat) (old : Value) (w0 w : World) (L : List HProp) (hE : ErrT w0) (hs : S w0 w (blk t 54 [old] :: L)) :
  Calls Tryz.prog 56 #[.iface 54 (.int .i64 e), .iface 112 (.pointer (some ⟨t, 0, none⟩))] w fun ev w' => ev = .returned (.bool true) ∧ S w0 w' (blk t 54 [.int .i64 e] :: L) := by
 have hg := hE.of hs
 unfold ErrT at hg
 have hlt := (hE.of hs).lt
 have hs1 := hs.alloc #[.pointer (some ⟨t, 0, none⟩)] 112
 have hs2 := hs1.alloc #[.pointer (some ⟨9, 112, none⟩), .pointer (some ⟨w.heap.size, 0, none⟩), .int .u64 150] 147
 have hs3 := hs2.alloc #[.pointer (some ⟨9, 112, none⟩), .pointer (some ⟨w.heap.size, 0, none⟩), .int .u64 150] 147
 have hs4 := hs3.alloc #[.int .i64 e] 54
 simp only [World.size_alloc] at hs2 hs3 hs4
 have hfin := hs4.tail.tail.tail.tail.blk_set 0 (by simp) (.int .i64 e)
 have h6 := @run_callFunc_extern Tryz.prog 89 _ (fun args => ReflectliteValue.unpack (args.getD 0 (.tuple #[]))) Tryz.func89 (by kernel_rfl) (by kernel_rfl) (by kernel_rfl) (by kernel_rfl)
 have h7 := @run_callFunc_extern Tryz.prog 90 _ (ReflectliteValue.methodAny (ReflectliteValue.valueError "reflectlite.Value.Type" 0) (fun t _ _ _ => ReflectliteType.toType t)) Tryz.func90 (by kernel_rfl) (by kernel_rfl) (by kernel_rfl) (by kernel_rfl)
 have h8 := @run_callFunc_extern Tryz.prog 91 _ (ReflectliteValue.method (ReflectliteValue.valueError "reflectlite.Value.IsNil" 0) ReflectliteValue.isNil) Tryz.func91 (by kernel_rfl) (by kernel_rfl) (by kernel_rfl) (by kernel_rfl)
 have h27 := @run_callFunc_extern Tryz.prog 221 _ (ReflectliteType.abiMethod fun t => do pure (.int .u8 (← Rtype.kind t))) Tryz.func221 (by kernel_rfl) (by kernel_rfl) (by kernel_rfl) (by kernel_rfl)
 have h37 := @run_callFunc_extern Tryz.prog 237 _ (ReflectliteType.method ReflectliteType.elem) Tryz.func237 (by kernel_rfl) (by kernel_rfl) (by kernel_rfl) (by kernel_rfl)
 have h38 := @run_callFunc_extern Tryz.prog 238 _ (ReflectliteType.relation "Implements" ReflectliteType.implements_) Tryz.func238 (by kernel_rfl) (by kernel_rfl) (by kernel_rfl) (by kernel_rfl)
 have h10 := @run_callFunc_extern Tryz.prog 127 _ ReflectliteType.typeOf Tryz.func127 (by kernel_rfl) (by kernel_rfl) (by kernel_rfl) (by kernel_rfl)
 have h35 := @run_callFunc_extern Tryz.prog 235 _ (ReflectliteType.relation "AssignableTo" ReflectliteType.assignableTo) Tryz.func235 (by kernel_rfl) (by kernel_rfl) (by kernel_rfl) (by kernel_rfl)
 have h11 := @run_callFunc_extern Tryz.prog 128 _ (ReflectliteValue.method (ReflectliteValue.valueError "reflectlite.Value.Elem" 0) ReflectliteValue.elem) Tryz.func128 (by kernel_rfl) (by kernel_rfl) (by kernel_rfl) (by kernel_rfl)
 have h12 := @run_callFunc_extern Tryz.prog 129 _ ReflectliteValue.set Tryz.func129 (by kernel_rfl) (by kernel_rfl) (by kernel_rfl) (by kernel_rfl)
 have tO := Tryz.typeOfE
 have mA := Tryz.methodAssignableTo
 have a25 := Tryz.assignableE
 have v25 := Tryz.valueOfE
 have f6 := Tryz.valueOfT
 have f7 := Tryz.typeT
 have mK := Tryz.methodKind
 have mE := Tryz.methodElem
 have mI := Tryz.methodImplements
 have k27 := Tryz.kindT
 have k25 := Tryz.kindE
 have e27 := Tryz.elemT
 have i25 := Tryz.implementsE
 have n8 := Tryz.isNilT ⟨w.heap.size, 0, none⟩ ⟨t, 0, none⟩ _ (hs2.tail.blk_cell 0 rfl)
 have el := Tryz.elemVT ⟨w.heap.size, 0, none⟩ ⟨t, 0, none⟩ _ (hs3.tail.tail.blk_cell 0 rfl)
 have st := Tryz.setE ⟨t, 0, none⟩ ⟨w.heap.size + 1 + 1 + 1, 0, none⟩ e old _ (hs4.blk_cell 0 rfl) (hs4.tail.tail.tail.tail.blk_cell 0 rfl) (hs4.tail.tail.tail.tail.blk_free 0)
 have hg2 : ((w.alloc (.cells #[.pointer (some ⟨t, 0, none⟩)] 112)).alloc (.cells #[.pointer (some ⟨9, 112, none⟩), .pointer (some ⟨w.heap.size, 0, none⟩), .int .u64 150] 147)).cell? ⟨0, 0, none⟩ = some (.iface 193 (.agg #[.pointer (some ⟨9, 42, none⟩)])) := hE.of hs2
 have HF := hid hfin
 clear hs1 hs2 hs3 hs4 hfin hs
 go_enter Tryz.func56, Tryz.ntmps56
 go_wp2
 refine wp_loop_rounds 1 ?_
 rw [rounds_succ]
 go_wp2
 go_ret
 exact ⟨rfl, HF.out⟩
def Err.errno : Err → Int
 | .nil => 0
 | .no e => e
 | .at_ e _ => e
theorem tell_nil (w : World) : Calls Tryz.prog 28 #[.nilIface] w fun ev w' => ev = .returned (.int .i64 0) ∧ w = w' := by
 go_enter Tryz.func28, Tryz.ntmps28
 go_wp2
 go_ret
 exact ⟨rfl, rfl⟩
set_option maxHeartbeats 1000000 in
theorem tell_no (e : Int) (w0 w : World) (L : List HProp) (hE : ErrT w0) (hs : S w0 w L) :
  Calls Tryz.prog 28 #[.iface 54 (.int .i64 e)] w fun ev w' => ev = .returned (.int .i64 e) ∧ S w0 w' L := by
 have hs1 := hs.alloc #[.int .i64 0] 54
 have H1 := hid hs1
 clear hs1 hs
 go_enter Tryz.func28, Tryz.ntmps28
 go_wp2_with (go_at_call 56; refine (as_hit _ _ _ w0 _ L hE H1.out).mono ?_; rintro ev w' ⟨rfl, hs2⟩; have d1 := hs2.blk_cell 0 rfl; have H2 := hid hs2; clear hs2)
 go_ret
 exact ⟨rfl, H2.out.tail⟩
end Go.Proofs.YtdlkjppppdminaaGreatDoor
/- From a walk to a given statement: what a law's proof has in common; slices of pairs among the arguments. -/
namespace Go.Proofs.YtdlkjppppdminaaGreatDoor
open Go Go.RowKit Go.Sep Go.ChangeShapes Go.WideShapes Go.ChangeAt Go.Deep
theorem Tryz.own : ownKnob Tryz.prog.godebug = none := by kernel_rfl
theorem Tryz.et : Tryz.prog.globalNamed "errors.errorType" = some 0 := by kernel_rfl
theorem Tryz.rt : (Tryz.prog.cutTypes.find? (·.1 == "internal/reflectlite.rtype")).map (·.2) = some 193 := by kernel_rfl
theorem Tryz.tsize : Tryz.prog.types.size = 300 := by kernel_rfl
theorem Tryz.oneRow : ((List.range 300).filter fun t => Tryz.prog.rowNamed t [101, 114, 114, 111, 114]) = [42] := by kernel_rfl
theorem Tryz.laidOut : laidOutB Tryz.prog = true := by kernel_rfl
theorem handle_of_laid {W : World} (h : laidMetH Tryz.prog [("errors.errorType", Rows.laid_errors_errorType)] W) : ErrT W := by
 have h' : laidMet Tryz.prog [] W ∧ handlesMet Tryz.prog [("errors.errorType", Rows.laid_errors_errorType)] W := h
 obtain ⟨name, u, ty, e1, e2, e3, e4, e5⟩ := h'.2 _ (List.mem_singleton.2 rfl)
 have en : name = [101, 114, 114, 111, 114] := (Option.some.inj e1).symm
 subst en
 obtain rfl := Option.some.inj (Tryz.rt.symm.trans e2)
 have hm : ty ∈ (List.range 300).filter fun t => Tryz.prog.rowNamed t [101, 114, 114, 111, 114] := List.mem_filter.2 ⟨List.mem_range.2 (by rw [← Tryz.tsize]; exact e3), e4⟩
 rw [Tryz.oneRow] at hm
 obtain rfl := List.mem_singleton.1 hm
 have hh : typeHandle Tryz.prog 42 = .pointer (some ⟨9, 42, none⟩) := by kernel_rfl
 rw [hh] at e5
 unfold ErrT
 simpa using World.var?_cell Tryz.et e5 0
theorem trodAll_below {H : Type} {enc : TypeId × Value → H} {P : Program} (hl : laidOutB P = true) {W W' : World} (hb : Below W.heap.size W W') :
  ∀ (ts : List TypeId) (vs : List Value) (ds : List (DataW H)) (ps : List MemPlace), (∀ t ∈ ts, P.readableRec t = true ∧ t < P.types.size) → DataW.TrodAll enc P W 0 (fun _ => true) true ts vs ds ps → (∀ x ∈ ps, x.block < W.heap.size) →
   DataW.TrodAll enc P W' 0 (fun b => decide (b < W.heap.size)) true ts vs ds ps
 | [], vs, ds, ps, _, h, _ => by obtain ⟨rfl, rfl, rfl⟩ := trodAll_nil h; exact trodAll_mk0
 | t :: ts, vs, ds, ps, ht, h, hlt => by
  obtain ⟨v, vs', d, ds', p, q, rfl, rfl, rfl, hd, hr⟩ := trodAll_cons h
  exact trodAll_cons_mk (Below.trod hl (ht t (by simp)).1 (ht t (by simp)).2 hd hb (fun x hx => hlt x (by simp [hx]))) (trodAll_below hl hb ts vs' ds' q (fun t h => ht t (by simp [h])) hr (fun x hx => hlt x (by simp [hx])))
theorem post_law {H : Type} {enc : TypeId × Value → H} {P : Program} {f : Func} {s : ChangeSpec} {W W' : World} {args : Array Value} {ds gs : List (DataW H)} {before : List MemPlace} {t : TypeId} (hl : laidOutB P = true)
  (hread : f.params.toList.all (fun t => P.readableRec t && decide (t < P.types.size)) = true) (hr : f.resultTypes = #[t]) (ht : P.underlying t = some .bool) (hsv : s.vars = [])
  (hfn : s.fn H ds = { results := [.lit (.bool true)], args := ds }) (hW : DataW.Whole enc P f.params.toList s.vars false W args.toList ds gs before) (hb : Below W.heap.size W W') :
  s.post enc P f false true false false W args (.bool true) W' := by
 have hW' := hW
 have hlt := fun p hp => hW.lt p hp
 obtain ⟨p, q, hA, hV, rfl, _, _⟩ := hW
 rw [hsv] at hV
 obtain ⟨rfl, rfl⟩ := trodVars_none hV
 simp only [List.append_nil] at hlt
 refine ⟨ds, [], p ++ [], [], p, [], hW', ?_, ?_, ?_, hb.frame _, fun h => by cases h⟩
 ·rw [hr, List.append_nil, hfn]; exact trodAll_mk1 (shut_bool ht true)
 ·rw [List.append_nil, hfn]
  refine trodAll_below hl hb _ _ _ _ (fun t h => ?_) hA hlt
  have := List.all_eq_true.1 hread t h
  simpa using this
 ·rw [List.append_nil, hfn, hsv]; rfl
end Go.Proofs.YtdlkjppppdminaaGreatDoor
/- A slice of structs among the arguments. -/
namespace Go.Proofs.YtdlkjppppdminaaGreatDoor
open Go Go.RowKit Go.Sep Go.ChangeShapes Go.WideShapes Go.ChangeAt Go.Deep
end Go.Proofs.YtdlkjppppdminaaGreatDoor
/- What a place of the disk holds: words, their sum, and how it is cut into words again. No walk in sight. -/
namespace Go.Proofs.YtdlkjppppdminaaGreatDoor
open Go Go.RowKit Go.Sep
def num (i : Int) : List UInt8 := Lib.itoa i
def pwords (l : Vers) : List (List UInt8) := l.flatMap fun p => [num p.1, num p.2]
def swords (k : Nat) (l : Vers) : List (List UInt8) := num k :: pwords l
def textL (k : Nat) (l : Vers) : List UInt8 := Lib.join (swords k l) [32]
def fnvStep (n : Nat) (b : UInt8) : Nat := ((n ^^^ b.toNat) * 1099511628211) % 18446744073709551616
def fnvFrom (n : Nat) (s : List UInt8) : Nat := s.foldl fnvStep n
def fnv0 : Nat := 14695981039346656037
def fnv (s : List UInt8) : Nat := fnvFrom fnv0 s
def sealL (k : Nat) (l : Vers) : List UInt8 := textL k l ++ 32 :: Lib.decDigits (fnv (textL k l))
def sealB (k : Nat) (l : Vers) : ByteArray := ⟨(sealL k l).toArray⟩
def Two (l : Vers) : Prop := ∀ p ∈ l, (0 ≤ p.1 ∧ p.1 < 100) ∧ (0 ≤ p.2 ∧ p.2 < 100)
theorem fnvStep_lt (n : Nat) (b : UInt8) : fnvStep n b < 18446744073709551616 := Nat.mod_lt _ (by decide)
theorem fnvFrom_lt : ∀ (s : List UInt8) (n : Nat), n < 18446744073709551616 → fnvFrom n s < 18446744073709551616
 | [], _, h => h
 | b :: s, _, _ => fnvFrom_lt s _ (fnvStep_lt _ b)
theorem fnv_lt (s : List UInt8) : fnv s < 18446744073709551616 := fnvFrom_lt s _ (by decide)
theorem pwords_append (l m : Vers) : pwords (l ++ m) = pwords l ++ pwords m := by simp [pwords]
theorem pwords_length : ∀ l : Vers, (pwords l).length = 2 * l.length
 | [] => rfl
 | p :: l => by have := pwords_length l; simp [pwords] at this ⊢; omega
theorem pwords_take_succ {l : Vers} {j : Nat} {p : Int × Int} (h : l[j]? = some p) : pwords (l.take (j + 1)) = pwords (l.take j) ++ [num p.1, num p.2] := by
 have hl := List.getElem?_eq_some_iff.1 h
 rw [List.take_add_one, h, Option.toList_some, pwords_append]
 simp [pwords]
theorem join_cons2 (x y : List UInt8) (r : List (List UInt8)) : Lib.join (x :: y :: r) [32] = x ++ 32 :: Lib.join (y :: r) [32] := by
 simp [Lib.join, List.intercalate]
def push (b : UInt8) : List (List UInt8) → List (List UInt8)
 | [] => [[b]]
 | x :: r => (b :: x) :: r
def cut : List UInt8 → List (List UInt8)
 | [] => [[]]
 | b :: s => if b = 32 then [] :: cut s else push b (cut s)
theorem cut_blank (s : List UInt8) : cut (32 :: s) = [] :: cut s := by simp [cut]
theorem cut_other {b : UInt8} (h : b ≠ 32) (s : List UInt8) : cut (b :: s) = push b (cut s) := by simp [cut, h]
theorem cut_ne (s : List UInt8) : cut s ≠ [] := by
 cases s with
 | nil => simp [cut]
 | cons b s =>
  by_cases h : b = 32
  ·subst h; rw [cut_blank]; simp
  ·rw [cut_other h]; cases cut s <;> simp [push]
theorem cut_word {x : List UInt8} (h : (32 : UInt8) ∉ x) : cut x = [x] := by
 induction x with
 | nil => rfl
 | cons b s ih =>
  simp only [List.mem_cons, not_or] at h
  rw [cut_other (fun e => h.1 e.symm), ih h.2]; rfl
theorem cut_word_blank {x : List UInt8} (h : (32 : UInt8) ∉ x) (s : List UInt8) : cut (x ++ 32 :: s) = x :: cut s := by
 induction x with
 | nil => rw [List.nil_append, cut_blank]
 | cons b t ih =>
  simp only [List.mem_cons, not_or] at h
  rw [List.cons_append, cut_other (fun e => h.1 e.symm), ih h.2]; rfl
theorem index_hit {x : List UInt8} (h : (32 : UInt8) ∉ x) (s : List UInt8) : Lib.index (x ++ 32 :: s) [32] = (x.length : Int) := by
 induction x with
 | nil => rw [List.nil_append, Lib.index]; simp [List.isPrefixOf]
 | cons b t ih =>
  simp only [List.mem_cons, not_or] at h
  have hp : ([32] : List UInt8).isPrefixOf (b :: (t ++ 32 :: s)) = false := by simp [List.isPrefixOf, h.1]
  rw [List.cons_append, Lib.index, hp, ih h.2]
  simp only [Bool.false_eq_true, ↓reduceIte, List.length_cons]
  rw [if_neg (by simp)]; omega
theorem first_blank : ∀ {s : List UInt8}, (32 : UInt8) ∈ s → ∃ x t, s = x ++ 32 :: t ∧ (32 : UInt8) ∉ x
 | b :: s, h => by
  by_cases hb : b = 32
  ·exact ⟨[], s, by rw [hb]; rfl, by simp⟩
  ·obtain ⟨x, t, rfl, hx⟩ := first_blank (s := s) (by simpa [Ne.symm hb] using h)
   exact ⟨b :: x, t, rfl, by simp [hx, Ne.symm hb]⟩
theorem splitK_cut (n : Nat) : ∀ (s : List UInt8), s.length < n → Lib.splitK [32] 0 (s.count 32) s = cut s := by
 induction n with
 | zero => intro s hn; omega
 | succ n ih =>
  intro s hn
  by_cases h : (32 : UInt8) ∈ s
  ·obtain ⟨x, t, rfl, hx⟩ := first_blank h
   simp only [List.length_append, List.length_cons] at hn
   have hc : (x ++ 32 :: t).count 32 = t.count 32 + 1 := by rw [List.count_append, List.count_eq_zero.2 hx, List.count_cons_self]; omega
   rw [hc, Lib.splitK, index_hit hx, if_neg (by simp), cut_word_blank hx]
   have e1 : (x ++ 32 :: t).take ((x.length : Int).toNat + 0) = x := by simp
   have e2 : (x ++ 32 :: t).drop ((x.length : Int).toNat + [(32 : UInt8)].length) = t := by simp
   rw [e1, e2, ih t (by omega)]
  ·rw [List.count_eq_zero.2 h, cut_word h]; rfl
def blankB : ByteArray := ⟨#[32]⟩
theorem split_cut (s : ByteArray) : Lib.splitB blankB 0 (Lib.countB s blankB) s = (cut s.data.toList).map fun x => ⟨x.toArray⟩ := by
 have h1 : Lib.countB s blankB = s.data.toList.count 32 := by
  have := Lib.count_one 32 s.data.toList
  rw [← this]; rfl
 have h2 := Lib.splitB_data blankB 0 (Lib.countB s blankB) s
 rw [h1] at h2 ⊢
 rw [show blankB.data.toList = [32] from rfl, splitK_cut _ s.data.toList (Nat.lt_succ_self _)] at h2
 rw [← h2, List.map_map]
 conv => lhs; rw [← List.map_id (Lib.splitB blankB 0 (List.count 32 s.data.toList) s)]
 exact List.map_congr_left fun a _ => by cases a; simp
end Go.Proofs.YtdlkjppppdminaaGreatDoor
/- A torn place: a part of a sealed text is no sealed text. No walk in sight. -/
namespace Go.Proofs.YtdlkjppppdminaaGreatDoor
open Go Go.RowKit Go.Sep
theorem cut_len (t : List UInt8) : (cut t).length ≤ t.length + 1 := by
 induction t with
 | nil => simp [cut]
 | cons b s ih =>
  by_cases h : b = 32
  ·subst h; rw [cut_blank]; simp; omega
  ·rw [cut_other h]
   cases hc : cut s with
   | nil => exact absurd hc (cut_ne s)
   | cons x r => rw [hc] at ih; simp [push] at ih ⊢; omega
theorem swords_length (k : Nat) (l : Vers) : (swords k l).length = 2 * l.length + 1 := by unfold swords; rw [List.length_cons, pwords_length]
def Safe (k : Nat) (l : Vers) : Prop := ∀ m, 1 ≤ m → ∀ p, l[m]? = some p → (0 ≤ p.1 ∧ p.1 < 10) ∧ (fnv (textL k (l.take m)) : Int) ≠ p.1
end Go.Proofs.YtdlkjppppdminaaGreatDoor
/- The library's contracts at this translation: laid by the kit's tool. -/
namespace Go.Proofs.Shs
open Go.Proofs
open Go.Shelf
def Tryz.lays156_ren : Go.Shelf.Ren := ⟨fun | 156 => 64 | 165 => 105 | 166 => 8 | 169 => 10 | 240 => 17 | 241 => 138 | 276 => 33 | 277 => 163 | n => n, fun | 31 => 46 | 9 => 9 | 3 => 3 | 4 => 4 | 0 => 0 | 20 => 20 | 72 => 36 | 76 => 43 | 70 => 33 | 37 => 34 | 75 => 42 | 127 => 62 | 164 => 82 | 5 => 5 | 80 => 45 | n => n, fun | n => n⟩
theorem Tryz.lays156 : Go.Proofs.Lays.n156 Tryz.prog Tryz.lays156_ren := {
 mixed := by kernel_rfl
 f156 := Tryz.func64.trans (congrArg some (by kernel_rfl))
 f165 := Tryz.func105.trans (congrArg some (by kernel_rfl))
 f166 := Tryz.func8.trans (congrArg some (by kernel_rfl))
 f169 := Tryz.func10.trans (congrArg some (by kernel_rfl))
 f240 := Tryz.func17.trans (congrArg some (by kernel_rfl))
 f241 := Tryz.func138.trans (congrArg some (by kernel_rfl))
 f276 := Tryz.func33.trans (congrArg some (by kernel_rfl))
 f277 := Tryz.func163.trans (congrArg some (by kernel_rfl))
 t0 := Tryz.underlying0
 a0 := Tryz.isAgg0
 z0 := Tryz.sizeOf0
 v0 := Tryz.zeroValue0
 t3 := Tryz.underlying3
 a3 := Tryz.isAgg3
 z3 := Tryz.sizeOf3
 v3 := Tryz.zeroValue3
 t4 := Tryz.underlying4
 a4 := Tryz.isAgg4
 z4 := Tryz.sizeOf4
 v4 := Tryz.zeroValue4
 t9 := Tryz.underlying9
 a9 := Tryz.isAgg9
 z9 := Tryz.sizeOf9
 v9 := Tryz.zeroValue9
 t20 := Tryz.underlying20
 a20 := Tryz.isAgg20
 z20 := Tryz.sizeOf20
 v20 := Tryz.zeroValue20
 t31 := Tryz.underlying46
 a31 := Tryz.isAgg46
 z31 := Tryz.sizeOf46
 v31 := Tryz.zeroValue46
 t37 := Tryz.underlying34
 a37 := Tryz.isAgg34
 z37 := Tryz.sizeOf34
 v37 := Tryz.zeroValue34
 t70 := Tryz.underlying33
 a70 := Tryz.isAgg33
 z70 := Tryz.sizeOf33
 v70 := Tryz.zeroValue33
 t72 := Tryz.underlying36
 a72 := Tryz.isAgg36
 z72 := Tryz.sizeOf36
 v72 := Tryz.zeroValue36
 t75 := Tryz.underlying42
 a75 := Tryz.isAgg42
 z75 := Tryz.sizeOf42
 v75 := Tryz.zeroValue42
 t76 := Tryz.underlying43
 a76 := Tryz.isAgg43
 z76 := Tryz.sizeOf43
 v76 := Tryz.zeroValue43
 t127 := Tryz.underlying62
 a127 := Tryz.isAgg62
 z127 := Tryz.sizeOf62
 v127 := Tryz.zeroValue62
 t164 := Tryz.underlying82
 a164 := Tryz.isAgg82
 z164 := Tryz.sizeOf82
 v164 := Tryz.zeroValue82 }
theorem Tryz.Builder_Extra_156 : Builder.Extra Tryz.prog Tryz.lays156_ren := {
 sizeBuilder := by kernel_rfl
 liesBuilder := by kernel_rfl
 t5 := Tryz.underlying5
 a5 := Tryz.isAgg5
 z5 := Tryz.sizeOf5
 v5 := Tryz.zeroValue5
 infoByte := by kernel_rfl
 cellsByte := by kernel_rfl
 sizeByte := by kernel_rfl
 neB5 := by decide }
open Go.RowKit in
theorem Tryz.strings_Join_none (a : Option Addr) (c : Nat) (sep : ByteArray) (w : World) :
  Calls Tryz.prog 64 #[.slice a 0 c, .string sep] w fun e w' => e = .returned (.string ⟨#[]⟩) ∧ w' = w := Any.strings_Join_none Tryz.lays156 Tryz.Builder_Extra_156 a c sep w
open Go.RowKit in
theorem Tryz.strings_Join (bk o c : Nat) (xs : List ByteArray) (sep : ByteArray) (w : World) (hcells : ∀ (j : Nat) x, xs[j]? = some x → w.cell? ⟨bk, o + j, none⟩ = some (.string x)) (hbk : bk < w.heap.size) (hN : xs.length ≤ 140737488355328) (hcap : xs.length ≤ c) (hlen : (Lib.join (xs.map (·.data.toList)) sep.data.toList).length ≤ 140737488355328) :
  Calls Tryz.prog 64 #[.slice (some ⟨bk, o, none⟩) xs.length c, .string sep] w fun e w' => e = .returned (.string ⟨(Lib.join (xs.map (·.data.toList)) sep.data.toList).toArray⟩) ∧ Below w.heap.size w w' := Any.strings_Join Tryz.lays156 Tryz.Builder_Extra_156 bk o c xs sep w hcells hbk hN hcap hlen
def Tryz.lays283_ren : Go.Shelf.Ren := ⟨fun | 283 => 97 | n => n, fun | 3 => 3 | 9 => 9 | 4 => 4 | n => n, fun | n => n⟩
theorem Tryz.lays283 : Go.Proofs.Lays.n283 Tryz.prog Tryz.lays283_ren := {
 mixed := by kernel_rfl
 f283 := Tryz.func97.trans (congrArg some (by kernel_rfl))
 t3 := Tryz.underlying3
 a3 := Tryz.isAgg3
 z3 := Tryz.sizeOf3
 v3 := Tryz.zeroValue3
 t4 := Tryz.underlying4
 a4 := Tryz.isAgg4
 z4 := Tryz.sizeOf4
 v4 := Tryz.zeroValue4
 t9 := Tryz.underlying9
 a9 := Tryz.isAgg9
 z9 := Tryz.sizeOf9
 v9 := Tryz.zeroValue9 }
open Go.Lib in
theorem Tryz.internal_strconv_small (i : Nat) (h : i < 100) (w : World) :
  Calls Tryz.prog 97 #[.int .i64 i] w fun e w' => e = .returned (.string ⟨(Lib.decDigits i).toArray⟩) ∧ w' = w := Any.internal_strconv_small Tryz.lays283 i h w
def Tryz.laysM284_ren : Go.Shelf.Ren := ⟨fun | 284 => 98 | 129 => 133 | 317 => 132 | 318 => 134 | n => n, fun | 53 => 140 | 3 => 3 | 212 => 210 | 0 => 0 | 4 => 4 | 46 => 157 | 5 => 5 | 9 => 9 | n => n, fun | 17 => 6 | n => n⟩
theorem Tryz.laysM284 : Go.Proofs.LaysM.n284 Tryz.prog Tryz.laysM284_ren := {
 mixed := by kernel_rfl
 f129 := Tryz.func133.trans (congrArg some (by kernel_rfl))
 f284 := Tryz.func98.trans (congrArg some (by kernel_rfl))
 f317 := Tryz.func132.trans (congrArg some (by kernel_rfl))
 f318 := Tryz.func134.trans (congrArg some (by kernel_rfl))
 t0 := Tryz.underlying0
 a0 := Tryz.isAgg0
 z0 := Tryz.sizeOf0
 v0 := Tryz.zeroValue0
 t3 := Tryz.underlying3
 a3 := Tryz.isAgg3
 z3 := Tryz.sizeOf3
 v3 := Tryz.zeroValue3
 t4 := Tryz.underlying4
 a4 := Tryz.isAgg4
 z4 := Tryz.sizeOf4
 v4 := Tryz.zeroValue4
 t5 := Tryz.underlying5
 a5 := Tryz.isAgg5
 z5 := Tryz.sizeOf5
 v5 := Tryz.zeroValue5
 t9 := Tryz.underlying9
 a9 := Tryz.isAgg9
 z9 := Tryz.sizeOf9
 v9 := Tryz.zeroValue9
 t46 := Tryz.underlying157
 a46 := Tryz.isAgg157
 z46 := Tryz.sizeOf157
 v46 := Tryz.zeroValue157
 t53 := Tryz.underlying140
 a53 := Tryz.isAgg140
 z53 := Tryz.sizeOf140
 v53 := Tryz.zeroValue140
 t212 := Tryz.underlying210
 a212 := Tryz.isAgg210
 z212 := Tryz.sizeOf210
 v212 := Tryz.zeroValue210
 g17 := by kernel_rfl
 i0 := by kernel_rfl
 i3 := by kernel_rfl
 i4 := by kernel_rfl
 i5 := by kernel_rfl
 i9 := by kernel_rfl
 i46 := by kernel_rfl
 i53 := by kernel_rfl
 i212 := by kernel_rfl
 m17 := by kernel_rfl }
open Go.Lib in
theorem Tryz.internal_strconv_numDigits (u : Nat) (h1 : 1 ≤ u) (h2 : u < 18446744073709551616) (w : World) (htab : Lib.TabIs Tryz.prog w "internal/strconv.uint64pow10" .u64 Lib.pow10Tab) :
  Calls Tryz.prog 98 #[.int .u64 u] w fun e w' => e = .returned (.int .i64 (Lib.nDigits u)) ∧ w' = w := Any.internal_strconv_numDigits Tryz.laysM284 u h1 h2 w htab
def Tryz.lays285_ren : Go.Shelf.Ren := ⟨fun | 285 => 99 | n => n, fun | 37 => 34 | 53 => 140 | 3 => 3 | 4 => 4 | 51 => 206 | 9 => 9 | 5 => 5 | 0 => 0 | n => n, fun | n => n⟩
theorem Tryz.lays285 : Go.Proofs.Lays.n285 Tryz.prog Tryz.lays285_ren := {
 mixed := by kernel_rfl
 f285 := Tryz.func99.trans (congrArg some (by kernel_rfl))
 t0 := Tryz.underlying0
 a0 := Tryz.isAgg0
 z0 := Tryz.sizeOf0
 v0 := Tryz.zeroValue0
 t3 := Tryz.underlying3
 a3 := Tryz.isAgg3
 z3 := Tryz.sizeOf3
 v3 := Tryz.zeroValue3
 t4 := Tryz.underlying4
 a4 := Tryz.isAgg4
 z4 := Tryz.sizeOf4
 v4 := Tryz.zeroValue4
 t5 := Tryz.underlying5
 a5 := Tryz.isAgg5
 z5 := Tryz.sizeOf5
 v5 := Tryz.zeroValue5
 t9 := Tryz.underlying9
 a9 := Tryz.isAgg9
 z9 := Tryz.sizeOf9
 v9 := Tryz.zeroValue9
 t37 := Tryz.underlying34
 a37 := Tryz.isAgg34
 z37 := Tryz.sizeOf34
 v37 := Tryz.zeroValue34
 t51 := Tryz.underlying206
 a51 := Tryz.isAgg206
 z51 := Tryz.sizeOf206
 v51 := Tryz.zeroValue206
 t53 := Tryz.underlying140
 a53 := Tryz.isAgg140
 z53 := Tryz.sizeOf140
 v53 := Tryz.zeroValue140 }
open Go.RowKit Go.Sort Go.Lib in
theorem Tryz.internal_strconv_formatBase10 (blk off cap : Nat) (u : Nat) (d : Array UInt8) (w : World) (hH : Holds (fun (b : UInt8) => Value.int .u8 (b.toNat : Int)) w blk off d) (hu : u < 10 ^ d.size) (hu64 : u < 18446744073709551616) (hsz : d.size < 4611686018427387904) :
  Calls Tryz.prog 99 #[.slice (some ⟨blk, off, none⟩) d.size cap, .int .u64 u] w fun e w' =>
   e = .returned (.tuple #[]) ∧ ∃ (n v' : Nat) (dk : Array UInt8), w' = (putRow (fun (b : UInt8) => Value.int .u8 (b.toNat : Int)) w blk off dk).drewN n ∧ FmtInv d.size u 0 v' dk := Any.internal_strconv_formatBase10 Tryz.lays285 blk off cap u d w hH hu hu64 hsz
def Tryz.laysM171_ren : Go.Shelf.Ren := ⟨fun | 171 => 19 | 243 => 34 | 246 => 59 | 283 => 97 | 284 => 98 | 285 => 99 | 286 => 100 | 129 => 133 | 317 => 132 | 318 => 134 | 319 => 135 | 320 => 136 | 337 => 160 | 338 => 161 | n => n, fun | 3 => 3 | 9 => 9 | 2 => 2 | 4 => 4 | 171 => 162 | 0 => 0 | 53 => 140 | 37 => 34 | 5 => 5 | 173 => 165 | 212 => 210 | 51 => 206 | 20 => 20 | 213 => 211 | 46 => 157 | 232 => 242 | 233 => 243 | n => n, fun | 17 => 6 | 18 => 7 | 19 => 8 | n => n⟩
theorem Tryz.laysM171 : Go.Proofs.LaysM.n171 Tryz.prog Tryz.laysM171_ren := {
 mixed := by kernel_rfl
 f129 := Tryz.func133.trans (congrArg some (by kernel_rfl))
 f171 := Tryz.func19.trans (congrArg some (by kernel_rfl))
 f243 := Tryz.func34.trans (congrArg some (by kernel_rfl))
 f246 := Tryz.func59.trans (congrArg some (by kernel_rfl))
 f283 := Tryz.func97.trans (congrArg some (by kernel_rfl))
 f284 := Tryz.func98.trans (congrArg some (by kernel_rfl))
 f285 := Tryz.func99.trans (congrArg some (by kernel_rfl))
 f286 := Tryz.func100.trans (congrArg some (by kernel_rfl))
 f317 := Tryz.func132.trans (congrArg some (by kernel_rfl))
 f318 := Tryz.func134.trans (congrArg some (by kernel_rfl))
 f319 := Tryz.func135.trans (congrArg some (by kernel_rfl))
 f320 := Tryz.func136.trans (congrArg some (by kernel_rfl))
 f337 := Tryz.func160.trans (congrArg some (by kernel_rfl))
 f338 := Tryz.func161.trans (congrArg some (by kernel_rfl))
 t0 := Tryz.underlying0
 a0 := Tryz.isAgg0
 z0 := Tryz.sizeOf0
 v0 := Tryz.zeroValue0
 t2 := Tryz.underlying2
 a2 := Tryz.isAgg2
 z2 := Tryz.sizeOf2
 v2 := Tryz.zeroValue2
 t3 := Tryz.underlying3
 a3 := Tryz.isAgg3
 z3 := Tryz.sizeOf3
 v3 := Tryz.zeroValue3
 t4 := Tryz.underlying4
 a4 := Tryz.isAgg4
 z4 := Tryz.sizeOf4
 v4 := Tryz.zeroValue4
 t5 := Tryz.underlying5
 a5 := Tryz.isAgg5
 z5 := Tryz.sizeOf5
 v5 := Tryz.zeroValue5
 t9 := Tryz.underlying9
 a9 := Tryz.isAgg9
 z9 := Tryz.sizeOf9
 v9 := Tryz.zeroValue9
 t20 := Tryz.underlying20
 a20 := Tryz.isAgg20
 z20 := Tryz.sizeOf20
 v20 := Tryz.zeroValue20
 t37 := Tryz.underlying34
 a37 := Tryz.isAgg34
 z37 := Tryz.sizeOf34
 v37 := Tryz.zeroValue34
 t46 := Tryz.underlying157
 a46 := Tryz.isAgg157
 z46 := Tryz.sizeOf157
 v46 := Tryz.zeroValue157
 t51 := Tryz.underlying206
 a51 := Tryz.isAgg206
 z51 := Tryz.sizeOf206
 v51 := Tryz.zeroValue206
 t53 := Tryz.underlying140
 a53 := Tryz.isAgg140
 z53 := Tryz.sizeOf140
 v53 := Tryz.zeroValue140
 t171 := Tryz.underlying162
 a171 := Tryz.isAgg162
 z171 := Tryz.sizeOf162
 v171 := Tryz.zeroValue162
 t173 := Tryz.underlying165
 a173 := Tryz.isAgg165
 z173 := Tryz.sizeOf165
 v173 := Tryz.zeroValue165
 t212 := Tryz.underlying210
 a212 := Tryz.isAgg210
 z212 := Tryz.sizeOf210
 v212 := Tryz.zeroValue210
 t213 := Tryz.underlying211
 a213 := Tryz.isAgg211
 z213 := Tryz.sizeOf211
 t232 := Tryz.underlying242
 a232 := Tryz.isAgg242
 z232 := Tryz.sizeOf242
 v232 := Tryz.zeroValue242
 t233 := Tryz.underlying243
 a233 := Tryz.isAgg243
 z233 := Tryz.sizeOf243
 v233 := Tryz.zeroValue243
 g17 := by kernel_rfl
 g18 := by kernel_rfl
 g19 := by kernel_rfl
 i0 := by kernel_rfl
 i2 := by kernel_rfl
 i3 := by kernel_rfl
 i4 := by kernel_rfl
 i5 := by kernel_rfl
 i9 := by kernel_rfl
 i20 := by kernel_rfl
 i37 := by kernel_rfl
 i46 := by kernel_rfl
 i51 := by kernel_rfl
 i53 := by kernel_rfl
 i171 := by kernel_rfl
 i173 := by kernel_rfl
 i212 := by kernel_rfl
 i232 := by kernel_rfl
 i233 := by kernel_rfl
 m17 := by kernel_rfl
 m18 := by kernel_rfl
 m19 := by kernel_rfl }
open Go.RowKit Go.Sort Go.Lib in
theorem Tryz.strconv_Itoa (n : Int) (h0 : -9223372036854775808 ≤ n) (h1 : n ≤ 9223372036854775807) (w : World) (htab : Lib.TabIs Tryz.prog w "internal/strconv.uint64pow10" .u64 Lib.pow10Tab) :
  Calls Tryz.prog 19 #[.int .i64 n] w fun e w' => e = .returned (.string ⟨(Lib.itoa n).toArray⟩) ∧ ∃ k os, w' = grow (w.drewN k) os := Any.strconv_Itoa Tryz.laysM171 n h0 h1 w htab
def Tryz.lays146_ren : Go.Shelf.Ren := ⟨fun | 146 => 51 | 221 => 86 | 268 => 123 | 138 => 124 | 143 => 31 | 195 => 158 | 197 => 30 | 218 => 159 | 219 => 58 | 260 => 57 | 217 => 93 | 225 => 94 | 224 => 95 | 267 => 96 | 266 => 130 | 314 => 131 | n => n, fun | 9 => 9 | 31 => 46 | 3 => 3 | 4 => 4 | 0 => 0 | 105 => 79 | 21 => 21 | 5 => 5 | 46 => 157 | 119 => 156 | 139 => 160 | 138 => 159 | 146 => 207 | 51 => 206 | n => n, fun | 1 => 3 | 3 => 1 | 4 => 2 | n => n⟩
theorem Tryz.lays146 : Go.Proofs.Lays.n146 Tryz.prog Tryz.lays146_ren := {
 mixed := by kernel_rfl
 f138 := Tryz.func124.trans (congrArg some (by kernel_rfl))
 f143 := Tryz.func31.trans (congrArg some (by kernel_rfl))
 f146 := Tryz.func51.trans (congrArg some (by kernel_rfl))
 f195 := Tryz.func158.trans (congrArg some (by kernel_rfl))
 f197 := Tryz.func30.trans (congrArg some (by kernel_rfl))
 f217 := Tryz.func93.trans (congrArg some (by kernel_rfl))
 f218 := Tryz.func159.trans (congrArg some (by kernel_rfl))
 f219 := Tryz.func58.trans (congrArg some (by kernel_rfl))
 f221 := Tryz.func86.trans (congrArg some (by kernel_rfl))
 f224 := Tryz.func95.trans (congrArg some (by kernel_rfl))
 f225 := Tryz.func94.trans (congrArg some (by kernel_rfl))
 f260 := Tryz.func57.trans (congrArg some (by kernel_rfl))
 f266 := Tryz.func130.trans (congrArg some (by kernel_rfl))
 f267 := Tryz.func96.trans (congrArg some (by kernel_rfl))
 f268 := Tryz.func123.trans (congrArg some (by kernel_rfl))
 f314 := Tryz.func131.trans (congrArg some (by kernel_rfl))
 t0 := Tryz.underlying0
 a0 := Tryz.isAgg0
 z0 := Tryz.sizeOf0
 v0 := Tryz.zeroValue0
 t3 := Tryz.underlying3
 a3 := Tryz.isAgg3
 z3 := Tryz.sizeOf3
 v3 := Tryz.zeroValue3
 t4 := Tryz.underlying4
 a4 := Tryz.isAgg4
 z4 := Tryz.sizeOf4
 v4 := Tryz.zeroValue4
 t5 := Tryz.underlying5
 a5 := Tryz.isAgg5
 z5 := Tryz.sizeOf5
 v5 := Tryz.zeroValue5
 t9 := Tryz.underlying9
 a9 := Tryz.isAgg9
 z9 := Tryz.sizeOf9
 v9 := Tryz.zeroValue9
 t21 := Tryz.underlying21
 a21 := Tryz.isAgg21
 z21 := Tryz.sizeOf21
 v21 := Tryz.zeroValue21
 t31 := Tryz.underlying46
 a31 := Tryz.isAgg46
 z31 := Tryz.sizeOf46
 v31 := Tryz.zeroValue46
 t46 := Tryz.underlying157
 a46 := Tryz.isAgg157
 z46 := Tryz.sizeOf157
 v46 := Tryz.zeroValue157
 t51 := Tryz.underlying206
 a51 := Tryz.isAgg206
 z51 := Tryz.sizeOf206
 v51 := Tryz.zeroValue206
 t105 := Tryz.underlying79
 a105 := Tryz.isAgg79
 z105 := Tryz.sizeOf79
 v105 := Tryz.zeroValue79
 t119 := Tryz.underlying156
 a119 := Tryz.isAgg156
 z119 := Tryz.sizeOf156
 t138 := Tryz.underlying159
 a138 := Tryz.isAgg159
 z138 := Tryz.sizeOf159
 v138 := Tryz.zeroValue159
 t139 := Tryz.underlying160
 a139 := Tryz.isAgg160
 z139 := Tryz.sizeOf160
 v139 := Tryz.zeroValue160
 t146 := Tryz.underlying207
 a146 := Tryz.isAgg207
 z146 := Tryz.sizeOf207
 v146 := Tryz.zeroValue207
 g1 := by kernel_rfl
 g3 := by kernel_rfl
 g4 := by kernel_rfl }
open Go.RowKit Go.Lib in
theorem Tryz.strings_Split (s sep : ByteArray) (m : Int) (w : World) (hs : s.size < 4294967281) (hm : w.cell? ⟨3, 0, none⟩ = some (.int .i64 m)) (h1 : 1 ≤ sep.size) :
  Calls Tryz.prog 51 #[.string s, .string sep] w fun e w' =>
   e = .returned (.slice (some ⟨w.heap.size, 0, none⟩) (Lib.countB s sep + 1) (Lib.countB s sep + 1)) ∧ w' = w.alloc (.cells ((Lib.splitB sep 0 (Lib.countB s sep) s).map Value.string).toArray 9) := Any.strings_Split Tryz.lays146 (by kernel_rfl) s sep m w hs hm h1
end Go.Proofs.Shs
/- strconv.FormatUint at base 10: every uint64. Condition: the library's table of powers of ten is laid. -/
namespace Go.Proofs.YtdlkjppppdminaaGreatDoor
open Go Go.RowKit Go.Sort
def Pow10 (w : World) : Prop := Lib.TabIs Tryz.prog w "internal/strconv.uint64pow10" .u64 Lib.pow10Tab
theorem Pow10.on {w w' : World} (h : Pow10 w) (hb : Below w.heap.size w w') : Pow10 w' := (Lib.tabBelow_of_tabIs h) w' hb
set_option maxHeartbeats 6400000 in
set_option maxRecDepth 100000 in
theorem formatUint_any (u : Nat) (hu64 : u < 18446744073709551616) (w : World) (htab : Pow10 w) :
  Calls Tryz.prog 125 #[.int .u64 u, .int .i64 10] w fun e w' => e = .returned (.string ⟨(Lib.decDigits u).toArray⟩) ∧ Below w.heap.size w w' := by
 by_cases hs : u < 100
 ·have hw : IntKind.i64.wrap (u : Int) = u := IntWalk.i64_in _ (by omega)
  have iu : (u : Int) < 100 := by omega
  go_enter Tryz.func125, Tryz.ntmps125
  go_wp2_with (go_at_call 97; refine (Shs.Tryz.internal_strconv_small u hs _).mono ?_; rintro e w' ⟨rfl, rfl⟩)
  go_ret
  exact ⟨rfl, Below.refl _ _⟩
 ·have hu1 : 1 ≤ u := by omega
  have hnd20 : Lib.nDigits u ≤ 20 := by have := Lib.numDigits_eq u hu1 hu64; split at this <;> omega
  have hal : Tryz.prog.arrayLen 162 = 24 := by kernel_rfl
  have hsl : ∀ W, (Instr.sliceAt 162 (.pointer (some ⟨w.heap.size, 0, none⟩)) none (some (.int .i64 (Lib.nDigits u : Int))) none).run Tryz.prog W = .ok (.slice (some ⟨w.heap.size, 0, none⟩) (Lib.nDigits u) 24) W := fun W => by
   rw [run_sliceAt_array_h W 162 ⟨w.heap.size, 0, none⟩ (by kernel_rfl) .i64 (Lib.nDigits u : Int) (by omega) (by rw [hal]; omega)]
   go_simp
  have hH0 := Lib.holds_zero0 w 162 (Lib.nDigits u) (by omega)
  have hfmt := Shs.Tryz.internal_strconv_formatBase10 w.heap.size 0 24 u (Array.replicate (Lib.nDigits u) 0) (w.alloc (.cells Lib.zeros24 162)) hH0 (by rw [Array.size_replicate]; exact Lib.lt_pow_nDigits u) hu64 (by rw [Array.size_replicate]; omega)
  rw [Array.size_replicate] at hfmt
  have HH0 := Lib.hid hH0
  have iu : (100 : Int) ≤ (u : Int) := by omega
  clear hH0 hal
  go_enter Tryz.func125, Tryz.ntmps125
  go_wp2_with (go_at_call 98; refine (Shs.Tryz.internal_strconv_numDigits u hu1 hu64 _ (Lib.tabIs_alloc htab _)).mono ?_; rintro e w' ⟨rfl, rfl⟩)
  go_at_call 99
  refine hfmt.mono ?_
  rintro e w' ⟨rfl, k, v', dk, rfl, hF⟩
  have hcv : (convert 34 9 (.slice (some ⟨w.heap.size, 0, none⟩) (Lib.nDigits u) 24)).run Tryz.prog ((putRow (fun (b : UInt8) => Value.int .u8 (b.toNat : Int)) (w.alloc (.cells Lib.zeros24 162)) w.heap.size 0 dk).drewN k) = .ok (.string ⟨(Lib.decDigits u).toArray⟩) ((putRow (fun (b : UInt8) => Value.int .u8 (b.toNat : Int)) (w.alloc (.cells Lib.zeros24 162)) w.heap.size 0 dk).drewN k) := by
   have h := run_convert_bytes_back (P := Tryz.prog) ((putRow (fun (b : UInt8) => Value.int .u8 (b.toNat : Int)) (w.alloc (.cells Lib.zeros24 162)) w.heap.size 0 dk).drewN k) 34 9 5 ⟨w.heap.size, 0, none⟩ 24 (Lib.decDigits u) (by kernel_rfl) (by kernel_rfl) (by kernel_rfl) (fun j hj => by
    rw [Lib.row_is_numeral hF j hj, Lib.add_plain, World.cell?_drewN]
    exact cell?_putRow (fun (b : UInt8) => Value.int .u8 (b.toNat : Int)) _ w.heap.size 0 _ dk HH0.out (by rw [hF.size, Array.size_replicate]) j (by rw [hF.size]; rw [Lib.decDigits_length] at hj; exact hj))
   rw [Lib.decDigits_length] at h
   exact h
  go_wp2
  go_ret
  obtain ⟨os, eo⟩ := Lib.fin_at w (.cells Lib.zeros24 162) dk k 0
  refine ⟨rfl, ?_⟩
  rw [eo]
  exact Lib.below_grow _ w (Nat.le_refl _) k os
theorem fmtu_any (u : Nat) (hu64 : u < 18446744073709551616) (w : World) (htab : Pow10 w) :
  Calls Tryz.prog 87 #[.int .u64 u, .int .i64 10] w fun e w' => e = .returned (.string ⟨(Lib.decDigits u).toArray⟩) ∧ Below w.heap.size w w' := by
 go_enter Tryz.func87, Tryz.ntmps87
 go_wp2_with (go_at_call 125; refine (formatUint_any u hu64 _ htab).mono ?_; rintro e w' ⟨rfl, hb⟩)
 go_ret
 exact ⟨rfl, hb⟩
end Go.Proofs.YtdlkjppppdminaaGreatDoor
/- The program's store: Clone, Sweep. -/
namespace Go.Proofs.YtdlkjppppdminaaGreatDoor
open Go Go.RowKit Go.Sep
set_option maxHeartbeats 1000000 in
set_option maxRecDepth 20000 in
theorem clone_vers (w0 w : World) (v : Value) (l : Vers) (L : List HProp) (hs : S w0 w L) (hr : RdK w0 L v l.length (pcells l)) (hb : l.length ≤ 4000000) :
  Calls Tryz.prog 152 #[v] w fun e w' => ∃ v', e = .returned v' ∧ S w0 w' (sl 99 2 v' l.length (pcells l) :: L) := by
 obtain ⟨a, cap, rfl, hcap, hcap2, hrd⟩ := hr w hs
 have heq := fun w => Lib.run_eql_slice_nil (P := Tryz.prog) w 66 99 a l.length cap 0 0 Tryz.underlying66
 have hlp := pcells_length l
 clear hcap2
 cases a with
 | none =>
  have hl0 : l = [] := by
   apply List.eq_nil_of_length_eq_zero
   rcases Nat.eq_zero_or_pos l.length with h | h
   ·exact h
   ·obtain ⟨b, o, hb, _⟩ := hrd 0 ((pcells l)[0]'(by omega)) (by simp)
    cases hb
  subst hl0
  simp only [List.length_nil] at heq
  have hfin : S w0 w (sl 99 2 (.slice none 0 0) 0 [] :: L) := hs.sl_nil
  have HF := hid hfin; clear hfin hs hr hrd hlp
  go_enter Tryz.func152, Tryz.ntmps152
  go_wp2_with fail
  go_ret
  exact ⟨_, rfl, HF.out⟩
 | some a =>
  obtain ⟨i0, hi0, hz0, hz1, hz2⟩ := info_parts Tryz.info99
  have hs1 : S w0 (w.alloc (.cells #[] 99)) (sl 99 2 (.slice (some ⟨w.heap.size, 0, none⟩) 0 0) 0 [] :: L) := (hs.alloc #[] 99).sl_blk (n := 0) (by simp) (by simp)
  have hn1 : ∀ j u, (pcells l)[j]? = some u → ∃ b, some a = some b ∧ (w.alloc (.cells #[] 99)).cell? (b.add j) = some u := by
   intro j u hj
   obtain ⟨b, o, hb, hc⟩ := hrd j u hj
   cases hb
   refine ⟨_, rfl, ?_⟩
   have e1 : (⟨b, o, none⟩ : Addr).add j = ⟨b, o + j, none⟩ := by unfold Addr.add; split <;> simp_all
   rw [e1, World.cell?_alloc_lt _ _ _ (World.block_lt_of_cell? w _ hc)]; exact hc
  have hone : ∀ u ∈ pcells l, u.oneCell' = true := by
   intro u hu; simp only [pcells, List.mem_flatMap] at hu
   obtain ⟨p, _, hu⟩ := hu
   simp at hu; rcases hu with rfl | rfl <;> rfl
  have H1 := hid hs1; have H2 := hid hn1; have H3 := hid hone; have H4 := hid hlp
  clear hs1 hn1 hone hs hr hrd hlp
  go_enter Tryz.func152, Tryz.ntmps152
  go_wp2_with (at_builtin; refine wpList_append rfl (.tmp 5) (.tmp 6) 66 rfl 99 i0 _ 2 16 Tryz.underlying66 hi0 hz0 hz1 hz2 rfl (by decide) H1.out rfl (some a) l.length cap (pcells l) rfl H4.out H2.out H3.out (by unfold maxLen; omega) (by omega) ?_; intro v1 w1 hs1; have HS := hid hs1; clear hs1)
  go_ret
  exact ⟨_, rfl, by simpa using HS.out⟩
theorem pcells_drop (l : Vers) (n : Nat) : pcells (l.drop n) = (pcells l).drop (n * 2) := by
 induction l generalizing n with
 | nil => simp [pcells]
 | cons p l ih =>
  cases n with
  | zero => rfl
  | succ n =>
   rw [List.drop_succ_cons, ih, show (n + 1) * 2 = n * 2 + 1 + 1 by omega]; rfl
theorem set_same {α : Type} {l : List α} {i : Nat} {x : α} (h : l[i]? = some x) : l.set i x = l := by
 obtain ⟨hi, rfl⟩ := List.getElem?_eq_some_iff.1 h
 exact List.set_getElem_self hi
def lastLe (at_ : Int) : Nat → Int → Vers → Int
 | _, r, [] => r
 | i, r, p :: l => lastLe at_ (i + 1) (if p.1 ≤ at_ then (i : Int) else r) l
theorem lastLe_range (at_ : Int) : ∀ (l : Vers) (i : Nat) (r : Int), -1 ≤ r → r < i → -1 ≤ lastLe at_ i r l ∧ lastLe at_ i r l < i + l.length
 | [], i, r, h1, h2 => by simp [lastLe]; omega
 | p :: l, i, r, h1, h2 => by
  have := lastLe_range at_ l (i + 1) (if p.1 ≤ at_ then (i : Int) else r) (by split <;> omega) (by split <;> omega)
  simp only [lastLe, List.length_cons]; omega
def swept (at_ : Int) (vs : Vers) : Vers := vs.drop (lastLe at_ 0 (-1) vs).toNat
def sweptN (at_ : Int) (vs : Vers) : Nat := (lastLe at_ 0 (-1) vs).toNat
def sweepTo (at_ : Int) (V : List Vers) (i : Nat) : List Vers := (V.take i).map (swept at_) ++ V.drop i
theorem sweepTo_succ {at_ : Int} {V : List Vers} {i : Nat} {vs : Vers} (h : V[i]? = some vs) : sweepTo at_ V (i + 1) = (sweepTo at_ V i).set i (swept at_ vs) := by
 obtain ⟨hi, rfl⟩ := List.getElem?_eq_some_iff.1 h
 unfold sweepTo
 have e : i - ((V.take i).map (swept at_)).length = 0 := by simp; omega
 rw [take_succ_get h, List.map_append, List.append_assoc, List.set_append_right _ _ (by simp; omega), e, List.drop_eq_getElem_cons hi, List.set_cons_zero]
 rfl
theorem sweepTo_get {at_ : Int} {V : List Vers} {i j : Nat} (h : i ≤ j) (hi : i ≤ V.length) : (sweepTo at_ V i)[j]? = V[j]? := by
 unfold sweepTo
 rw [List.getElem?_append_right (by simp; omega), List.getElem?_drop]
 congr 1; simp; omega
def sweptSum (at_ : Int) (V : List Vers) (i : Nat) : Nat := ((V.take i).map (sweptN at_)).sum
theorem sweptSum_succ {at_ : Int} {V : List Vers} {i : Nat} {vs : Vers} (h : V[i]? = some vs) : sweptSum at_ V (i + 1) = sweptSum at_ V i + sweptN at_ vs := by
 unfold sweptSum; rw [take_succ_get h, List.map_append, List.sum_append]; simp
theorem swept_same {at_ : Int} {vs : Vers} (h : lastLe at_ 0 (-1) vs ≤ 0) : swept at_ vs = vs ∧ sweptN at_ vs = 0 := by
 unfold swept sweptN; rw [show (lastLe at_ 0 (-1) vs).toNat = 0 by omega]; simp
set_option maxHeartbeats 2000000 in
set_option maxRecDepth 20000 in
theorem sweep_any (w0 w : World) (b o : Nat) (V : List Vers) (last at_ : Int) (L : List HProp) (hs : S w0 w (storeP 99 b o V last :: L)) (hN : ∀ vs ∈ V, vs.length ≤ 2000000) :
  Calls Tryz.prog 115 #[.pointer (some ⟨b, o, none⟩), .int .i64 at_] w fun e w' => e = .returned (.int .i64 ((V.map (sweptN at_)).sum : Nat)) ∧ S w0 w' (storeP 99 b o (V.map (swept at_)) last :: L) := by
 obtain ⟨kv, hs⟩ := hs.ex_elim
 have hlen := hs.storeK_len
 have harr := hs.storeK_arr
 have hvals := hs.storeK_vals
 have hw0 := hs.storeK_last.2.2.1
 have hadd : ∀ j u, kv[j]? = some u → w.cell? ((⟨b, o, none⟩ : Addr).add j) = some u := by
  intro j u hj
  have e1 : (⟨b, o, none⟩ : Addr).add j = ⟨b, o + j, none⟩ := by unfold Addr.add; split <;> simp_all
  rw [e1]; exact harr j u hj
 have hkl := hlen.1
 have HA := hid hadd; have HV := hid hvals; have HL := hid hlen; have HK := hid hkl; have HN := hid hN
 have HS := hid hs
 clear hadd hvals harr hN hs hlen hkl
 go_enter Tryz.func115, Tryz.ntmps115
 go_wp2_with (refine wpList_load_arr rfl 67 (.tmp 13) rfl ⟨b, o, none⟩ rfl 10 66 Tryz.underlying67 kv (by rw [HK.out]; exact Tryz.size67) HA.out ?_)
 go_loopw [5, 15] (fun r c wr => ∃ i : Nat, i ≤ 10 ∧ c = .int .i64 i ∧ r = .int .i64 (sweptSum at_ V i : Nat) ∧ sweptSum at_ V i ≤ 2000000 * i ∧ ∃ kv', (∀ j, i ≤ j → kv'[j]? = kv[j]?) ∧ S w0 wr (storeK 99 b o kv' (sweepTo at_ V i) last :: L)) (fun _ c _ => 10 - (intOf c).toNat)
 case atStart => exact ⟨0, Nat.zero_le _, rfl, rfl, by simp [sweptSum], kv, fun _ _ => rfl, by simpa [sweepTo] using HS.out⟩
 case round =>
  obtain ⟨i, hi, rfl, rfl, hsum, kv', hkv', hsr⟩ := hrel
  clear HS HA
  obtain ⟨wo, hwo⟩ : ∃ wo : World, wo = wr := ⟨_, rfl⟩
  by_cases hlt : i < 10
  ·obtain ⟨vs, hvs⟩ : ∃ vs, V[i]? = some vs := ⟨V[i]'(by have := HL.out.2; omega), by simp⟩
   obtain ⟨a, cp, hkv, hcp, _⟩ := HV.out i vs hvs
   have hvl := HN.out vs (List.mem_of_getElem? hvs)
   have hix := run_index_arr Tryz.underlying67 Tryz.underlying66 rfl Tryz.size66 hlt hkv
   obtain ⟨v', vs', X, hk1, hk2, hsk, hcell, hback, hset, _⟩ := hsr.storeK_key i hlt
   obtain rfl : v' = .slice a vs.length cp := Option.some.inj (hk1.symm.trans ((hkv' i (Nat.le_refl _)).trans hkv))
   rw [sweepTo_get (Nat.le_refl _) (by have := HL.out.2; omega)] at hk2
   obtain rfl : vs = vs' := Option.some.inj (hvs.symm.trans hk2)
   have HKV := hid hkv'; have HVS := hid hvs
   have hsum' : sweptSum at_ V i ≤ 20000000 := by omega
   clear hkv hk1 hk2 hkv' hvs hsr
   subst hwo
   go_wp2_with fail
   go_loopw [8, 21] (fun r c wr => ∃ j : Nat, j ≤ vs.length ∧ c = .int .i64 j ∧ ∃ q : Int, r = .int .i64 q ∧ -1 ≤ q ∧ q < j ∧ lastLe at_ 0 (-1) vs = lastLe at_ j q (vs.drop j) ∧ S w0 wr (sl 99 2 (.slice a vs.length cp) vs.length (pcells vs) :: X :: L)) (fun _ c _ => vs.length - (intOf c).toNat)
   case atStart => exact ⟨0, Nat.zero_le _, rfl, -1, rfl, by omega, by omega, rfl, hsk⟩
   case round =>
    obtain ⟨j, hj, rfl, q, rfl, hq1, hq2, hll, hsr⟩ := hrel
    by_cases hjl : j < vs.length
    ·have hp : vs[j]? = some vs[j] := by simp [hjl]
     have hd := List.drop_eq_getElem_cons hjl
     generalize vs[j] = p at hp hd
     obtain ⟨g, og, rfl, hg, c1, c2⟩ := hsr.sl_pair hp
     rw [hd] at hll
     have H1 := hid ((hsr.alloc #[.int .i64 p.1, .int .i64 p.2] 99).tail)
     have H2 := hid hll
     clear hd hll hsr hp hsk
     by_cases hle : p.1 ≤ at_
     ·go_wp2_with fail
      go_roundw
      case rel => exact ⟨j + 1, by omega, by go_num, j, rfl, by omega, by omega, by rw [H2.out]; simp [lastLe, hle], H1.out⟩
      case measure => simp [intOf]; omega
     ·go_wp2_with fail
      go_roundw
      case rel => exact ⟨j + 1, by omega, by go_num, q, rfl, by omega, by omega, by rw [H2.out]; simp [lastLe, hle], H1.out⟩
      case measure => simp [intOf]; omega
    ·have hjj : j = vs.length := by omega
     subst hjj
     rw [List.drop_length] at hll
     simp only [lastLe] at hll
     have HQ := hid hll; clear hll
     have hss := sweptSum_succ (at_ := at_) HVS.out
     by_cases hq0 : 0 < q
     ·obtain ⟨qn, rfl⟩ := Int.eq_ofNat_of_zero_le (Int.le_of_lt hq0)
      have e1 : sweptN at_ vs = qn := by unfold sweptN; rw [HQ.out]; simp
      have e2 : swept at_ vs = vs.drop qn := by unfold swept; rw [HQ.out]; simp
      rw [e1] at hss
      have hpos : 0 < vs.length := by omega
      obtain ⟨p0, hp0⟩ : ∃ p, vs[0]? = some p := ⟨vs[0], by simp⟩
      obtain ⟨g, og, rfl, hg, _, _⟩ := hsr.sl_pair hp0
      have hrk : RdK w0 (sl 99 2 (.slice (some ⟨g, og, none⟩) vs.length cp) vs.length (pcells vs) :: X :: L) (.slice (some ⟨g, og + qn * 2, none⟩) (vs.length - qn) (cp - qn)) (vs.drop qn).length (pcells (vs.drop qn)) := by
       intro w' hs'
       obtain ⟨g', o', cap', hv, h1, h2, _, _, h3, _⟩ := hs'.sl_some (by rw [pcells_length]; omega)
       simp only [Value.slice.injEq, Option.some.injEq, Addr.mk.injEq] at hv
       obtain ⟨⟨rfl, rfl, -⟩, -, rfl⟩ := hv
       refine ⟨_, _, by rw [List.length_drop], by rw [List.length_drop]; omega, by omega, fun j u hj => ⟨g, og + qn * 2, rfl, ?_⟩⟩
       rw [pcells_drop, List.getElem?_drop] at hj
       rw [Nat.add_assoc]
       exact h3 _ u hj
      have hfin : ∀ w1 v1, S w0 w1 (sl 99 2 v1 (vs.drop qn).length (pcells (vs.drop qn)) :: sl 99 2 (.slice (some ⟨g, og, none⟩) vs.length cp) vs.length (pcells vs) :: X :: L) → S w0 (w1.setCell ⟨b, o + i, none⟩ v1) (storeK 99 b o (kv'.set i v1) (sweepTo at_ V (i + 1)) last :: L) := by
       intro w1 v1 h1
       rw [sweepTo_succ HVS.out, e2]
       exact hset w1 v1 (vs.drop qn) L h1.swap.tail
      have HF := hid hfin; clear hfin
      have HSS := hid hss; have HE2 := hid e2
      have HR := hid hrk; have HSR := hid hsr; have HC := hid hcell
      clear hss e1 e2 hrk hsr hp0 hcell hset hsk hback
      have hqc : (qn : Int) ≤ vs.length := by omega
      go_wp2_with fail
      go_region_with (go_at_call 152; refine (clone_vers w0 _ _ (vs.drop qn) _ (HSR.out.drew) HR.out (by simp; omega)).mono ?_; rintro e w1 ⟨v1, rfl, hs1⟩; obtain ⟨a1, cp1, rfl, _, _, _⟩ := hs1.sl_val; obtain ⟨c9, f9, _, b9⟩ := HC.out w1 _ hs1.rot3; have H9 := hid (HF.out _ _ hs1); clear hs1)
      all_goals
       go_wp2_with fail
       go_roundw
       case rel =>
        have H10 := H9.out
        rw [List.length_drop] at H10
        exact ⟨i + 1, by omega, by go_num, by rw [HSS.out]; go_num, by rw [HSS.out]; omega, kv'.set i (.slice a1 (vs.length - qn) cp1), fun j hj => (by rw [List.getElem?_set_ne (by omega)]; exact HKV.out j (by omega)), H10⟩
       case measure => simp [intOf]; omega
     ·obtain ⟨e1, e2⟩ := swept_same (at_ := at_) (vs := vs) (by rw [HQ.out]; omega)
      rw [e2] at hss
      have HSS := hid hss
      have hfin : S w0 wr (storeK 99 b o kv' (sweepTo at_ V (i + 1)) last :: L) := by
       have hk3 : (sweepTo at_ V i)[i]? = some vs := by rw [sweepTo_get (Nat.le_refl _) (by have := HL.out.2; omega)]; exact HVS.out
       rw [sweepTo_succ HVS.out, e1, set_same hk3]
       exact hback wr L hsr
      have HF := hid hfin
      clear hss e1 e2 hfin hsr hback hset hcell hsk
      go_wp2_with fail
      go_roundw
      case rel => exact ⟨i + 1, by omega, by go_num, by rw [HSS.out]; rfl, by rw [HSS.out]; omega, kv', fun j hj => HKV.out j (by omega), HF.out⟩
      case measure => simp [intOf]; omega
  ·have hil : i = 10 := by omega
   subst hil
   have hfin : S w0 wr (storeP 99 b o (V.map (swept at_)) last :: L) := by
    have h2 := HL.out.2
    have e1 : sweepTo at_ V 10 = V.map (swept at_) := by unfold sweepTo; rw [List.take_of_length_le (by omega), List.drop_of_length_le (by omega), List.append_nil]
    rw [← e1]; exact .ex_intro kv' hsr
   have HF := hid hfin
   clear hfin hsr hkv' hsum
   go_wp2_with fail
   go_ret
   exact ⟨retI (by unfold sweptSum; rw [List.take_of_length_le (by have := HL.out.2; omega)]), HF.out⟩
end Go.Proofs.YtdlkjppppdminaaGreatDoor
namespace Go.Sep
open Go Go.RowKit
variable {P : Program} {w0 w : World} {L : List HProp} {F : Fence} {n : Nat}
theorem S.rot4 {A B C D : HProp} (h : S w0 w (A :: B :: C :: D :: L)) : S w0 w (D :: A :: B :: C :: L) := h.perm (List.perm_middle (l₁ := [A, B, C]))
theorem S.head {A : HProp} (h : S w0 w (A :: L)) : S w0 w [A] := by
 have h2 : S w0 w ([A] ++ L) := h
 exact (h2.conv (M := [all L, A]) (by simp only [all_append, all, sep_emp]; rw [sep_comm])).tail
theorem S.of_mem {A : HProp} (h : S w0 w L) (hA : A ∈ L) : S w0 w [A] := by
 obtain ⟨s, t, rfl⟩ := List.append_of_mem hA
 exact (h.perm (List.perm_middle)).head
theorem S.set_nth (A : List HProp) {B : List HProp} {b : Nat} {e : TypeId} {vs : List Value} (h : S w0 w (A ++ blk b e vs :: B)) (j : Nat) (hj : j < vs.length) (u : Value) : S w0 (w.setCell ⟨b, j, none⟩ u) (A ++ blk b e (vs.set j u) :: B) :=
 ((h.perm List.perm_middle).blk_set j hj u).perm List.perm_middle.symm
theorem S.loop_put {l : Nat} {r r' : Loop} (h : S w0 w (ob l (.loop r) :: L)) : S w0 (w.putObj l (.loop r')) (ob l (.loop r') :: L) := h.set_obj (o' := .loop r') (by simp) (by simp)
theorem S.deferred_put {l : Nat} {d d' : Option (List Deferred)} (h : S w0 w (ob l (.deferred d) :: L)) : S w0 (w.putObj l (.deferred d')) (ob l (.deferred d') :: L) := h.set_obj (o' := .deferred d') (by simp) (by simp)
theorem yieldAt_S {l : Nat} {r : Loop} {args : Array Value} {R : Ending → World → Prop} (h : S w0 w (ob l (.loop r) :: L)) (hs : args.size = r.params.size) (hF : F.fn r.fn) (hr : r.state = .ready)
  (hw : r.assign.wpIn (F.inRound l) n P (Exit.then (fun a₁ w₁ => ∃ M, S w0 w₁ (ob l (.loop r) :: M) ∧ ∀ w₂, S w0 w₂ (ob l (.loop { r with state := .busy }) :: M) → r.body.wpIn (F.inRound l) n P (roundPost P l R) a₁ w₂) (fun _ _ _ => False))
   { tmps := (r.params.zip args).foldl (fun tmps (t, a) => tmps.setIfInBounds t a) r.tmps, defers := [] } w) :
  YieldAt F n P l args w R := by
 refine ⟨r.fn, _, r.assign, r.body, run_yield h.obj hs, roundIn_of_wpIn hF ?_⟩
 refine Code.wpIn_mono ?_ hw
 intro e a₁ w₁ hq
 cases e <;> simp only [Exit.then] at hq ⊢
 obtain ⟨M, hS, hb⟩ := hq
 exact ⟨_, run_beginRound hS.obj hr, hb _ hS.loop_put⟩
theorem roundPost_normal {l : Nat} {r : Loop} {R : Ending → World → Prop} {a : Act} (h : S w0 w (ob l (.loop r) :: L)) (hR : ∀ w', S w0 w' (ob l (.loop { r with state := .ready, pending := none }) :: L) → R (.returned (.bool true)) w') : roundPost P l R .normal a w :=
 ⟨_, _, run_endRound none h.obj, hR _ (by simpa using h.loop_put)⟩
theorem roundPost_ret {l : Nat} {r : Loop} {R : Ending → World → Prop} {a : Act} (h : S w0 w (ob l (.loop r) :: L)) (hR : ∀ w', S w0 w' (ob l (.loop { r with state := .done, pending := some .ret }) :: L) → R (.returned (.bool false)) w') : roundPost P l R .ret a w :=
 ⟨_, _, run_endRound (some .ret) h.obj, hR _ (by simpa using h.loop_put)⟩
theorem wpIn_rangeFunc_S {g : Operand} {ps : Array Tmp} {assign body : Code} {Q : Exit → Act → World → Prop} {a : Act} (hro : F.round = none) (hn : F.depth.isSome = true → 1 ≤ n) {gf : FuncId} {cap : Array Value}
  (hg : a.eval g = .func (.func gf) #[] cap) (hF : F.fn gf) (eg : ∀ args w, (callFunc gf args).run P w = .ok (.enter gf args) w)
  (hs : S w0 w L)
  (hc : ∀ fn l D w2, S w0 w2 (ob l (.loop { state := .ready, pending := none, fn, tmps := a.tmps, params := ps, assign, body, defers := D }) :: ob D (.deferred (some [])) :: L) →
   CallsIn F (n - 1) P gf (#[.func (.yield l) #[] #[]] ++ cap) w2 fun e w3 => ∃ v, e = .returned v ∧ ∃ r M, S w0 w3 (ob l (.loop r) :: M) ∧ r.state ≠ .busy ∧
    ∀ w4, S w0 w4 M → match r.pending with | none => Q .normal { a with defers := { target := .collected D, args := #[] } :: a.defers } w4 | some c => c.wpIn F n P Q { a with defers := { target := .collected D, args := #[] } :: a.defers } w4) :
  (Code.rangeFunc g ps assign body).wpIn F n P Q a w := by
 refine wpIn_rangeFunc fun fn hfnF => ?_
 rw [hro]
 have h1 := ((hs.alloc_obj (.deferred (some [])) (by simp)).alloc_obj (.loop { state := .ready, pending := none, fn, tmps := a.tmps, params := ps, assign, body, defers := w.heap.size }) (by simp))
 have he := run_enterLoop_outer (P := P) (w := w) fn a.tmps ps assign body
 rw [World.size_alloc] at h1
 generalize (w.alloc (.deferred (some []))).alloc (.loop { state := .ready, pending := none, fn, tmps := a.tmps, params := ps, assign, body, defers := w.heap.size }) = W1 at h1 he
 refine ⟨w.heap.size + 1, [{ target := .collected w.heap.size, args := #[] }], W1, { target := .fn (.func gf) cap, args := #[.func (.yield (w.heap.size + 1)) #[] #[]] }, W1, gf,
  #[.func (.yield (w.heap.size + 1)) #[] #[]] ++ cap, W1, he, ?_, ?_, ?_, hn, ?_⟩
 ·simp only [resolve, hg]
  simp [go_sem]
 ·intro f' hf'; simp [Target.leads] at hf'; subst hf'; exact hF
 ·simp [invoke, go_sem, eg]
 ·
  refine (hc fn _ _ _ h1).mono ?_
  rintro e w3 ⟨v, rfl, r, M, hS, hb, hq⟩
  exact ⟨_, _, run_endLoop hS.obj hb, hq _ (hS.loop_put (r' := { r with state := .exhausted })).tail⟩
end Go.Sep
