/- Still more words: the first ones of a list alone. -/
import Derived.Test.YtmfngjclccehaaaGreatDoorZ0
import Derived.Test.YtmfngjclccehaaaGreatDoorProg
import Derived.WalkSpells
import Derived.Deep.QuietTactic
import Derived.BigQuiet
import Derived.Deep.RegionLaw
import Derived.Deep.LoopGhost
import Derived.Deep.DeepCutAuto
import Derived.LaidEql
import Derived.Stop.Asserts
import Derived.RowKitTokens
import Derived.LoopN
import Derived.Test.YtmfngjclccehaaaGreatDoorCards
import Derived.Test.YtmfngjclccehaaaGreatDoorTie
import Derived.WalkKit
import Derived.ProofKit
import Derived.OpenShut
import Derived.Deep.DeepHandedRow
import Derived.Lib.LaidTab
import Derived.LaidHandle
import Derived.Deep.SlicePairs
import Derived.Deep.Strs
import Derived.Lib.SmallJoins
import Derived.RangeFuncNested
import Derived.RangeFuncBound
import Derived.RangeFuncCalls
import Derived.RangeFuncLeaves
import Derived.Shelf.Abstract
import Derived.Shelf.RegionOpen
import Derived.OwnWalkIn
import Derived.TacticsInMore
import Derived.LoopNIn
import Derived.LoopIn
/- The program's store: the walks. -/
namespace Go.Proofs.YtmfngjclccehaaaGreatDoor
open Go Go.RowKit Go.Sep
theorem right_any (k : Int) (w : World) : Calls Tryz.prog 45 #[.int .i64 k] w fun e w' => e = .returned (.bool (decide (keyOk k))) ∧ w = w' := by
 by_cases h0 : 0 ≤ k
 ·go_enter Tryz.func45, Tryz.ntmps45
  go_wp2
  go_ret
  exact ⟨retB (by simp [keyOk, h0]), rfl⟩
 ·go_enter Tryz.func45, Tryz.ntmps45
  go_wp2
  go_ret
  exact ⟨retB (decide_eq_false (by unfold keyOk; omega)).symm, rfl⟩
theorem Tryz.info107 : (Tryz.prog.info? 107).map (fun i => (i.zero, i.size, i.bytes)) = some (some (.agg #[.int .i64 0, .int .i64 0]), 2, 16) := by kernel_rfl
theorem last_any (b o : Nat) (last : Int) (w : World) (hc : w.cell? ⟨b, o + 10, none⟩ = some (.int .i64 last)) : Calls Tryz.prog 48 #[.pointer (some ⟨b, o, none⟩)] w fun e w' => e = .returned (.int .i64 last) ∧ w = w' := by
 go_enter Tryz.func48, Tryz.ntmps48
 go_wp2
 go_ret
 exact ⟨rfl, rfl⟩
def InstPost (w0 : World) (b o : Nat) (V : List Vers) (last at_ : Int) (l : Vers) (L : List HProp) (e : Ending) (w' : World) : Prop :=
 if last < at_ ∧ at_ ≤ 1099511627776 then
  match badAt 0 l with
  | none => e = .returned .nilIface ∧ S w0 w' (storeP 107 b o (putAll at_ V l) at_ :: L)
  | some (x, p) => ∃ v, e = .returned v ∧ S w0 w' (errP 25 113 112 v (.at_ x p) :: storeP 107 b o V last :: L)
 else e = .returned (.iface 25 (.int .i64 10)) ∧ S w0 w' (storeP 107 b o V last :: L)
set_option maxHeartbeats 1000000 in
theorem install_any (w0 w : World) (b o : Nat) (V : List Vers) (last at_ : Int) (v : Value) (l : Vers) (L : List HProp) (N : Nat)
  (hs : S w0 w (storeP 107 b o V last :: L)) (hr : RdK w0 L v l.length (pcells l)) (hN : ∀ vs ∈ V, vs.length ≤ N) (hb : N + l.length ≤ 1000000) :
  Calls Tryz.prog 13 #[.pointer (some ⟨b, o, none⟩), .int .i64 at_, v] w (InstPost w0 b o V last at_ l L) := by
 have hc := hs.store_last.1
 by_cases h1 : at_ ≤ last
 ·have hfin : ∀ e w', e = Ending.returned (.iface 25 (.int .i64 10)) ∧ w = w' → InstPost w0 b o V last at_ l L e w' := by
   rintro e w' ⟨rfl, rfl⟩; unfold InstPost; rw [if_neg (by omega)]; exact ⟨rfl, hs⟩
  refine Calls.mono (R := fun e w' => e = Ending.returned (.iface 25 (.int .i64 10)) ∧ w = w') ?_ hfin
  clear hfin hr hN hb hs
  go_enter Tryz.func13, Tryz.ntmps13
  go_wp2
  go_ret
  exact ⟨rfl, rfl⟩
 by_cases h2 : 1099511627776 < at_
 ·have hfin : ∀ e w', e = Ending.returned (.iface 25 (.int .i64 10)) ∧ w = w' → InstPost w0 b o V last at_ l L e w' := by
   rintro e w' ⟨rfl, rfl⟩; unfold InstPost; rw [if_neg (by omega)]; exact ⟨rfl, hs⟩
  refine Calls.mono (R := fun e w' => e = Ending.returned (.iface 25 (.int .i64 10)) ∧ w = w') ?_ hfin
  clear hfin hr hN hb hs
  have h1' : last < at_ := by omega
  go_enter Tryz.func13, Tryz.ntmps13
  go_wp2
  go_ret
  exact ⟨rfl, rfl⟩
 have h1' : last < at_ := by omega
 have h2' : at_ ≤ 1099511627776 := by omega
 clear h1 h2
 obtain ⟨a, cap, hv, hcap, hcap', hrd⟩ := hr w hs.tail
 subst hv
 unfold maxLen at hcap'
 go_enter Tryz.func13, Tryz.ntmps13
 go_wp2
 go_loopw [26] (fun c wr => ∃ i : Nat, i ≤ l.length ∧ c = .int .i64 i ∧ badAt 0 l = badAt i (l.drop i) ∧ S w0 wr (storeP 107 b o V last :: L)) (fun c _ => l.length - (intOf c).toNat)
 case atStart => exact ⟨0, Nat.zero_le _, rfl, rfl, hs⟩
 case round =>
  obtain ⟨i, hi, rfl, hbad, hsr⟩ := hrel
  clear hc hrd
  by_cases hlt : i < l.length
  ·have hp : l[i]? = some l[i] := by simp [hlt]
   generalize l[i] = p at hp
   obtain ⟨lb, lo, rfl, c1, c2⟩ := hr.pair hsr.tail hp
   have hd : l.drop i = p :: l.drop (i + 1) := by
    have := List.getElem?_eq_some_iff.1 hp
    rw [List.drop_eq_getElem_cons this.1, this.2]
   rw [hd] at hbad
   have HB := hid hbad; clear hbad
   have HD := hid hd; clear hd
   have HP := hid hp; clear hp
   have hs1 := (hsr.alloc #[.int .i64 p.1, .int .i64 p.2] 101).tail
   have herr : ∀ x : Int, badAt i (p :: l.drop (i + 1)) = some (x, (i : Int)) → InstPost w0 b o V last at_ l L (.returned (.iface 112 (.pointer (some ⟨wr.heap.size + 1, 0, none⟩)))) ((wr.alloc (.cells #[.int .i64 p.1, .int .i64 p.2] 101)).alloc (.cells #[.int .i64 x, .int .i64 i] 113)) := by
    intro x hx
    have hs2 := hs1.alloc #[.int .i64 x, .int .i64 i] 113
    rw [World.size_alloc] at hs2
    unfold InstPost
    rw [if_pos ⟨h1', h2'⟩, HB.out, hx]
    exact ⟨_, rfl, .ex_intro (wr.heap.size + 1) (.sep_intro (.pur_intro rfl hs2))⟩
   have HE := hid herr; clear herr
   by_cases hk : keyOk p.1
   ·have hk1 : decide (keyOk p.1) = true := by simpa using hk
    by_cases hv : valOk p.2
    ·have hv1 := hv.1
     have hv2 := hv.2
     go_wp2_with (first | (go_at_call 45; refine (right_any _ _).mono ?_; rintro e w' ⟨rfl, rfl⟩))
     go_roundw
     case rel => exact ⟨i + 1, by omega, by go_num, by rw [HB.out]; simp [badAt, hk, hv], hs1⟩
     case measure => simp [intOf]; omega
    ·have hfin := HE.out 1 (by simp [badAt, hk, hv])
     have HF := hid hfin; clear hfin
     rcases (show p.2 < -1099511627776 ∨ (-1099511627776 ≤ p.2 ∧ 1099511627776 < p.2) by unfold valOk at hv; omega) with hv1 | ⟨hv0, hv1⟩
     ·clear hv
      go_wp2_with (first | (go_at_call 45; refine (right_any _ _).mono ?_; rintro e w' ⟨rfl, rfl⟩))
      go_ret
      exact HF.out
     ·clear hv
      go_wp2_with (first | (go_at_call 45; refine (right_any _ _).mono ?_; rintro e w' ⟨rfl, rfl⟩))
      go_ret
      exact HF.out
   ·have hk1 : decide (keyOk p.1) = false := by simpa using hk
    have hfin := HE.out 2 (by simp [badAt, hk])
    have HF := hid hfin; clear hfin
    go_wp2_with (first | (go_at_call 45; refine (right_any _ _).mono ?_; rintro e w' ⟨rfl, rfl⟩))
    go_ret
    exact HF.out
  ·have hil : i = l.length := by omega
   subst hil
   rw [List.drop_length] at hbad
   have hok := badAt_none (i := 0) (l := l) (by rw [hbad]; rfl)
   have HB := hid hbad; clear hbad
   have HO := hid hok; clear hok
   have HN := hid hN; clear hN
   go_wp2
   go_loopw [56] (fun c wr => ∃ i : Nat, i ≤ l.length ∧ c = .int .i64 i ∧ S w0 wr (storeP 107 b o (putAll at_ V (l.take i)) last :: L)) (fun c _ => l.length - (intOf c).toNat)
   case atStart => exact ⟨0, Nat.zero_le _, rfl, hsr⟩
   case round =>
    obtain ⟨i, hi, rfl, hsr⟩ := hrel
    by_cases hlt : i < l.length
    ·have hp : l[i]? = some l[i] := by simp [hlt]
     have hokp := HO.out l[i] (List.getElem_mem hlt)
     have htk : l.take (i + 1) = l.take i ++ [l[i]] := by rw [List.take_succ_eq_append_getElem hlt]
     generalize l[i] = p at hp hokp htk
     obtain ⟨pk, pv⟩ := p
     obtain ⟨⟨hk0, hk1⟩, hv0, hv1⟩ := hokp
     simp only at hk0 hk1 hv0 hv1
     obtain ⟨k, rfl⟩ := Int.eq_ofNat_of_zero_le hk0
     have hk10 : k < 10 := by omega
     have hpa : putAll at_ V (l.take (i + 1)) = put1 at_ (putAll at_ V (l.take i)) (k, pv) := by rw [htk]; simp [putAll]
     have hle := putAll_le (at_ := at_) (l.take i) HN.out
     obtain ⟨v, vs, X, hVk, hsk, hcell, hback, hset, hmod⟩ := hsr.store_key k hk10
     have hvl : vs.length ≤ 1000000 := by
      have := hle vs (List.mem_of_getElem? hVk)
      rw [List.length_take] at this; omega
     obtain ⟨lb, lo, rfl, c1, c2⟩ := hr.pair hsk.tail.tail hp
     obtain ⟨c3, f3, hw0⟩ := hcell wr hsk.tail
     have hb1 := World.block_lt_of_cell? wr _ c1
     have hb3 := World.block_lt_of_cell? wr _ c3
     simp only at hb1 hb3
     have HP := hid hp; have HT := hid htk; have HPA := hid hpa; have HLE := hid hle; have HVK := hid hVk
     clear hp htk hpa hle hVk hsr
     have hput : ∀ vs', vs' = (if (vs.getLast?.map (·.1)) = some at_ then vs.dropLast ++ [(at_, pv)] else vs ++ [(at_, pv)]) → (putAll at_ V (l.take i)).set k vs' = putAll at_ V (l.take (i + 1)) := by
      intro vs' h'; rw [HPA.out, h']; unfold put1; simp only [Int.toNat_natCast, HVK.out, Option.getD_some]
     have HPUT := hid hput; clear hput
     have hs1 := (hsk.alloc #[.int .i64 (k : Int), .int .i64 pv] 101).tail
     have hs2 := hs1.drew
     by_cases hemp : vs = []
     ·subst hemp
      obtain ⟨a0, cp, rfl, _, _, _⟩ := hsk.sl_val
      simp only [List.length_nil] at hsk c3 hset
      have hn0 : ¬ (0 : Int) > 0 := by omega
      obtain ⟨i0, hi0, hz0, hz1, hz2⟩ := info_parts Tryz.info107
      have hs3 : ∀ nq, S w0 (((wr.alloc (.cells #[.int .i64 (k : Int), .int .i64 pv] 101)).drewN nq).drew.alloc (.cells #[.int .i64 at_, .int .i64 pv] 107)) (blk (wr.heap.size + 1) 107 [.int .i64 at_, .int .i64 pv] :: blk wr.heap.size 101 [.int .i64 (k : Int), .int .i64 pv] :: sl 107 2 (.slice a0 0 cp) 0 [] :: X :: L) := by
       intro nq
       have h5 := (((hsk.alloc #[.int .i64 (k : Int), .int .i64 pv] 101).drewN nq).drew).alloc #[.int .i64 at_, .int .i64 pv] 107
       simpa [pcells] using h5
      have hn3 := fun nq => news_blk (hs3 nq)
      have hs4 := fun nq => (hs3 nq).tail.swap
      have hfin : ∀ w1 v', S w0 w1 (sl 107 2 v' (0 + 1) ([] ++ [.int .i64 at_, .int .i64 pv]) :: blk wr.heap.size 101 [.int .i64 (k : Int), .int .i64 pv] :: X :: L) → S w0 (w1.setCell ⟨b, o + k, none⟩ v') (storeP 107 b o (putAll at_ V (l.take (i + 1))) last :: L) := by
       intro w1 v' h5
       have h6 := hset w1 v' [(at_, pv)] L (by simpa [pcells] using h5.swap.tail)
       rwa [HPUT.out _ (by simp)] at h6
      have HF := hid hfin; clear hfin
      have H3 := hid hs4; have H4 := hid hn3; have HC := hid hcell
      clear hs4 hn3 hs3 hs1 hs2 hsk hback hset hmod hr hcell
      go_wp2_with (fail)
      go_quiet (fail)
      go_wp2_with fail
      go_region_law (refine step_append rfl (.tmp 91) (.tmp 96) 58 rfl 107 i0 _ 2 16 Tryz.underlying58 hi0 hz0 hz1 hz2 rfl (by decide) (H3.out _) rfl (some ⟨wr.heap.size + 1, 0, none⟩) 1 1 [.int .i64 at_, .int .i64 pv] rfl rfl (H4.out _) (by simp [Value.oneCell']) (by unfold maxLen; omega) (by omega) ?_; intro v1 w1 hs1; obtain ⟨a1, cp1, rfl, _, _, _⟩ := hs1.sl_val; obtain ⟨c9, f9, _⟩ := HC.out w1 hs1.tail.tail; have d1 := hs1.tail.blk_cell 0 rfl; have d2 := hs1.tail.blk_cell 1 rfl; have HS := hid (HF.out _ _ hs1); clear hs1)
      all_goals
       go_wp2_with fail
       go_roundw
       case rel => exact ⟨i + 1, by omega, by go_num, HS.out⟩
       case measure => simp [intOf]; omega
     ·obtain ⟨vs0, ⟨qa, qv⟩, rfl⟩ : ∃ vs0 q, vs = vs0 ++ [q] := ⟨vs.dropLast, vs.getLast hemp, (List.dropLast_concat_getLast hemp).symm⟩
      obtain ⟨g, og, cp, rfl, hcp1, hcp2, hg0, hg1, hgc, hgf⟩ := hsk.sl_some (by rw [pcells_length]; simp)
      have hq := pcells_at (vs0 ++ [(qa, qv)]) vs0.length (qa, qv) (by simp)
      have hq1 := hgc _ _ hq.1
      have hq2 : wr.cell? ⟨g, og + vs0.length * 2 + 1, none⟩ = some (.int .i64 qv) := hgc _ _ hq.2
      simp only [List.length_append, List.length_cons, List.length_nil, Nat.zero_add] at hvl hcp1 c3
      generalize hm : vs0.length = m at hq1 hq2 hvl hcp1 c3
      have HM := hid hm; clear hm
      clear hgc hemp hq
      unfold maxLen at hcp2
      by_cases hqa : qa = at_
      ·subst hqa
       have hfin : ∀ nq, S w0 (((wr.alloc (.cells #[.int .i64 (k : Int), .int .i64 pv] 101)).drewN nq).setCell ⟨g, og + m * 2 + 1, none⟩ (.int .i64 pv)) (storeP 107 b o (putAll qa V (l.take (i + 1))) last :: L) := by
        intro nq
        have h5 := (hs1.drewN nq).sl_set (g := g) (o := og) (cap := cp) rfl (m * 2 + 1) (by rw [pcells_length, List.length_append, HM.out]; simp; omega) (.int .i64 pv)
        rw [← HM.out, pcells_set _ vs0.length (qa, qv) pv (by simp), List.set_append_right _ _ (Nat.le_refl _), Nat.sub_self, List.set_cons_zero] at h5
        have h6 := hmod _ (vs0 ++ [(qa, pv)]) _ (by simpa using h5)
        rw [HPUT.out _ (by simp), ← Nat.add_assoc, HM.out] at h6
        exact h6
       have HF := hid hfin; clear hfin hs1 hs2 hsk hback hset hmod hr hcell
       go_wp2_with (fail)
       go_quiet (fail)
       go_wp2_with fail
       go_roundw
       case rel => exact ⟨i + 1, by omega, by go_num, HF.out _⟩
       case measure => simp [intOf]; omega
      ·have hqb : (qa == at_) = false := by simpa using hqa
       obtain ⟨i0, hi0, hz0, hz1, hz2⟩ := info_parts Tryz.info107
       have hs3 : ∀ nq, S w0 (((wr.alloc (.cells #[.int .i64 (k : Int), .int .i64 pv] 101)).drewN nq).drew.alloc (.cells #[.int .i64 at_, .int .i64 pv] 107)) (blk (wr.heap.size + 1) 107 [.int .i64 at_, .int .i64 pv] :: blk wr.heap.size 101 [.int .i64 (k : Int), .int .i64 pv] :: sl 107 2 (.slice (some ⟨g, og, none⟩) (m + 1) cp) (m + 1) (pcells (vs0 ++ [(qa, qv)])) :: X :: L) := by
        intro nq
        have h5 := (((hsk.alloc #[.int .i64 (k : Int), .int .i64 pv] 101).drewN nq).drew).alloc #[.int .i64 at_, .int .i64 pv] 107
        rw [← HM.out]
        simpa using h5
       have hn3 := fun nq => news_blk (hs3 nq)
       have hs4 := fun nq => (hs3 nq).tail.swap
       have hfin : ∀ w1 v', S w0 w1 (sl 107 2 v' (m + 1 + 1) (pcells (vs0 ++ [(qa, qv)]) ++ [.int .i64 at_, .int .i64 pv]) :: blk wr.heap.size 101 [.int .i64 (k : Int), .int .i64 pv] :: X :: L) → S w0 (w1.setCell ⟨b, o + k, none⟩ v') (storeP 107 b o (putAll at_ V (l.take (i + 1))) last :: L) := by
        intro w1 v' h5
        have h6 := hset w1 v' (vs0 ++ [(qa, qv)] ++ [(at_, pv)]) L (by rw [pcells_append]; simpa [HM.out, pcells] using h5.swap.tail)
        rwa [HPUT.out _ (by simp [hqa])] at h6
       have HF := hid hfin; clear hfin
       have H3 := hid hs4; have H4 := hid hn3; have HC := hid hcell
       clear hs4 hn3 hs3 hs1 hs2 hsk hback hset hmod hr hcell
       go_wp2_with (fail)
       go_quiet (fail)
       go_wp2_with fail
       go_region_law (refine step_append rfl (.tmp 91) (.tmp 96) 58 rfl 107 i0 _ 2 16 Tryz.underlying58 hi0 hz0 hz1 hz2 rfl (by decide) (H3.out _) rfl (some ⟨wr.heap.size + 1, 0, none⟩) 1 1 [.int .i64 at_, .int .i64 pv] rfl rfl (H4.out _) (by simp [Value.oneCell']) (by unfold maxLen; omega) (by omega) ?_; intro v1 w1 hs1; obtain ⟨a1, cp1, rfl, _, _, _⟩ := hs1.sl_val; obtain ⟨c9, f9, _⟩ := HC.out w1 hs1.tail.tail; have d1 := hs1.tail.blk_cell 0 rfl; have d2 := hs1.tail.blk_cell 1 rfl; have HS := hid (HF.out _ _ hs1); clear hs1)
       all_goals
        go_wp2_with fail
        go_roundw
        case rel => exact ⟨i + 1, by omega, by go_num, HS.out⟩
        case measure => simp [intOf]; omega
    ·have hil : i = l.length := by omega
     subst hil
     rw [List.take_length] at hsr
     obtain ⟨c9, f9, hl9⟩ := hsr.store_last
     have hfin : InstPost w0 b o V last at_ l L (.returned .nilIface) (wr.setCell ⟨b, o + 10, none⟩ (.int .i64 at_)) := by
      unfold InstPost; rw [if_pos ⟨h1', h2'⟩, HB.out]; exact ⟨rfl, hl9 at_⟩
     have HF := hid hfin; clear hfin hl9 hsr
     go_wp2_with fail
     go_ret
     exact HF.out
end Go.Proofs.YtmfngjclccehaaaGreatDoor
/- More words for walks: whole arrays, clones. -/
namespace Go.Sep
open Go Go.RowKit
variable {P : Program} {w w0 : World} {L : List HProp}
theorem wpList_load_arr {ops : Array Oper} {rest : List Oper} {o : Oper} {a : Act} {Q : Exit → Act → World → Prop} (hg : o.guard = none) (t : TypeId) (x : Operand) (hop : o.op = .load t x)
  (ad : Addr) (hx : a.eval x = .pointer (some ad)) (n : Nat) (e : TypeId) (ht : P.underlying t = some (.array n e)) (cs : List Value) (hsz' : (P.info? t).map (·.size) = some cs.length)
  (hc : ∀ j u, cs[j]? = some u → w.cell? (ad.add j) = some u) (h : wpList P ops Q rest (a.put o.dst (.agg cs.toArray)) w) : wpList P ops Q (o :: rest) a w :=
 wpList_plain hg fun K hK => by
  obtain ⟨i, hi, hsz⟩ := Option.map_eq_some_iff.1 hsz'
  have hl := run_loadCells_list (P := P) w ad cs hc
  have hrun : (loadVar t ad).run P w = .ok (.agg cs.toArray) w := by simp [loadVar, isAgg, run_underlying ht, sizeOf, typeInfo, hi, hsz, hl]
  unfold Oper.wp execOp
  simp only [hop, hx, Instr.loadAt, Instr.sureAddr, Sem.run_bind, Sem.run_pure, Result.andThen_ok, hrun]
  exact hK _ _ h
theorem run_index_arr {t e : TypeId} {n : Nat} {d : TypeDesc} (ht : P.underlying t = some (.array n e)) (he : P.underlying e = some d) (hd : (match d with | .struct _ | .array _ _ => false | _ => true) = true)
  (hsz : (P.info? e).map (·.size) = some 1) {cs : List Value} {i : Nat} {v : Value} (hi : i < n) (hv : cs[i]? = some v) (w : World) :
  (Instr.index t (.agg cs.toArray) (.int .i64 i)).run P w = .ok v w := by
 obtain ⟨info, h1, h2⟩ := Option.map_eq_some_iff.1 hsz
 have ha : (isAgg e).run P w = .ok false w := by
  simp only [isAgg, Sem.run_bind, run_underlying he, Result.andThen_ok]
  cases d <;> simp_all
 simp [Instr.index, asIntOf, run_underlying ht, hi, sizeOf, typeInfo, h1, h2, part, ha, hv]
end Go.Sep
/- The program's store: Newer, Many, Sweep. -/
namespace Go.Proofs.YtmfngjclccehaaaGreatDoor
open Go Go.RowKit Go.Sep
theorem Tryz.info3 : (Tryz.prog.info? 3).map (fun i => (i.zero, i.size, i.bytes)) = some (some (.int .i64 0), 1, 8) := by kernel_rfl
def newerL (vs : Vers) (at_ : Int) : List Int := (vs.filter fun p => decide (at_ < p.1)).map (·.1)
theorem newerL_snoc (vs : Vers) (p : Int × Int) (at_ : Int) : newerL (vs ++ [p]) at_ = newerL vs at_ ++ if at_ < p.1 then [p.1] else [] := by
 unfold newerL; rw [List.filter_append, List.map_append]; by_cases h : at_ < p.1 <;> simp [h]
theorem newerL_le (vs : Vers) (at_ : Int) : (newerL vs at_).length ≤ vs.length := by unfold newerL; rw [List.length_map]; exact List.length_filter_le _ _
def NewPost (w0 : World) (b o : Nat) (V : List Vers) (last at_ : Int) (vs : Vers) (L : List HProp) (e : Ending) (w' : World) : Prop :=
 ∃ v, e = .returned (.tuple #[v, .nilIface]) ∧ S w0 w' (sl 3 1 v (newerL vs at_).length (icells (newerL vs at_)) :: storeP 107 b o V last :: L)
set_option maxHeartbeats 1000000 in
theorem newer_any (w0 w : World) (b o : Nat) (V : List Vers) (last at_ : Int) (k : Nat) (vs : Vers) (L : List HProp) (hk : k < 10)
  (hs : S w0 w (storeP 107 b o V last :: L)) (hV : V[k]? = some vs) (hb : vs.length ≤ 2000000) :
  Calls Tryz.prog 81 #[.pointer (some ⟨b, o, none⟩), .int .i64 k, .int .i64 at_] w (NewPost w0 b o V last at_ vs L) := by
 have hk1 : decide (keyOk (k : Int)) = true := decide_eq_true ⟨by omega, by omega⟩
 obtain ⟨v, vs', X, hVk, hsk, hcell, hback, -, -⟩ := hs.store_key k hk
 obtain rfl : vs = vs' := Option.some.inj (hV.symm.trans hVk)
 obtain ⟨a0, cp, rfl, hcp, hcp2, _⟩ := hsk.sl_val
 obtain ⟨c3, _, _⟩ := hcell w hsk.tail
 unfold maxLen at hcp2
 clear hs hV hVk hcell
 go_enter Tryz.func81, Tryz.ntmps81
 go_wp2_with (first | (go_at_call 45; refine (right_any _ _).mono ?_; rintro e w' ⟨rfl, rfl⟩))
 go_loopw [8, 22] (fun u c wr => ∃ i : Nat, i ≤ vs.length ∧ c = .int .i64 i ∧ S w0 wr (sl 3 1 u (newerL (vs.take i) at_).length (icells (newerL (vs.take i) at_)) :: sl 107 2 (.slice a0 vs.length cp) vs.length (pcells vs) :: X :: L)) (fun _ c _ => vs.length - (intOf c).toNat)
 case atStart => exact ⟨0, Nat.zero_le _, rfl, by simpa [newerL, icells] using hsk.sl_nil⟩
 case round =>
  obtain ⟨i, hi, rfl, hsr⟩ := hrel
  clear c3 hsk
  by_cases hlt : i < vs.length
  ·have hp : vs[i]? = some vs[i] := by simp [hlt]
   generalize vs[i] = p at hp
   have htk := newerL_snoc (vs.take i) p at_
   rw [← take_succ_get hp] at htk
   have hle := newerL_le (vs.take i) at_
   rw [List.length_take] at hle
   obtain ⟨g, og, rfl, hg, c1, c2⟩ := (hsr.swap).sl_pair hp
   have HP := hid hp; clear hp
   have HT := hid htk; clear htk
   by_cases hgt : at_ < p.1
   ·obtain ⟨i0, hi0, hz0, hz1, hz2⟩ := info_parts Tryz.info3
    have hs1 := (hsr.alloc #[.int .i64 p.1, .int .i64 p.2] 107).tail.alloc #[.int .i64 p.1] 3
    rw [World.size_alloc] at hs1
    have hn1 := news_blk hs1
    have hs2 := hs1.tail
    have H1 := hid hs2; have H2 := hid hn1; clear hs1 hs2 hn1 hsr
    go_wp2_with (at_builtin; refine wpList_append rfl (.tmp 30) (.tmp 33) 48 rfl 3 i0 _ 1 8 Tryz.underlying48 hi0 hz0 hz1 hz2 rfl (by decide) H1.out rfl (some ⟨wr.heap.size + 1, 0, none⟩) 1 1 [.int .i64 p.1] rfl rfl H2.out (by simp [Value.oneCell']) (by unfold maxLen; omega) (by omega) ?_; intro v1 w1 hs1; have HS := hid hs1; clear hs1)
    go_roundw
    case rel => exact ⟨i + 1, by omega, by go_num, by rw [HT.out, if_pos hgt]; simpa [icells_append, icells] using HS.out⟩
    case measure => simp [intOf]; omega
   ·have hs1 := (hsr.alloc #[.int .i64 p.1, .int .i64 p.2] 107).tail
    have H1 := hid hs1; clear hs1 hsr
    go_wp2
    go_roundw
    case rel => exact ⟨i + 1, by omega, by go_num, by rw [HT.out, if_neg hgt]; simpa using H1.out⟩
    case measure => simp [intOf]; omega
  ·have hil : i = vs.length := by omega
   subst hil
   rw [List.take_length] at hsr
   have hfin : ∀ v, S w0 wr (sl 3 1 v (newerL vs at_).length (icells (newerL vs at_)) :: sl 107 2 (.slice a0 vs.length cp) vs.length (pcells vs) :: X :: L) → NewPost w0 b o V last at_ vs L (.returned (.tuple #[v, .nilIface])) wr := by
    intro v h; exact ⟨v, rfl, (hback wr (_ :: L) (h.perm (by exact List.Perm.trans (List.Perm.swap _ _ _) (List.Perm.cons _ (List.Perm.swap _ _ _))))).swap⟩
   have HF := hid (hfin _ hsr); clear hfin hsr hback
   go_wp2
   go_ret2
   exact HF.out
theorem Tryz.size58 : (Tryz.prog.info? 58).map (·.size) = some 1 := by kernel_rfl
theorem Tryz.size59 : (Tryz.prog.info? 59).map (·.size) = some 10 := by kernel_rfl
def manyV (V : List Vers) : Nat := (V.map List.length).sum
theorem manyV_take {V : List Vers} {i : Nat} {vs : Vers} (h : V[i]? = some vs) : manyV (V.take (i + 1)) = manyV (V.take i) + vs.length := by
 unfold manyV; rw [take_succ_get h, List.map_append, List.sum_append]; simp
theorem manyV_le {V : List Vers} {N : Nat} (h : ∀ vs ∈ V, vs.length ≤ N) : manyV V ≤ N * V.length := by
 unfold manyV
 induction V with
 | nil => simp
 | cons v V ih =>
  have h1 := h v (by simp)
  have h2 := ih (fun vs hv => h vs (by simp [hv]))
  simp only [List.map_cons, List.sum_cons, List.length_cons, Nat.mul_add, Nat.mul_one]
  omega
end Go.Proofs.YtmfngjclccehaaaGreatDoor
/- What comes in as arguments: slices of pairs, and slices of those. -/
namespace Go.Proofs.YtmfngjclccehaaaGreatDoor
open Go Go.RowKit Go.Sep
theorem Tryz.info101 : (Tryz.prog.info? 101).map (fun i => (i.zero, i.size, i.bytes)) = some (some (.agg #[.int .i64 0, .int .i64 0]), 2, 16) := by kernel_rfl
def ArgPairs (w0 : World) (vi : Value) (l : Vers) : Prop := ∃ ai ci, vi = .slice ai l.length ci ∧ l.length ≤ ci ∧ ci ≤ maxLen ∧ ∀ (j : Nat) (p : Int × Int), l[j]? = some p → ∃ bb oo, ai = some ⟨bb, oo, none⟩ ∧ bb < w0.heap.size ∧ w0.cell? ⟨bb, oo + j * 2, none⟩ = some (.int .i64 p.1) ∧ w0.cell? ⟨bb, oo + j * 2 + 1, none⟩ = some (.int .i64 p.2)
end Go.Proofs.YtmfngjclccehaaaGreatDoor
/- errors.As at the target *api.Errno (after the guide's worked example ToyasAs), and api.Tell. -/
namespace Go.Proofs.YtmfngjclccehaaaGreatDoor
open Go Go.RowKit Go.Sep Go.Extern.Stop Go.Stop Go.Extern
theorem Tryz.valueOfT (t : Addr) (w : World) : (ReflectliteValue.unpack (.iface 151 (.pointer (some t)))).run Tryz.prog w
  = .ok (.agg #[.pointer (some ⟨1, 151, none⟩), .pointer (some ⟨w.heap.size, 0, none⟩), .int .u64 150]) (w.alloc (.cells #[.pointer (some t)] 151)) := by kernel_rfl
theorem Tryz.typeT (a : Addr) (w : World) : (ReflectliteValue.methodAny (ReflectliteValue.valueError "reflectlite.Value.Type" 0) (fun t _ _ _ => ReflectliteType.toType t) #[.agg #[.pointer (some ⟨1, 151, none⟩), .pointer (some a), .int .u64 150]]).run Tryz.prog w
  = .ok (.iface 186 (.agg #[.pointer (some ⟨1, 151, none⟩)])) w := by kernel_rfl
theorem Tryz.methodKind (h : Value) (w : World) : (Go.method 347 186 (.agg #[h]) "Kind").run Tryz.prog w = .ok (143, h) w := by kernel_rfl
theorem Tryz.kindT (w : World) : ((ReflectliteType.abiMethod fun t => Functor.map (fun a : Nat => Value.int IntKind.u8 (a : Int)) (Rtype.kind t)) #[.pointer (some ⟨1, 151, none⟩)]).run Tryz.prog w = .ok (.int .u8 22) w := by kernel_rfl
theorem Tryz.kindE (w : World) : ((ReflectliteType.abiMethod fun t => Functor.map (fun a : Nat => Value.int IntKind.u8 (a : Int)) (Rtype.kind t)) #[.pointer (some ⟨1, 25, none⟩)]).run Tryz.prog w = .ok (.int .u8 2) w := by kernel_rfl
theorem rlm (z : Sem Value) (f : TypeId → Addr → Nat → Nat → Sem Value) (v : Value) :
  ReflectliteValue.method z f #[v] = (do match ← ReflectliteValue.parts v with | none => z | some (t, a, fl) => f t a fl (fl % 32)) := rfl
theorem Tryz.partsT (a : Addr) (w : World) : (ReflectliteValue.parts (.agg #[.pointer (some ⟨1, 151, none⟩), .pointer (some a), .int .u64 150])).run Tryz.prog w = .ok (some (151, a, 150)) w := by kernel_rfl
theorem Tryz.isNilT (a p : Addr) (W : World) (ha : W.cell? a = some (.pointer (some p))) :
  (ReflectliteValue.method (ReflectliteValue.valueError "reflectlite.Value.IsNil" 0) ReflectliteValue.isNil #[.agg #[.pointer (some ⟨1, 151, none⟩), .pointer (some a), .int .u64 150]]).run Tryz.prog W = .ok (.bool false) W := by
 rw [rlm]
 simp only [Sem.run_bind, Tryz.partsT, Result.andThen]
 simp [ReflectliteValue.isNil, loadVar, isAgg, underlying, Tryz.underlying151, ha, Result.andThen]
theorem Tryz.methodElem (h : Value) (w : World) : (Go.method 347 186 (.agg #[h]) "Elem").run Tryz.prog w = .ok (155, .agg #[h]) w := by kernel_rfl
theorem Tryz.methodImplements (h : Value) (w : World) : (Go.method 347 186 (.agg #[h]) "Implements").run Tryz.prog w = .ok (156, .agg #[h]) w := by kernel_rfl
theorem Tryz.methodAssignableTo (h : Value) (w : World) : (Go.method 347 186 (.agg #[h]) "AssignableTo").run Tryz.prog w = .ok (153, .agg #[h]) w := by kernel_rfl
theorem Tryz.elemT (w : World) : (ReflectliteType.method ReflectliteType.elem #[.agg #[.pointer (some ⟨1, 151, none⟩)]]).run Tryz.prog w = .ok (.iface 186 (.agg #[.pointer (some ⟨1, 25, none⟩)])) w := by kernel_rfl
theorem Tryz.implementsE (w : World) : (ReflectliteType.relation "Implements" ReflectliteType.implements_ #[.agg #[.pointer (some ⟨1, 25, none⟩)], .iface 186 (.agg #[.pointer (some ⟨1, 32, none⟩)])]).run Tryz.prog w = .ok (.bool true) w := by kernel_rfl
theorem Tryz.typeOfE (v : Value) (w : World) : (ReflectliteType.typeOf #[.iface 25 v]).run Tryz.prog w = .ok (.iface 186 (.agg #[.pointer (some ⟨1, 25, none⟩)])) w := by kernel_rfl
theorem Tryz.typeOfA (v : Value) (w : World) : (ReflectliteType.typeOf #[.iface 112 v]).run Tryz.prog w = .ok (.iface 186 (.agg #[.pointer (some ⟨1, 112, none⟩)])) w := by kernel_rfl
theorem Tryz.assignableE (w : World) : (ReflectliteType.relation "AssignableTo" ReflectliteType.assignableTo #[.agg #[.pointer (some ⟨1, 25, none⟩)], .iface 186 (.agg #[.pointer (some ⟨1, 25, none⟩)])]).run Tryz.prog w = .ok (.bool true) w := by kernel_rfl
theorem Tryz.assignableA (w : World) : (ReflectliteType.relation "AssignableTo" ReflectliteType.assignableTo #[.agg #[.pointer (some ⟨1, 112, none⟩)], .iface 186 (.agg #[.pointer (some ⟨1, 25, none⟩)])]).run Tryz.prog w = .ok (.bool false) w := by kernel_rfl
theorem Tryz.valueOfE (e : Int) (w : World) : (ReflectliteValue.unpack (.iface 25 (.int .i64 e))).run Tryz.prog w
  = .ok (.agg #[.pointer (some ⟨1, 25, none⟩), .pointer (some ⟨w.heap.size, 0, none⟩), .int .u64 130]) (w.alloc (.cells #[.int .i64 e] 25)) := by kernel_rfl
theorem Tryz.elemOfT (w : World) : (Rtype.elem? 151).run Tryz.prog w = .ok (some 25) w := by kernel_rfl
theorem Tryz.mkE (p : Addr) (w : World) : (ReflectliteValue.mk 25 p ReflectliteValue.flagAddr).run Tryz.prog w = .ok (.agg #[.pointer (some ⟨1, 25, none⟩), .pointer (some p), .int .u64 386]) w := by kernel_rfl
theorem Tryz.elemVT (a p : Addr) (W : World) (ha : W.cell? a = some (.pointer (some p))) :
  (ReflectliteValue.method (ReflectliteValue.valueError "reflectlite.Value.Elem" 0) ReflectliteValue.elem #[.agg #[.pointer (some ⟨1, 151, none⟩), .pointer (some a), .int .u64 150]]).run Tryz.prog W
   = .ok (.agg #[.pointer (some ⟨1, 25, none⟩), .pointer (some p), .int .u64 386]) W := by
 rw [rlm]
 simp only [Sem.run_bind, Tryz.partsT, Result.andThen]
 simp [ReflectliteValue.elem, loadVar, isAgg, underlying, Tryz.underlying151, ha, Result.andThen, Tryz.elemOfT, Tryz.mkE]
theorem rls (v x : Value) : ReflectliteValue.set #[v, x] = (do
  let (some (dst, a, fl), some (src, b, _)) := (← ReflectliteValue.parts v, ← ReflectliteValue.parts x)
   | unsupported (.noEntry "extern/(internal/reflectlite.Value).Set.zeroValue")
  if fl / ReflectliteValue.flagAddr % 2 == 0 then unsupported (.noEntry "extern/(internal/reflectlite.Value).Set.unaddressable")
  let val ← loadVar src b
  if ← Rtype.directlyAssignable dst src then storeVar dst a val
  else if ← Rtype.implements dst src then
   if (← Rtype.kind src) == 20 then
    match val with
    | .nilIface => unsupported (.noEntry "extern/reflectlite: a nil value of one interface type handed on as a value of another")
    | _ => storeVar dst a val
   else storeVar dst a (.iface src val)
  else panicString ("reflectlite.Set: value of type " ++ (← Rtype.spelt src) ++ " is not assignable to type " ++ (← Rtype.spelt dst))
  pure (.tuple #[])) := rfl
theorem Tryz.partsEa (a : Addr) (w : World) : (ReflectliteValue.parts (.agg #[.pointer (some ⟨1, 25, none⟩), .pointer (some a), .int .u64 386])).run Tryz.prog w = .ok (some (25, a, 386)) w := by kernel_rfl
theorem Tryz.partsE (a : Addr) (w : World) : (ReflectliteValue.parts (.agg #[.pointer (some ⟨1, 25, none⟩), .pointer (some a), .int .u64 130])).run Tryz.prog w = .ok (some (25, a, 130)) w := by kernel_rfl
theorem Tryz.directE (w : World) : (Rtype.directlyAssignable 25 25).run Tryz.prog w = .ok true w := by kernel_rfl
theorem Tryz.setE (ta b : Addr) (e : Int) (old : Value) (W : World) (hb : W.cell? b = some (.int .i64 e)) (ht : W.cell? ta = some old) (hf : W.frozen? ta = false) :
  (ReflectliteValue.set #[.agg #[.pointer (some ⟨1, 25, none⟩), .pointer (some ta), .int .u64 386], .agg #[.pointer (some ⟨1, 25, none⟩), .pointer (some b), .int .u64 130]]).run Tryz.prog W
   = .ok (.tuple #[]) (W.setCell ta (.int .i64 e)) := by
 rw [rls]
 simp only [Sem.run_bind, Tryz.partsEa, Tryz.partsE, Result.andThen]
 simp [ReflectliteValue.flagAddr, loadVar, isAgg, underlying, Tryz.underlying25, hb, Result.andThen, Tryz.directE, storeVar, Value.cells, storeCells, Addr.add]
 rw [run_store Tryz.prog W ta _ _ (by rfl)]
 simp [ht, hf]
end Go.Proofs.YtmfngjclccehaaaGreatDoor
/- errors.As at *api.Errno: an Errno; an At around one. api.Tell. -/
namespace Go.Proofs.YtmfngjclccehaaaGreatDoor
open Go Go.RowKit Go.Sep Go.Extern.Stop Go.Stop Go.Extern
def ErrT (w : World) : Prop := w.cell? ⟨0, 0, none⟩ = some (.iface 186 (.agg #[.pointer (some ⟨1, 32, none⟩)]))
theorem ErrT.lt {w : World} (h : ErrT w) : 0 < w.heap.size := World.block_lt_of_cell? w _ h
theorem ErrT.of {w0 w : World} {L : List HProp} (h : ErrT w0) (hs : S w0 w L) : ErrT w := (hs.1.cell (p := ⟨0, 0, none⟩) h.lt).trans h
set_option maxRecDepth 20000 in
set_option maxHeartbeats 4000000 in
theorem as_hit (e : Int) (t : Nat) (old : Value) (w0 w : World) (L : List HProp) (hE : ErrT w0) (hs : S w0 w (blk t 25 [old] :: L)) :
  Calls Tryz.prog 78 #[.iface 25 (.int .i64 e), .iface 151 (.pointer (some ⟨t, 0, none⟩))] w fun ev w' => ev = .returned (.bool true) ∧ S w0 w' (blk t 25 [.int .i64 e] :: L) := by
 have hg := hE.of hs
 unfold ErrT at hg
 have hlt := (hE.of hs).lt
 have hs1 := hs.alloc #[.pointer (some ⟨t, 0, none⟩)] 151
 have hs2 := hs1.alloc #[.pointer (some ⟨1, 151, none⟩), .pointer (some ⟨w.heap.size, 0, none⟩), .int .u64 150] 169
 have hs3 := hs2.alloc #[.pointer (some ⟨1, 151, none⟩), .pointer (some ⟨w.heap.size, 0, none⟩), .int .u64 150] 169
 have hs4 := hs3.alloc #[.int .i64 e] 25
 simp only [World.size_alloc] at hs2 hs3 hs4
 have hfin := hs4.tail.tail.tail.tail.blk_set 0 (by simp) (.int .i64 e)
 have h6 := @run_callFunc_extern Tryz.prog 95 _ (fun args => ReflectliteValue.unpack (args.getD 0 (.tuple #[]))) Tryz.func95 (by kernel_rfl) (by kernel_rfl) (by kernel_rfl) (by kernel_rfl)
 have h7 := @run_callFunc_extern Tryz.prog 96 _ (ReflectliteValue.methodAny (ReflectliteValue.valueError "reflectlite.Value.Type" 0) (fun t _ _ _ => ReflectliteType.toType t)) Tryz.func96 (by kernel_rfl) (by kernel_rfl) (by kernel_rfl) (by kernel_rfl)
 have h8 := @run_callFunc_extern Tryz.prog 97 _ (ReflectliteValue.method (ReflectliteValue.valueError "reflectlite.Value.IsNil" 0) ReflectliteValue.isNil) Tryz.func97 (by kernel_rfl) (by kernel_rfl) (by kernel_rfl) (by kernel_rfl)
 have h27 := @run_callFunc_extern Tryz.prog 143 _ (ReflectliteType.abiMethod fun t => do pure (.int .u8 (← Rtype.kind t))) Tryz.func143 (by kernel_rfl) (by kernel_rfl) (by kernel_rfl) (by kernel_rfl)
 have h37 := @run_callFunc_extern Tryz.prog 155 _ (ReflectliteType.method ReflectliteType.elem) Tryz.func155 (by kernel_rfl) (by kernel_rfl) (by kernel_rfl) (by kernel_rfl)
 have h38 := @run_callFunc_extern Tryz.prog 156 _ (ReflectliteType.relation "Implements" ReflectliteType.implements_) Tryz.func156 (by kernel_rfl) (by kernel_rfl) (by kernel_rfl) (by kernel_rfl)
 have h10 := @run_callFunc_extern Tryz.prog 107 _ ReflectliteType.typeOf Tryz.func107 (by kernel_rfl) (by kernel_rfl) (by kernel_rfl) (by kernel_rfl)
 have h35 := @run_callFunc_extern Tryz.prog 153 _ (ReflectliteType.relation "AssignableTo" ReflectliteType.assignableTo) Tryz.func153 (by kernel_rfl) (by kernel_rfl) (by kernel_rfl) (by kernel_rfl)
 have h11 := @run_callFunc_extern Tryz.prog 108 _ (ReflectliteValue.method (ReflectliteValue.valueError "reflectlite.Value.Elem" 0) ReflectliteValue.elem) Tryz.func108 (by kernel_rfl) (by kernel_rfl) (by kernel_rfl) (by kernel_rfl)
 have h12 := @run_callFunc_extern Tryz.prog 109 _ ReflectliteValue.set Tryz.func109 (by kernel_rfl) (by kernel_rfl) (by kernel_rfl) (by kernel_rfl)
 have tO := Tryz.typeOfE
 have mA := Tryz.methodAssignableTo
 have a25 := Tryz.assignableE
 have v25 := Tryz.valueOfE
 have f6 := Tryz.valueOfT
 have f7 := Tryz.typeT
 have mK := Tryz.methodKind
 have mE := Tryz.methodElem
 have mI := Tryz.methodImplements
 have k27 := Tryz.kindT
 have k25 := Tryz.kindE
 have e27 := Tryz.elemT
 have i25 := Tryz.implementsE
 have n8 := Tryz.isNilT ⟨w.heap.size, 0, none⟩ ⟨t, 0, none⟩ _ (hs2.tail.blk_cell 0 rfl)
 have el := Tryz.elemVT ⟨w.heap.size, 0, none⟩ ⟨t, 0, none⟩ _ (hs3.tail.tail.blk_cell 0 rfl)
 have st := Tryz.setE ⟨t, 0, none⟩ ⟨w.heap.size + 1 + 1 + 1, 0, none⟩ e old _ (hs4.blk_cell 0 rfl) (hs4.tail.tail.tail.tail.blk_cell 0 rfl) (hs4.tail.tail.tail.tail.blk_free 0)
 have hg2 : ((w.alloc (.cells #[.pointer (some ⟨t, 0, none⟩)] 151)).alloc (.cells #[.pointer (some ⟨1, 151, none⟩), .pointer (some ⟨w.heap.size, 0, none⟩), .int .u64 150] 169)).cell? ⟨0, 0, none⟩ = some (.iface 186 (.agg #[.pointer (some ⟨1, 32, none⟩)])) := hE.of hs2
 have HF := hid hfin
 clear hs1 hs2 hs3 hs4 hfin hs
 go_enter Tryz.func78, Tryz.ntmps78
 go_wp2
 refine wp_loop_rounds 1 ?_
 rw [rounds_succ]
 go_wp2
 go_ret
 exact ⟨rfl, HF.out⟩
def Err.errno : Err → Int
 | .nil => 0
 | .no e => e
 | .at_ e _ => e
theorem tell_nil (w : World) : Calls Tryz.prog 46 #[.nilIface] w fun ev w' => ev = .returned (.int .i64 0) ∧ w = w' := by
 go_enter Tryz.func46, Tryz.ntmps46
 go_wp2
 go_ret
 exact ⟨rfl, rfl⟩
set_option maxHeartbeats 1000000 in
theorem tell_no (e : Int) (w0 w : World) (L : List HProp) (hE : ErrT w0) (hs : S w0 w L) :
  Calls Tryz.prog 46 #[.iface 25 (.int .i64 e)] w fun ev w' => ev = .returned (.int .i64 e) ∧ S w0 w' L := by
 have hs1 := hs.alloc #[.int .i64 0] 25
 have H1 := hid hs1
 clear hs1 hs
 go_enter Tryz.func46, Tryz.ntmps46
 go_wp2_with (go_at_call 78; refine (as_hit _ _ _ w0 _ L hE H1.out).mono ?_; rintro ev w' ⟨rfl, hs2⟩; have d1 := hs2.blk_cell 0 rfl; have H2 := hid hs2; clear hs2)
 go_ret
 exact ⟨rfl, H2.out.tail⟩
end Go.Proofs.YtmfngjclccehaaaGreatDoor
/- From a walk to a given statement: what a law's proof has in common; slices of pairs among the arguments. -/
namespace Go.Proofs.YtmfngjclccehaaaGreatDoor
open Go Go.RowKit Go.Sep Go.ChangeShapes Go.WideShapes Go.ChangeAt Go.Deep
theorem Tryz.own : ownKnob Tryz.prog.godebug = none := by kernel_rfl
theorem Tryz.et : Tryz.prog.globalNamed "errors.errorType" = some 0 := by kernel_rfl
theorem Tryz.rt : (Tryz.prog.cutTypes.find? (·.1 == "internal/reflectlite.rtype")).map (·.2) = some 186 := by kernel_rfl
theorem Tryz.tsize : Tryz.prog.types.size = 247 := by kernel_rfl
theorem Tryz.oneRow : ((List.range 247).filter fun t => Tryz.prog.rowNamed t [101, 114, 114, 111, 114]) = [32] := by kernel_rfl
theorem Tryz.laidOut : laidOutB Tryz.prog = true := by kernel_rfl
theorem handle_of_laid {W : World} (h : laidMetH Tryz.prog [("errors.errorType", Rows.laid_errors_errorType)] W) : ErrT W := by
 have h' : laidMet Tryz.prog [] W ∧ handlesMet Tryz.prog [("errors.errorType", Rows.laid_errors_errorType)] W := h
 obtain ⟨name, u, ty, e1, e2, e3, e4, e5⟩ := h'.2 _ (List.mem_singleton.2 rfl)
 have en : name = [101, 114, 114, 111, 114] := (Option.some.inj e1).symm
 subst en
 obtain rfl := Option.some.inj (Tryz.rt.symm.trans e2)
 have hm : ty ∈ (List.range 247).filter fun t => Tryz.prog.rowNamed t [101, 114, 114, 111, 114] := List.mem_filter.2 ⟨List.mem_range.2 (by rw [← Tryz.tsize]; exact e3), e4⟩
 rw [Tryz.oneRow] at hm
 obtain rfl := List.mem_singleton.1 hm
 have hh : typeHandle Tryz.prog 32 = .pointer (some ⟨1, 32, none⟩) := by kernel_rfl
 rw [hh] at e5
 unfold ErrT
 simpa using World.var?_cell Tryz.et e5 0
theorem trodAll_below {H : Type} {enc : TypeId × Value → H} {P : Program} (hl : laidOutB P = true) {W W' : World} (hb : Below W.heap.size W W') :
  ∀ (ts : List TypeId) (vs : List Value) (ds : List (DataW H)) (ps : List MemPlace), (∀ t ∈ ts, P.readableRec t = true ∧ t < P.types.size) → DataW.TrodAll enc P W 0 (fun _ => true) true ts vs ds ps → (∀ x ∈ ps, x.block < W.heap.size) →
   DataW.TrodAll enc P W' 0 (fun b => decide (b < W.heap.size)) true ts vs ds ps
 | [], vs, ds, ps, _, h, _ => by obtain ⟨rfl, rfl, rfl⟩ := trodAll_nil h; exact trodAll_mk0
 | t :: ts, vs, ds, ps, ht, h, hlt => by
  obtain ⟨v, vs', d, ds', p, q, rfl, rfl, rfl, hd, hr⟩ := trodAll_cons h
  exact trodAll_cons_mk (Below.trod hl (ht t (by simp)).1 (ht t (by simp)).2 hd hb (fun x hx => hlt x (by simp [hx]))) (trodAll_below hl hb ts vs' ds' q (fun t h => ht t (by simp [h])) hr (fun x hx => hlt x (by simp [hx])))
theorem addr_add (b o n : Nat) : (⟨b, o, none⟩ : Addr).add n = ⟨b, o + n, none⟩ := by
 unfold Addr.add; split <;> simp_all
theorem argPairs_of {H : Type} {enc : TypeId × Value → H} {P : Program} {w : World} {t e : TypeId} {f0 f1 : Field} {fuel : Nat} {cs : List Value} {x : DataW H × List MemPlace} (ht : P.underlying t = some (.slice e)) (he : P.underlying e = some (.struct #[f0, f1]))
  (ce : P.cellsOf e = 2) (o0 : f0.offset = 0) (o1 : f1.offset = 1) (c0 : P.cellsOf f0.type = 1) (c1 : P.cellsOf f1.type = 1) (k0 : P.underlying f0.type = some (.int .i64)) (k1 : P.underlying f1.type = some (.int .i64))
  (h : DataW.trod enc P w 0 (fun _ => true) true fuel t cs = some x) : ∃ vi l, cs = [vi] ∧ ArgPairs w vi l := by
 rcases open_slice_pairs ht he ce o0 o1 c0 c1 h with ⟨rfl, rfl⟩ | ⟨a, len, cap, m, n, V0, V1, D0, D1, P0, P1, rfl, _, h1, h2, h3, _, h5⟩
 ·exact ⟨_, [], rfl, none, 0, rfl, Nat.le_refl _, by simp, by simp⟩
 ·have hm : m = cap := by simpa using h3
  subst hm
  refine ⟨_, (List.range len).map fun i => (intOf (V0 i), intOf (V1 i)), rfl, some a, m, by simp, by simpa using h1, h2, fun j p hp => ?_⟩
  rw [List.getElem?_map, Option.map_eq_some_iff] at hp
  obtain ⟨j', hj', rfl⟩ := hp
  obtain ⟨hjl, rfl⟩ := List.getElem?_eq_some_iff.1 hj'
  simp only [List.length_range] at hjl
  simp only [List.getElem_range]
  obtain ⟨g0, g1, g2, g3⟩ := h5 j (by omega)
  obtain ⟨n0, e0, _, _⟩ := DataW.trod_int k0 g2
  obtain ⟨n1, e1, _, _⟩ := DataW.trod_int k1 g3
  simp only [List.cons.injEq, and_true] at e0 e1
  rw [e0] at g0; rw [e1] at g1
  have hs : a.spot = none := by
   obtain ⟨q0, _⟩ := h5 0 (by omega)
   obtain ⟨b, o, sp⟩ := a
   cases sp with
   | none => rfl
   | some sp => simp [Addr.add, World.cell?] at q0; split at q0 <;> simp at q0
  obtain ⟨b, o, sp⟩ := a
  simp only at hs
  subst hs
  rw [addr_add] at g0 g1
  refine ⟨b, o, rfl, World.block_lt_of_cell? w _ g0, ?_, ?_⟩
  ·rw [g0, e0]; rfl
  ·rw [Nat.add_assoc]; rw [g1, e1]; rfl
theorem post_law {H : Type} {enc : TypeId × Value → H} {P : Program} {f : Func} {s : ChangeSpec} {W W' : World} {args : Array Value} {ds gs : List (DataW H)} {before : List MemPlace} {t : TypeId} (hl : laidOutB P = true)
  (hread : f.params.toList.all (fun t => P.readableRec t && decide (t < P.types.size)) = true) (hr : f.resultTypes = #[t]) (ht : P.underlying t = some .bool) (hsv : s.vars = [])
  (hfn : s.fn H ds = { results := [.lit (.bool true)], args := ds }) (hW : DataW.Whole enc P f.params.toList s.vars false W args.toList ds gs before) (hb : Below W.heap.size W W') :
  s.post enc P f false true false false W args (.bool true) W' := by
 have hW' := hW
 have hlt := fun p hp => hW.lt p hp
 obtain ⟨p, q, hA, hV, rfl, _, _⟩ := hW
 rw [hsv] at hV
 obtain ⟨rfl, rfl⟩ := trodVars_none hV
 simp only [List.append_nil] at hlt
 refine ⟨ds, [], p ++ [], [], p, [], hW', ?_, ?_, ?_, hb.frame _, fun h => by cases h⟩
 ·rw [hr, List.append_nil, hfn]; exact trodAll_mk1 (shut_bool ht true)
 ·rw [List.append_nil, hfn]
  refine trodAll_below hl hb _ _ _ _ (fun t h => ?_) hA hlt
  have := List.all_eq_true.1 hread t h
  simpa using this
 ·rw [List.append_nil, hfn, hsv]; rfl
end Go.Proofs.YtmfngjclccehaaaGreatDoor
/- A slice of structs among the arguments. -/
namespace Go.Proofs.YtmfngjclccehaaaGreatDoor
open Go Go.RowKit Go.Sep Go.ChangeShapes Go.WideShapes Go.ChangeAt Go.Deep
def ArgF {α : Type} (f : α → List Value) (n : Nat) (w0 : World) (v : Value) (l : List α) : Prop :=
 ∃ a cap, v = .slice a l.length cap ∧ l.length ≤ cap ∧ cap ≤ maxLen ∧ ∀ (i : Nat) (p : α), l[i]? = some p → ∃ b o, a = some ⟨b, o, none⟩ ∧ b < w0.heap.size ∧ ∀ c u, (f p)[c]? = some u → w0.cell? ⟨b, o + i * n + c, none⟩ = some u
theorem addr_add' (b o n : Nat) : (⟨b, o, none⟩ : Addr).add n = ⟨b, o + n, none⟩ := by
 unfold Addr.add; split <;> simp_all
theorem argF_of {α H : Type} [Inhabited α] {enc : TypeId × Value → H} {P : Program} {w : World} {t e : TypeId} {n : Nat} {fuel : Nat} {cs : List Value} {x : DataW H × List MemPlace} (f : α → List Value) (ht : P.underlying t = some (.slice e)) (ce : P.cellsOf e = n) (hn : 0 < n)
  (hel : ∀ (cs' : List Value) (k : Nat) (y : DataW H × List MemPlace), DataW.trod enc P w 0 (fun _ => true) true k e cs' = some y → ∃ p : α, f p = cs')
  (h : DataW.trod enc P w 0 (fun _ => true) true fuel t cs = some x) : ∃ v l, cs = [v] ∧ ArgF f n w v l := by
 rcases open_slice ht h with ⟨rfl, rfl⟩ | ⟨a, len, cap, m, k, D, Pl, rfl, _, h1, h2, h3, _, h5⟩
 ·exact ⟨_, [], rfl, none, 0, rfl, Nat.le_refl _, by simp, by simp⟩
 ·have hm : m = cap := by simpa using h3
  subst hm
  have hp : ∀ i, i < len → ∃ p : α, w.cells? 0 (a.add (i * n)) n = some (f p) := by
   intro i hi
   obtain ⟨cs', g1, g2⟩ := h5 i (by omega)
   rw [ce] at g1
   obtain ⟨p, rfl⟩ := hel _ _ _ g2
   exact ⟨p, g1⟩
  obtain ⟨p, hp⟩ := choose_lt hp
  refine ⟨_, (List.range len).map p, rfl, some a, m, by simp, by simpa using h1, h2, fun i q hq => ?_⟩
  rw [List.getElem?_map, Option.map_eq_some_iff] at hq
  obtain ⟨j', hj', rfl⟩ := hq
  obtain ⟨hjl, rfl⟩ := List.getElem?_eq_some_iff.1 hj'
  simp only [List.length_range] at hjl
  simp only [List.getElem_range]
  have g0 := hp i hjl
  obtain ⟨_, hlen, hcell⟩ := World.cells?_some g0
  obtain ⟨b, o, sp⟩ := a
  have hs : sp = none := by
   obtain ⟨_, hlen0, hcell0⟩ := World.cells?_some (hp 0 (by omega))
   have q0 := (hcell0 0 hn).trans (List.getElem?_eq_getElem (by omega))
   cases sp with
   | none => rfl
   | some sp => simp [Addr.add, World.cell?] at q0; split at q0 <;> simp at q0
  subst hs
  refine ⟨b, o, rfl, ?_, fun c u hu => ?_⟩
  ·have q0 := hcell 0 hn
   rw [addr_add', addr_add'] at q0
   exact World.block_lt_of_cell? w _ (q0.trans (List.getElem?_eq_getElem (by omega)))
  ·have hcl := (List.getElem?_eq_some_iff.1 hu).1
   have q0 := hcell c (by omega)
   rw [addr_add', addr_add'] at q0
   rw [q0, hu]
end Go.Proofs.YtmfngjclccehaaaGreatDoor
/- A slice of structs among the arguments, of which a fact is known: the store's moves. -/
namespace Go.Proofs.YtmfngjclccehaaaGreatDoor
open Go Go.RowKit Go.Sep Go.ChangeShapes Go.WideShapes Go.ChangeAt Go.Deep
theorem ArgPairs.rdk {w0 : World} {v : Value} {l : Vers} (h : ArgPairs w0 v l) (L : List HProp) : RdK w0 L v l.length (pcells l) := by
 obtain ⟨ai, ci, rfl, h1, h2, h3⟩ := h
 have hp : ∀ j u, (pcells l)[j]? = some u → ∃ b o, ai = some ⟨b, o, none⟩ ∧ b < w0.heap.size ∧ w0.cell? ⟨b, o + j, none⟩ = some u := by
  intro j u hj
  have hlt := (List.getElem?_eq_some_iff.1 hj).1
  rw [pcells_length] at hlt
  have hq : l[j / 2]? = some (l[j / 2]'(by omega)) := by simp
  obtain ⟨b, o, ha, hb, c1, c2⟩ := h3 _ _ hq
  obtain ⟨p1, p2⟩ := pcells_at l _ _ hq
  refine ⟨b, o, ha, hb, ?_⟩
  rcases Nat.mod_two_eq_zero_or_one j with hm | hm
  ·have e : j / 2 * 2 = j := by omega
   rw [e] at p1 c1
   rw [p1] at hj
   rw [c1, hj]
  ·have e : j / 2 * 2 + 1 = j := by omega
   rw [Nat.add_assoc, e] at c2
   rw [e] at p2
   rw [p2] at hj
   rw [c2, hj]
 refine RdK.old ⟨ai, ci, rfl, h1, h2, fun j u hj => ?_⟩ (fun b o cap hv hne => ?_)
 ·obtain ⟨b, o, ha, _, hc⟩ := hp j u hj
  exact ⟨b, o, ha, hc⟩
 ·obtain ⟨u, M, hM⟩ := List.exists_cons_of_ne_nil hne
  obtain ⟨b2, o2, ha, hb, _⟩ := hp 0 u (by rw [hM]; rfl)
  simp only [Value.slice.injEq] at hv
  rw [hv.1] at ha
  simp only [Option.some.injEq, Addr.mk.injEq] at ha
  rw [ha.1]; exact hb
end Go.Proofs.YtmfngjclccehaaaGreatDoor
/- The program's store: Clone, Sweep. -/
namespace Go.Proofs.YtmfngjclccehaaaGreatDoor
open Go Go.RowKit Go.Sep
set_option maxHeartbeats 1000000 in
set_option maxRecDepth 20000 in
theorem clone_vers (w0 w : World) (v : Value) (l : Vers) (L : List HProp) (hs : S w0 w L) (hr : RdK w0 L v l.length (pcells l)) (hb : l.length ≤ 4000000) :
  Calls Tryz.prog 89 #[v] w fun e w' => ∃ v', e = .returned v' ∧ S w0 w' (sl 107 2 v' l.length (pcells l) :: L) := by
 obtain ⟨a, cap, rfl, hcap, hcap2, hrd⟩ := hr w hs
 have heq := fun w => Lib.run_eql_slice_nil (P := Tryz.prog) w 58 107 a l.length cap 0 0 Tryz.underlying58
 have hlp := pcells_length l
 clear hcap2
 cases a with
 | none =>
  have hl0 : l = [] := by
   apply List.eq_nil_of_length_eq_zero
   rcases Nat.eq_zero_or_pos l.length with h | h
   ·exact h
   ·obtain ⟨b, o, hb, _⟩ := hrd 0 ((pcells l)[0]'(by omega)) (by simp)
    cases hb
  subst hl0
  simp only [List.length_nil] at heq
  have hfin : S w0 w (sl 107 2 (.slice none 0 0) 0 [] :: L) := hs.sl_nil
  have HF := hid hfin; clear hfin hs hr hrd hlp
  go_enter Tryz.func89, Tryz.ntmps89
  go_wp2_with fail
  go_ret
  exact ⟨_, rfl, HF.out⟩
 | some a =>
  obtain ⟨i0, hi0, hz0, hz1, hz2⟩ := info_parts Tryz.info107
  have hs1 : S w0 (w.alloc (.cells #[] 107)) (sl 107 2 (.slice (some ⟨w.heap.size, 0, none⟩) 0 0) 0 [] :: L) := (hs.alloc #[] 107).sl_blk (n := 0) (by simp) (by simp)
  have hn1 : ∀ j u, (pcells l)[j]? = some u → ∃ b, some a = some b ∧ (w.alloc (.cells #[] 107)).cell? (b.add j) = some u := by
   intro j u hj
   obtain ⟨b, o, hb, hc⟩ := hrd j u hj
   cases hb
   refine ⟨_, rfl, ?_⟩
   have e1 : (⟨b, o, none⟩ : Addr).add j = ⟨b, o + j, none⟩ := by unfold Addr.add; split <;> simp_all
   rw [e1, World.cell?_alloc_lt _ _ _ (World.block_lt_of_cell? w _ hc)]; exact hc
  have hone : ∀ u ∈ pcells l, u.oneCell' = true := by
   intro u hu; simp only [pcells, List.mem_flatMap] at hu
   obtain ⟨p, _, hu⟩ := hu
   simp at hu; rcases hu with rfl | rfl <;> rfl
  have H1 := hid hs1; have H2 := hid hn1; have H3 := hid hone; have H4 := hid hlp
  clear hs1 hn1 hone hs hr hrd hlp
  go_enter Tryz.func89, Tryz.ntmps89
  go_wp2_with (at_builtin; refine wpList_append rfl (.tmp 5) (.tmp 6) 58 rfl 107 i0 _ 2 16 Tryz.underlying58 hi0 hz0 hz1 hz2 rfl (by decide) H1.out rfl (some a) l.length cap (pcells l) rfl H4.out H2.out H3.out (by unfold maxLen; omega) (by omega) ?_; intro v1 w1 hs1; have HS := hid hs1; clear hs1)
  go_ret
  exact ⟨_, rfl, by simpa using HS.out⟩
theorem pcells_drop (l : Vers) (n : Nat) : pcells (l.drop n) = (pcells l).drop (n * 2) := by
 induction l generalizing n with
 | nil => simp [pcells]
 | cons p l ih =>
  cases n with
  | zero => rfl
  | succ n =>
   rw [List.drop_succ_cons, ih, show (n + 1) * 2 = n * 2 + 1 + 1 by omega]; rfl
theorem set_same {α : Type} {l : List α} {i : Nat} {x : α} (h : l[i]? = some x) : l.set i x = l := by
 obtain ⟨hi, rfl⟩ := List.getElem?_eq_some_iff.1 h
 exact List.set_getElem_self hi
def lastLe (at_ : Int) : Nat → Int → Vers → Int
 | _, r, [] => r
 | i, r, p :: l => lastLe at_ (i + 1) (if p.1 ≤ at_ then (i : Int) else r) l
def swept (at_ : Int) (vs : Vers) : Vers := vs.drop (lastLe at_ 0 (-1) vs).toNat
def sweptN (at_ : Int) (vs : Vers) : Nat := (lastLe at_ 0 (-1) vs).toNat
def sweepTo (at_ : Int) (V : List Vers) (i : Nat) : List Vers := (V.take i).map (swept at_) ++ V.drop i
theorem sweepTo_succ {at_ : Int} {V : List Vers} {i : Nat} {vs : Vers} (h : V[i]? = some vs) : sweepTo at_ V (i + 1) = (sweepTo at_ V i).set i (swept at_ vs) := by
 obtain ⟨hi, rfl⟩ := List.getElem?_eq_some_iff.1 h
 unfold sweepTo
 have e : i - ((V.take i).map (swept at_)).length = 0 := by simp; omega
 rw [take_succ_get h, List.map_append, List.append_assoc, List.set_append_right _ _ (by simp; omega), e, List.drop_eq_getElem_cons hi, List.set_cons_zero]
 rfl
theorem sweepTo_get {at_ : Int} {V : List Vers} {i j : Nat} (h : i ≤ j) (hi : i ≤ V.length) : (sweepTo at_ V i)[j]? = V[j]? := by
 unfold sweepTo
 rw [List.getElem?_append_right (by simp; omega), List.getElem?_drop]
 congr 1; simp; omega
def sweptSum (at_ : Int) (V : List Vers) (i : Nat) : Nat := ((V.take i).map (sweptN at_)).sum
theorem sweptSum_succ {at_ : Int} {V : List Vers} {i : Nat} {vs : Vers} (h : V[i]? = some vs) : sweptSum at_ V (i + 1) = sweptSum at_ V i + sweptN at_ vs := by
 unfold sweptSum; rw [take_succ_get h, List.map_append, List.sum_append]; simp
theorem swept_same {at_ : Int} {vs : Vers} (h : lastLe at_ 0 (-1) vs ≤ 0) : swept at_ vs = vs ∧ sweptN at_ vs = 0 := by
 unfold swept sweptN; rw [show (lastLe at_ 0 (-1) vs).toNat = 0 by omega]; simp
set_option maxHeartbeats 2000000 in
set_option maxRecDepth 20000 in
theorem sweep_any (w0 w : World) (b o : Nat) (V : List Vers) (last at_ : Int) (L : List HProp) (hs : S w0 w (storeP 107 b o V last :: L)) (hN : ∀ vs ∈ V, vs.length ≤ 2000000) :
  Calls Tryz.prog 65 #[.pointer (some ⟨b, o, none⟩), .int .i64 at_] w fun e w' => e = .returned (.int .i64 ((V.map (sweptN at_)).sum : Nat)) ∧ S w0 w' (storeP 107 b o (V.map (swept at_)) last :: L) := by
 obtain ⟨kv, hs⟩ := hs.ex_elim
 have hlen := hs.storeK_len
 have harr := hs.storeK_arr
 have hvals := hs.storeK_vals
 have hw0 := hs.storeK_last.2.2.1
 have hadd : ∀ j u, kv[j]? = some u → w.cell? ((⟨b, o, none⟩ : Addr).add j) = some u := by
  intro j u hj
  have e1 : (⟨b, o, none⟩ : Addr).add j = ⟨b, o + j, none⟩ := by unfold Addr.add; split <;> simp_all
  rw [e1]; exact harr j u hj
 have hkl := hlen.1
 have HA := hid hadd; have HV := hid hvals; have HL := hid hlen; have HK := hid hkl; have HN := hid hN
 have HS := hid hs
 clear hadd hvals harr hN hs hlen hkl
 go_enter Tryz.func65, Tryz.ntmps65
 go_wp2_with (refine wpList_load_arr rfl 59 (.tmp 13) rfl ⟨b, o, none⟩ rfl 10 58 Tryz.underlying59 kv (by rw [HK.out]; exact Tryz.size59) HA.out ?_)
 go_loopw [5, 15] (fun r c wr => ∃ i : Nat, i ≤ 10 ∧ c = .int .i64 i ∧ r = .int .i64 (sweptSum at_ V i : Nat) ∧ sweptSum at_ V i ≤ 2000000 * i ∧ ∃ kv', (∀ j, i ≤ j → kv'[j]? = kv[j]?) ∧ S w0 wr (storeK 107 b o kv' (sweepTo at_ V i) last :: L)) (fun _ c _ => 10 - (intOf c).toNat)
 case atStart => exact ⟨0, Nat.zero_le _, rfl, rfl, by simp [sweptSum], kv, fun _ _ => rfl, by simpa [sweepTo] using HS.out⟩
 case round =>
  obtain ⟨i, hi, rfl, rfl, hsum, kv', hkv', hsr⟩ := hrel
  clear HS HA
  obtain ⟨wo, hwo⟩ : ∃ wo : World, wo = wr := ⟨_, rfl⟩
  by_cases hlt : i < 10
  ·obtain ⟨vs, hvs⟩ : ∃ vs, V[i]? = some vs := ⟨V[i]'(by have := HL.out.2; omega), by simp⟩
   obtain ⟨a, cp, hkv, hcp, _⟩ := HV.out i vs hvs
   have hvl := HN.out vs (List.mem_of_getElem? hvs)
   have hix := run_index_arr Tryz.underlying59 Tryz.underlying58 rfl Tryz.size58 hlt hkv
   obtain ⟨v', vs', X, hk1, hk2, hsk, hcell, hback, hset, _⟩ := hsr.storeK_key i hlt
   obtain rfl : v' = .slice a vs.length cp := Option.some.inj (hk1.symm.trans ((hkv' i (Nat.le_refl _)).trans hkv))
   rw [sweepTo_get (Nat.le_refl _) (by have := HL.out.2; omega)] at hk2
   obtain rfl : vs = vs' := Option.some.inj (hvs.symm.trans hk2)
   have HKV := hid hkv'; have HVS := hid hvs
   have hsum' : sweptSum at_ V i ≤ 20000000 := by omega
   clear hkv hk1 hk2 hkv' hvs hsr
   subst hwo
   go_wp2_with fail
   go_loopw [8, 21] (fun r c wr => ∃ j : Nat, j ≤ vs.length ∧ c = .int .i64 j ∧ ∃ q : Int, r = .int .i64 q ∧ -1 ≤ q ∧ q < j ∧ lastLe at_ 0 (-1) vs = lastLe at_ j q (vs.drop j) ∧ S w0 wr (sl 107 2 (.slice a vs.length cp) vs.length (pcells vs) :: X :: L)) (fun _ c _ => vs.length - (intOf c).toNat)
   case atStart => exact ⟨0, Nat.zero_le _, rfl, -1, rfl, by omega, by omega, rfl, hsk⟩
   case round =>
    obtain ⟨j, hj, rfl, q, rfl, hq1, hq2, hll, hsr⟩ := hrel
    by_cases hjl : j < vs.length
    ·have hp : vs[j]? = some vs[j] := by simp [hjl]
     have hd := List.drop_eq_getElem_cons hjl
     generalize vs[j] = p at hp hd
     obtain ⟨g, og, rfl, hg, c1, c2⟩ := hsr.sl_pair hp
     rw [hd] at hll
     have H1 := hid ((hsr.alloc #[.int .i64 p.1, .int .i64 p.2] 107).tail)
     have H2 := hid hll
     clear hd hll hsr hp hsk
     by_cases hle : p.1 ≤ at_
     ·go_wp2_with fail
      go_roundw
      case rel => exact ⟨j + 1, by omega, by go_num, j, rfl, by omega, by omega, by rw [H2.out]; simp [lastLe, hle], H1.out⟩
      case measure => simp [intOf]; omega
     ·go_wp2_with fail
      go_roundw
      case rel => exact ⟨j + 1, by omega, by go_num, q, rfl, by omega, by omega, by rw [H2.out]; simp [lastLe, hle], H1.out⟩
      case measure => simp [intOf]; omega
    ·have hjj : j = vs.length := by omega
     subst hjj
     rw [List.drop_length] at hll
     simp only [lastLe] at hll
     have HQ := hid hll; clear hll
     have hss := sweptSum_succ (at_ := at_) HVS.out
     by_cases hq0 : 0 < q
     ·obtain ⟨qn, rfl⟩ := Int.eq_ofNat_of_zero_le (Int.le_of_lt hq0)
      have e1 : sweptN at_ vs = qn := by unfold sweptN; rw [HQ.out]; simp
      have e2 : swept at_ vs = vs.drop qn := by unfold swept; rw [HQ.out]; simp
      rw [e1] at hss
      have hpos : 0 < vs.length := by omega
      obtain ⟨p0, hp0⟩ : ∃ p, vs[0]? = some p := ⟨vs[0], by simp⟩
      obtain ⟨g, og, rfl, hg, _, _⟩ := hsr.sl_pair hp0
      have hrk : RdK w0 (sl 107 2 (.slice (some ⟨g, og, none⟩) vs.length cp) vs.length (pcells vs) :: X :: L) (.slice (some ⟨g, og + qn * 2, none⟩) (vs.length - qn) (cp - qn)) (vs.drop qn).length (pcells (vs.drop qn)) := by
       intro w' hs'
       obtain ⟨g', o', cap', hv, h1, h2, _, _, h3, _⟩ := hs'.sl_some (by rw [pcells_length]; omega)
       simp only [Value.slice.injEq, Option.some.injEq, Addr.mk.injEq] at hv
       obtain ⟨⟨rfl, rfl, -⟩, -, rfl⟩ := hv
       refine ⟨_, _, by rw [List.length_drop], by rw [List.length_drop]; omega, by omega, fun j u hj => ⟨g, og + qn * 2, rfl, ?_⟩⟩
       rw [pcells_drop, List.getElem?_drop] at hj
       rw [Nat.add_assoc]
       exact h3 _ u hj
      have hfin : ∀ w1 v1, S w0 w1 (sl 107 2 v1 (vs.drop qn).length (pcells (vs.drop qn)) :: sl 107 2 (.slice (some ⟨g, og, none⟩) vs.length cp) vs.length (pcells vs) :: X :: L) → S w0 (w1.setCell ⟨b, o + i, none⟩ v1) (storeK 107 b o (kv'.set i v1) (sweepTo at_ V (i + 1)) last :: L) := by
       intro w1 v1 h1
       rw [sweepTo_succ HVS.out, e2]
       exact hset w1 v1 (vs.drop qn) L h1.swap.tail
      have HF := hid hfin; clear hfin
      have HSS := hid hss; have HE2 := hid e2
      have HR := hid hrk; have HSR := hid hsr; have HC := hid hcell
      clear hss e1 e2 hrk hsr hp0 hcell hset hsk hback
      have hqc : (qn : Int) ≤ vs.length := by omega
      go_wp2_with fail
      go_region_with (go_at_call 89; refine (clone_vers w0 _ _ (vs.drop qn) _ (HSR.out.drew) HR.out (by simp; omega)).mono ?_; rintro e w1 ⟨v1, rfl, hs1⟩; obtain ⟨a1, cp1, rfl, _, _, _⟩ := hs1.sl_val; obtain ⟨c9, f9, _, b9⟩ := HC.out w1 _ hs1.rot3; have H9 := hid (HF.out _ _ hs1); clear hs1)
      all_goals
       go_wp2_with fail
       go_roundw
       case rel =>
        have H10 := H9.out
        rw [List.length_drop] at H10
        exact ⟨i + 1, by omega, by go_num, by rw [HSS.out]; go_num, by rw [HSS.out]; omega, kv'.set i (.slice a1 (vs.length - qn) cp1), fun j hj => (by rw [List.getElem?_set_ne (by omega)]; exact HKV.out j (by omega)), H10⟩
       case measure => simp [intOf]; omega
     ·obtain ⟨e1, e2⟩ := swept_same (at_ := at_) (vs := vs) (by rw [HQ.out]; omega)
      rw [e2] at hss
      have HSS := hid hss
      have hfin : S w0 wr (storeK 107 b o kv' (sweepTo at_ V (i + 1)) last :: L) := by
       have hk3 : (sweepTo at_ V i)[i]? = some vs := by rw [sweepTo_get (Nat.le_refl _) (by have := HL.out.2; omega)]; exact HVS.out
       rw [sweepTo_succ HVS.out, e1, set_same hk3]
       exact hback wr L hsr
      have HF := hid hfin
      clear hss e1 e2 hfin hsr hback hset hcell hsk
      go_wp2_with fail
      go_roundw
      case rel => exact ⟨i + 1, by omega, by go_num, by rw [HSS.out]; rfl, by rw [HSS.out]; omega, kv', fun j hj => HKV.out j (by omega), HF.out⟩
      case measure => simp [intOf]; omega
  ·have hil : i = 10 := by omega
   subst hil
   have hfin : S w0 wr (storeP 107 b o (V.map (swept at_)) last :: L) := by
    have h2 := HL.out.2
    have e1 : sweepTo at_ V 10 = V.map (swept at_) := by unfold sweepTo; rw [List.take_of_length_le (by omega), List.drop_of_length_le (by omega), List.append_nil]
    rw [← e1]; exact .ex_intro kv' hsr
   have HF := hid hfin
   clear hfin hsr hkv' hsum
   go_wp2_with fail
   go_ret
   exact ⟨retI (by unfold sweptSum; rw [List.take_of_length_le (by have := HL.out.2; omega)]), HF.out⟩
end Go.Proofs.YtmfngjclccehaaaGreatDoor
/- A range over a function, in the words of ownership. No program in sight. -/
namespace Go.Sep
open Go Go.RowKit
variable {P : Program} {w0 w : World} {L : List HProp} {F : Fence} {n : Nat}
theorem S.rot4 {A B C D : HProp} (h : S w0 w (A :: B :: C :: D :: L)) : S w0 w (D :: A :: B :: C :: L) := h.perm (List.perm_middle (l₁ := [A, B, C]))
theorem S.head {A : HProp} (h : S w0 w (A :: L)) : S w0 w [A] := by
 have h2 : S w0 w ([A] ++ L) := h
 exact (h2.conv (M := [all L, A]) (by simp only [all_append, all, sep_emp]; rw [sep_comm])).tail
theorem S.of_mem {A : HProp} (h : S w0 w L) (hA : A ∈ L) : S w0 w [A] := by
 obtain ⟨s, t, rfl⟩ := List.append_of_mem hA
 exact (h.perm (List.perm_middle)).head
theorem S.set_nth (A : List HProp) {B : List HProp} {b : Nat} {e : TypeId} {vs : List Value} (h : S w0 w (A ++ blk b e vs :: B)) (j : Nat) (hj : j < vs.length) (u : Value) : S w0 (w.setCell ⟨b, j, none⟩ u) (A ++ blk b e (vs.set j u) :: B) :=
 ((h.perm List.perm_middle).blk_set j hj u).perm List.perm_middle.symm
theorem S.loop_put {l : Nat} {r r' : Loop} (h : S w0 w (ob l (.loop r) :: L)) : S w0 (w.putObj l (.loop r')) (ob l (.loop r') :: L) := h.set_obj (o' := .loop r') (by simp) (by simp)
theorem S.deferred_put {l : Nat} {d d' : Option (List Deferred)} (h : S w0 w (ob l (.deferred d) :: L)) : S w0 (w.putObj l (.deferred d')) (ob l (.deferred d') :: L) := h.set_obj (o' := .deferred d') (by simp) (by simp)
theorem yieldAt_S {l : Nat} {r : Loop} {args : Array Value} {R : Ending → World → Prop} (h : S w0 w (ob l (.loop r) :: L)) (hs : args.size = r.params.size) (hF : F.fn r.fn) (hr : r.state = .ready)
  (hw : r.assign.wpIn (F.inRound l) n P (Exit.then (fun a₁ w₁ => ∃ M, S w0 w₁ (ob l (.loop r) :: M) ∧ ∀ w₂, S w0 w₂ (ob l (.loop { r with state := .busy }) :: M) → r.body.wpIn (F.inRound l) n P (roundPost P l R) a₁ w₂) (fun _ _ _ => False))
   { tmps := (r.params.zip args).foldl (fun tmps (t, a) => tmps.setIfInBounds t a) r.tmps, defers := [] } w) :
  YieldAt F n P l args w R := by
 refine ⟨r.fn, _, r.assign, r.body, run_yield h.obj hs, roundIn_of_wpIn hF ?_⟩
 refine Code.wpIn_mono ?_ hw
 intro e a₁ w₁ hq
 cases e <;> simp only [Exit.then] at hq ⊢
 obtain ⟨M, hS, hb⟩ := hq
 exact ⟨_, run_beginRound hS.obj hr, hb _ hS.loop_put⟩
theorem roundPost_normal {l : Nat} {r : Loop} {R : Ending → World → Prop} {a : Act} (h : S w0 w (ob l (.loop r) :: L)) (hR : ∀ w', S w0 w' (ob l (.loop { r with state := .ready, pending := none }) :: L) → R (.returned (.bool true)) w') : roundPost P l R .normal a w :=
 ⟨_, _, run_endRound none h.obj, hR _ (by simpa using h.loop_put)⟩
theorem roundPost_ret {l : Nat} {r : Loop} {R : Ending → World → Prop} {a : Act} (h : S w0 w (ob l (.loop r) :: L)) (hR : ∀ w', S w0 w' (ob l (.loop { r with state := .done, pending := some .ret }) :: L) → R (.returned (.bool false)) w') : roundPost P l R .ret a w :=
 ⟨_, _, run_endRound (some .ret) h.obj, hR _ (by simpa using h.loop_put)⟩
theorem wpIn_rangeFunc_S {g : Operand} {ps : Array Tmp} {assign body : Code} {Q : Exit → Act → World → Prop} {a : Act} (hro : F.round = none) (hn : F.depth.isSome = true → 1 ≤ n) {gf : FuncId} {cap : Array Value}
  (hg : a.eval g = .func (.func gf) #[] cap) (hF : F.fn gf) (eg : ∀ args w, (callFunc gf args).run P w = .ok (.enter gf args) w)
  (hs : S w0 w L)
  (hc : ∀ fn l D w2, S w0 w2 (ob l (.loop { state := .ready, pending := none, fn, tmps := a.tmps, params := ps, assign, body, defers := D }) :: ob D (.deferred (some [])) :: L) →
   CallsIn F (n - 1) P gf (#[.func (.yield l) #[] #[]] ++ cap) w2 fun e w3 => ∃ v, e = .returned v ∧ ∃ r M, S w0 w3 (ob l (.loop r) :: M) ∧ r.state ≠ .busy ∧
    ∀ w4, S w0 w4 M → match r.pending with | none => Q .normal { a with defers := { target := .collected D, args := #[] } :: a.defers } w4 | some c => c.wpIn F n P Q { a with defers := { target := .collected D, args := #[] } :: a.defers } w4) :
  (Code.rangeFunc g ps assign body).wpIn F n P Q a w := by
 refine wpIn_rangeFunc fun fn hfnF => ?_
 rw [hro]
 have h1 := ((hs.alloc_obj (.deferred (some [])) (by simp)).alloc_obj (.loop { state := .ready, pending := none, fn, tmps := a.tmps, params := ps, assign, body, defers := w.heap.size }) (by simp))
 have he := run_enterLoop_outer (P := P) (w := w) fn a.tmps ps assign body
 rw [World.size_alloc] at h1
 generalize (w.alloc (.deferred (some []))).alloc (.loop { state := .ready, pending := none, fn, tmps := a.tmps, params := ps, assign, body, defers := w.heap.size }) = W1 at h1 he
 refine ⟨w.heap.size + 1, [{ target := .collected w.heap.size, args := #[] }], W1, { target := .fn (.func gf) cap, args := #[.func (.yield (w.heap.size + 1)) #[] #[]] }, W1, gf,
  #[.func (.yield (w.heap.size + 1)) #[] #[]] ++ cap, W1, he, ?_, ?_, ?_, hn, ?_⟩
 ·simp only [resolve, hg]
  simp [go_sem]
 ·intro f' hf'; simp [Target.leads] at hf'; subst hf'; exact hF
 ·simp [invoke, go_sem, eg]
 ·
  refine (hc fn _ _ _ h1).mono ?_
  rintro e w3 ⟨v, rfl, r, M, hS, hb, hq⟩
  exact ⟨_, _, run_endLoop hS.obj hb, hq _ (hS.loop_put (r' := { r with state := .exhausted })).tail⟩
end Go.Sep
/- The program's store: Read (a range over slices.Backward). -/
namespace Go.Proofs.YtmfngjclccehaaaGreatDoor
open Go Go.RowKit Go.Sep
attribute [local go_sem] Oper.semAt_some
theorem backward_any (a0 : Option Addr) (n0 cap : Nat) (w : World) (n : Nat) :
  CallsIn Fence.wide n Tryz.prog 80 #[.slice a0 n0 cap] w fun e w' => e = .returned (.func (.func 99) #[] #[.pointer (some ⟨w.heap.size, 0, none⟩)]) ∧ w' = w.alloc (.cells #[.slice a0 n0 cap] 58) := by
 refine callsIn_of_wp Tryz.func80 rfl trivial ?_ rfl
 simp only [Tryz.ntmps80, List.size_toArray, List.length_cons, List.length_nil, Nat.reduceAdd, Nat.reduceSub, Array.replicate_succ, Array.replicate_zero, List.push_toArray, List.append_toArray, List.nil_append, List.cons_append]
 gi_wp2
 go_ret
 exact ⟨rfl, rfl⟩
set_option maxRecDepth 100000 in
set_option maxHeartbeats 2000000 in
theorem backward_in (n : Nat) (hn : 1 ≤ n) (l Bs : Nat) (a0 : Option Addr) (cap : Nat) (vs : Vers) (hvl : vs.length ≤ 4000000) (J : Nat → World → Prop) (Jx : World → Prop)
  (hY : ∀ i p W, vs[i]? = some p → J (i + 1) W → YieldAt Fence.wide (n - 1) Tryz.prog l #[.int .i64 (i : Int), .agg #[.int .i64 p.1, .int .i64 p.2]] W fun e W' => (e = .returned (.bool true) ∧ J i W') ∨ (e = .returned (.bool false) ∧ Jx W'))
  (hJ : ∀ i W, J i W → W.cell? ⟨Bs, 0, none⟩ = some (.slice a0 vs.length cap) ∧ ∀ i p, vs[i]? = some p → ∃ b o, a0 = some ⟨b, o, none⟩ ∧ W.cell? ⟨b, o + i * 2, none⟩ = some (.int .i64 p.1) ∧ W.cell? ⟨b, o + i * 2 + 1, none⟩ = some (.int .i64 p.2))
  (W : World) (h0 : J vs.length W) :
  CallsIn Fence.wide n Tryz.prog 99 #[.func (.yield l) #[] #[], .pointer (some ⟨Bs, 0, none⟩)] W fun e W' => (∃ v, e = .returned v) ∧ (J 0 W' ∨ Jx W') := by
 have hB := (hJ _ W h0).1
 refine callsIn_of_wp Tryz.func99 rfl trivial ?_ rfl
 simp only [Tryz.ntmps99, List.size_toArray, List.length_cons, List.length_nil, Nat.reduceAdd, Nat.reduceSub, Array.replicate_succ, Array.replicate_zero, List.push_toArray, List.append_toArray, List.nil_append, List.cons_append]
 gi_wp2
 gi_loopw [3] (fun i wr => ∃ k : Nat, k ≤ vs.length ∧ i = .int .i64 ((k : Int) - 1) ∧ J k wr) (fun i _ => (intOf i + 1).toNat)
 case atStart => exact ⟨vs.length, Nat.le_refl _, rfl, h0⟩
 case round =>
  obtain ⟨k, hk, rfl, hJs⟩ := hrel
  clear hB
  cases k with
  | zero =>
   gi_wp2
   go_end0
   exact ⟨⟨_, rfl⟩, .inl hJs⟩
  | succ k =>
   have e1 : ((k + 1 : Nat) : Int) - 1 = k := by omega
   rw [e1]
   obtain ⟨p, hp⟩ : ∃ p, vs[k]? = some p := ⟨vs[k], by simp⟩
   obtain ⟨hB, hE⟩ := hJ _ wr hJs
   obtain ⟨b, o, rfl, c1, c2⟩ := hE k p hp
   obtain ⟨fn, tmps, assign, body, hy, hR⟩ := hY k p wr hp hJs
   clear hE hp
   gi_wp2
   refine hR.mono ?_
   rintro e W3 (⟨rfl, hJ3⟩ | ⟨rfl, hJx3⟩)
   ·gi_wp2
    go_roundw
    case rel => exact ⟨k, by omega, rfl, hJ3⟩
    case measure => simp [intOf]
   ·gi_wp2
    refine bodyPost_ret (results_none rfl _ _ _) rfl ?_
    exact ⟨⟨_, rfl⟩, .inr hJx3⟩
def readV (vs : Vers) (at_ : Int) : Option (Int × Int) := vs.reverse.find? fun p => decide (p.1 ≤ at_)
theorem readV_of {vs : Vers} {i : Nat} {p : Int × Int} {at_ : Int} (hp : vs[i]? = some p) (hle : p.1 ≤ at_) (h : ∀ j q, i + 1 ≤ j → vs[j]? = some q → ¬ q.1 ≤ at_) : readV vs at_ = some p := by
 obtain ⟨hi, rfl⟩ := List.getElem?_eq_some_iff.1 hp
 have e : vs = vs.take i ++ (vs[i] :: vs.drop (i + 1)) := by rw [← List.drop_eq_getElem_cons hi, List.take_append_drop]
 have hn : (vs.drop (i + 1)).reverse.find? (fun p => decide (p.1 ≤ at_)) = none := by
  rw [List.find?_eq_none]
  intro q hq
  obtain ⟨j, hj⟩ := List.getElem?_of_mem (List.mem_reverse.1 hq)
  rw [List.getElem?_drop] at hj
  simpa using h _ q (by omega) hj
 unfold readV
 generalize hx : vs[i] = x at e hle hn ⊢
 rw [e, List.reverse_append, List.reverse_cons, List.find?_append, List.find?_append, hn]
 simp [hle]
theorem readV_none {vs : Vers} {at_ : Int} (h : ∀ j q, 0 ≤ j → vs[j]? = some q → ¬ q.1 ≤ at_) : readV vs at_ = none := by
 unfold readV
 rw [List.find?_eq_none]
 intro q hq
 obtain ⟨j, hj⟩ := List.getElem?_of_mem (List.mem_reverse.1 hq)
 simpa using h j q (by omega) hj
set_option maxRecDepth 100000 in
theorem read_no (b o : Nat) (k at_ : Int) (w0 w : World) (L : List HProp) (hs : S w0 w L) (hk : ¬ keyOk k) :
  Calls Tryz.prog 56 #[.pointer (some ⟨b, o, none⟩), .int .i64 k, .int .i64 at_] w fun e w' => e = .returned (.tuple #[.agg #[.int .i64 0, .int .i64 0], .iface 25 (.int .i64 2)]) ∧ S w0 w' L := by
 have hk1 : decide (keyOk k) = false := by simpa using hk
 have hb : ∀ w', Below w.heap.size w w' → S w0 w' L := fun w' h => hs.onto h
 have HB := hid hb; clear hb hs
 go_enter Tryz.func56, Tryz.ntmps56
 go_wp2_with (first | (go_at_call 45; refine (right_any _ _).mono ?_; rintro e w' ⟨rfl, rfl⟩))
 exact bodyPost_ret (v := .tuple #[.agg #[.int .i64 0, .int .i64 0], .iface 25 (.int .i64 2)]) (by simp [results, Tryz.results56, go_sem]) rfl ⟨rfl, HB.out _ ((((Below.refl _ _).alloc (Nat.le_refl _) _).alloc (by simp) _).alloc (by simp; omega) _)⟩
def readAns (r : Option (Int × Int)) : Value := match r with
 | some p => .tuple #[.agg #[.int .i64 p.1, .int .i64 p.2], .nilIface]
 | none => .tuple #[.agg #[.int .i64 0, .int .i64 0], .iface 25 (.int .i64 8)]
set_option maxRecDepth 100000 in
set_option maxHeartbeats 4000000 in
theorem read_any (b o : Nat) (V : List Vers) (last at_ : Int) (k : Nat) (vs : Vers) (w0 w : World) (L : List HProp) (hk : k < 10)
  (hs : S w0 w (storeP 107 b o V last :: L)) (hV : V[k]? = some vs) (hb : vs.length ≤ 2000000) :
  Calls Tryz.prog 56 #[.pointer (some ⟨b, o, none⟩), .int .i64 k, .int .i64 at_] w fun e w' => e = .returned (readAns (readV vs at_)) ∧ S w0 w' (storeP 107 b o V last :: L) := by
 have hk1 : decide (keyOk (k : Int)) = true := decide_eq_true ⟨by omega, by omega⟩
 obtain ⟨v, vs', X, hVk, hsk, hcell, hback, -, -⟩ := hs.store_key k hk
 obtain rfl : vs = vs' := Option.some.inj (hV.symm.trans hVk)
 obtain ⟨a0, cp, rfl, hcp, hcp2, _⟩ := hsk.sl_val
 have hsA := ((hsk.alloc #[.int .i64 at_] 3).alloc #[.int .i64 0, .int .i64 0] 107).alloc #[.nilIface] 32
 obtain ⟨c3, _, _⟩ := hcell _ hsA.tail.tail.tail.tail
 have hs1 := hsA.alloc #[.slice a0 vs.length cp] 58
 simp only [World.size_alloc] at hs1
 clear hsA
 clear hcp2 hs hV hVk hcell
 have H1 := hid hs1; have HK := hid hsk
 clear hs1 hsk
 refine (callsIn_wide (n := 3)).1 ?_
 refine callsIn_of_wp_marks Tryz.func56 rfl trivial ?_
 simp only [Tryz.ntmps56, List.size_toArray, List.length_cons, List.length_nil, Nat.reduceAdd, Nat.reduceSub, Array.replicate_succ, Array.replicate_zero, List.push_toArray, List.append_toArray, List.nil_append, List.cons_append]
 gi_wp2_with (refine ⟨trivial, ?_⟩; gi_at_call 45; refine (callsIn_wide.2 (right_any _ _)).mono ?_; rintro e w' ⟨rfl, rfl⟩)
 refine ⟨trivial, ?_⟩
 refine (backward_any _ _ _ _ _).mono ?_
 rintro e w' ⟨rfl, rfl⟩
 gi_wp2
 refine wpIn_rangeFunc_S rfl (fun h => by cases h) rfl trivial (enters_of Tryz.func99 (by kernel_rfl) rfl) H1.out ?_
 intro fn l D W2 hS2
 generalize hrec : Loop.mk LoopState.ready none fn _ _ _ _ D = rec at hS2
 have HR := hid hrec
 clear hrec
 refine (backward_in 2 (by omega) l (w.heap.size + 1 + 1 + 1) a0 cp vs (by omega)
  (fun i W => S w0 W (ob l (.loop rec) :: ob D (.deferred (some [])) :: blk (w.heap.size + 1 + 1 + 1) 58 [.slice a0 vs.length cp] :: blk (w.heap.size + 1 + 1) 32 [.nilIface] :: blk (w.heap.size + 1) 107 [.int .i64 0, .int .i64 0] :: blk w.heap.size 3 [.int .i64 at_] :: sl 107 2 (.slice a0 vs.length cp) vs.length (pcells vs) :: X :: L) ∧ ∀ j p, i ≤ j → vs[j]? = some p → ¬ p.1 ≤ at_)
  (fun W => ∃ p, readV vs at_ = some p ∧ S w0 W (ob l (.loop { rec with state := .done, pending := some .ret }) :: ob D (.deferred (some [])) :: blk (w.heap.size + 1 + 1 + 1) 58 [.slice a0 vs.length cp] :: blk (w.heap.size + 1 + 1) 32 [.nilIface] :: blk (w.heap.size + 1) 107 [.int .i64 p.1, .int .i64 p.2] :: blk w.heap.size 3 [.int .i64 at_] :: sl 107 2 (.slice a0 vs.length cp) vs.length (pcells vs) :: X :: L)) ?yield ?facts W2 ⟨by simpa using hS2, fun j p hj hp => by have := (List.getElem?_eq_some_iff.1 hp).1; omega⟩).mono ?after
 case facts =>
  rintro i W ⟨hS, _⟩
  refine ⟨(hS.of_mem (A := blk (w.heap.size + 1 + 1 + 1) 58 [.slice a0 vs.length cp]) (by simp)).blk_cell 0 rfl, fun i p hp => ?_⟩
  obtain ⟨g, og, hg, _, c1, c2⟩ := (hS.of_mem (A := sl 107 2 (.slice a0 vs.length cp) vs.length (pcells vs)) (by simp)).sl_pair hp
  exact ⟨g, og, hg, c1, c2⟩
 case yield =>
  rintro i p W hp ⟨hS, hlate⟩
  have hR := HR.out
  subst hR
  refine yieldAt_S hS rfl trivial rfl ?_
  have HS := hid hS
  clear hS
  dsimp only
  gi_wp2
  refine ⟨_, (HS.out.alloc #[.int .i64 p.1, .int .i64 p.2] 107).swap, fun w₂ hS₂ => ?_⟩
  have d0 := (hS₂.of_mem (A := blk W.heap.size 107 [.int .i64 p.1, .int .i64 p.2]) (by simp)).blk_cell 0 rfl
  have d0' := (hS₂.of_mem (A := blk W.heap.size 107 [.int .i64 p.1, .int .i64 p.2]) (by simp)).blk_cell 1 rfl
  have hB2 := hS₂.of_mem (A := blk (w.heap.size + 1) 107 [.int .i64 0, .int .i64 0]) (by simp)
  have hB1 := hS₂.of_mem (A := blk (w.heap.size + 1 + 1) 32 [.nilIface]) (by simp)
  have d1 := (hS₂.of_mem (A := blk w.heap.size 3 [.int .i64 at_]) (by simp)).blk_cell 0 rfl
  have d2 := hB2.blk_cell 0 rfl
  have d3 := hB2.blk_cell 1 rfl
  have d4 := hB1.blk_cell 0 rfl
  have f2 := hB2.blk_free 0
  have f3 := hB2.blk_free 1
  have f4 := hB1.blk_free 0
  clear hB1 hB2
  have HS2 := hid hS₂
  clear hS₂
  by_cases hle : p.1 ≤ at_
  ·have hfind : readV vs at_ = some p := readV_of hp hle (fun j q h1 h2 => by have := hlate j q h1 h2; omega)
   have HF := hid hfind
   have hfin : S w0 (((w₂.setCell ⟨w.heap.size + 1, 0, none⟩ (.int .i64 p.1)).setCell ⟨w.heap.size + 1, 1, none⟩ (.int .i64 p.2)).setCell ⟨w.heap.size + 1 + 1, 0, none⟩ .nilIface) _ :=
    S.set_nth [_, _, _, _] (S.set_nth [_, _, _, _, _] (S.set_nth [_, _, _, _, _] HS2.out 0 (by simp) (.int .i64 p.1)) 1 (by simp) (.int .i64 p.2)) 0 (by simp) .nilIface
   have HN := hid hfin
   clear hfind hfin HS2 HS
   gi_wp2
   refine roundPost_ret HN.out (fun w' h => .inr ⟨rfl, p.1, p.2, HF.out, h.swap.tail⟩)
  ·gi_wp2
   refine roundPost_normal HS2.out (fun w' h => .inl ⟨rfl, h.swap.tail, fun j q1 q2 hj hq => ?_⟩)
   rcases Nat.eq_or_lt_of_le hj with rfl | hj
   ·obtain rfl : p = (q1, q2) := Option.some.inj (hp.symm.trans hq)
    simpa using hle
   ·simpa using hlate j (q1, q2) hj hq
 case after =>
  rintro e W ⟨hv, hq⟩
  rcases hq with ⟨hS, hlate⟩ | ⟨p, hp, hS⟩
  ·have hfind := readV_none hlate
   have hR := HR.out
   subst hR
   refine hv.imp fun v hv => ⟨hv, _, _, hS, by simp, fun w4 hS4 => ?_⟩
   dsimp only
   have hB2 := hS4.of_mem (A := blk (w.heap.size + 1) 107 [.int .i64 0, .int .i64 0]) (by simp)
   have hB1 := hS4.of_mem (A := blk (w.heap.size + 1 + 1) 32 [.nilIface]) (by simp)
   have d2 := hB2.blk_cell 0 rfl
   have d3 := hB2.blk_cell 1 rfl
   have d4 := hB1.blk_cell 0 rfl
   have f2 := hB2.blk_free 0
   have f3 := hB2.blk_free 1
   have f4 := hB1.blk_free 0
   have hfin : S w0 (((w4.setCell ⟨w.heap.size + 1, 0, none⟩ (.int .i64 0)).setCell ⟨w.heap.size + 1, 1, none⟩ (.int .i64 0)).setCell ⟨w.heap.size + 1 + 1, 0, none⟩ (.iface 25 (.int .i64 8))) _ :=
    S.set_nth [_, _] (S.set_nth [_, _, _] (S.set_nth [_, _, _] hS4 0 (by simp) (.int .i64 0)) 1 (by simp) (.int .i64 0)) 0 (by simp) (.iface 25 (.int .i64 8))
   have HN := hid hfin; have HF := hid hfind
   clear hS4 hfin hS hfind hB1 hB2
   gi_wp2
   refine ⟨by simp, .inl ⟨D, _, rfl, run_takeDeferred (HN.out).obj, ?_⟩⟩
   have hSp := (HN.out).deferred_put (d' := none)
   have e1 := (hSp.of_mem (A := blk (w.heap.size + 1) 107 [.int .i64 0, .int .i64 0]) (by simp)).blk_cell 0 rfl
   have e2 := (hSp.of_mem (A := blk (w.heap.size + 1) 107 [.int .i64 0, .int .i64 0]) (by simp)).blk_cell 1 rfl
   have e3 := (hSp.of_mem (A := blk (w.heap.size + 1 + 1) 32 [.iface 25 (.int .i64 8)]) (by simp)).blk_cell 0 rfl
   refine ⟨readAns none, ?_, by rw [HF.out], hback _ L hSp.tail.tail.tail.tail.tail⟩
   simp [results, Tryz.f56, go_sem, e1, e2, e3, readAns]
  ·have hR := HR.out
   subst hR
   refine hv.imp fun v hv => ⟨hv, _, _, hS, by simp, fun w4 hS4 => ?_⟩
   dsimp only
   have HN := hid hS4; have HF := hid hp
   clear hS4 hS hp
   gi_wp2
   refine ⟨by simp, .inl ⟨D, _, rfl, run_takeDeferred (HN.out).obj, ?_⟩⟩
   have hSp := (HN.out).deferred_put (d' := none)
   have e1 := (hSp.of_mem (A := blk (w.heap.size + 1) 107 [.int .i64 p.1, .int .i64 p.2]) (by simp)).blk_cell 0 rfl
   have e2 := (hSp.of_mem (A := blk (w.heap.size + 1) 107 [.int .i64 p.1, .int .i64 p.2]) (by simp)).blk_cell 1 rfl
   have e3 := (hSp.of_mem (A := blk (w.heap.size + 1 + 1) 32 [.nilIface]) (by simp)).blk_cell 0 rfl
   refine ⟨readAns (some p), ?_, by rw [HF.out], hback _ L hSp.tail.tail.tail.tail.tail⟩
   simp [results, Tryz.f56, go_sem, e1, e2, e3, readAns]
end Go.Proofs.YtmfngjclccehaaaGreatDoor
/- Sweeping is not seen: the plain law, on lists of versions. No walk in sight. -/
namespace Go.Proofs.YtmfngjclccehaaaGreatDoor
open Go Go.RowKit Go.Sep
theorem lastLe_spec (at_ : Int) : ∀ (l : Vers) (i : Nat) (r : Int), (lastLe at_ i r l = r ∧ ∀ p ∈ l, at_ < p.1) ∨
  ∃ (j : Nat) (p : Int × Int), lastLe at_ i r l = i + j ∧ l[j]? = some p ∧ p.1 ≤ at_ ∧ ∀ j' q, j < j' → l[j']? = some q → at_ < q.1
 | [], i, r => .inl ⟨rfl, by simp⟩
 | p :: l, i, r => by
  by_cases hp : p.1 ≤ at_
  ·rcases lastLe_spec at_ l (i + 1) i with ⟨h1, h2⟩ | ⟨j, q, h1, h2, h3, h4⟩
   ·refine .inr ⟨0, p, by simp [lastLe, hp, h1], rfl, hp, fun j' q hj hq => ?_⟩
    cases j' with
    | zero => omega
    | succ j' => exact h2 q (List.mem_of_getElem? (by simpa using hq))
   ·refine .inr ⟨j + 1, q, by simp [lastLe, hp, h1]; omega, by simpa using h2, h3, fun j' q' hj hq => ?_⟩
    cases j' with
    | zero => omega
    | succ j' => exact h4 j' q' (by omega) (by simpa using hq)
  ·rcases lastLe_spec at_ l (i + 1) r with ⟨h1, h2⟩ | ⟨j, q, h1, h2, h3, h4⟩
   ·refine .inl ⟨by simp [lastLe, hp, h1], fun q hq => ?_⟩
    cases hq with
    | head => omega
    | tail _ hq => exact h2 q hq
   ·refine .inr ⟨j + 1, q, by simp [lastLe, hp, h1]; omega, by simpa using h2, h3, fun j' q' hj hq => ?_⟩
    cases j' with
    | zero => omega
    | succ j' => exact h4 j' q' (by omega) (by simpa using hq)
theorem sweptN_spec (at_ : Int) (vs : Vers) : (sweptN at_ vs = 0 ∨ ∃ p, vs[sweptN at_ vs]? = some p ∧ p.1 ≤ at_) ∧ (∀ j q, sweptN at_ vs < j → vs[j]? = some q → at_ < q.1) ∧ sweptN at_ vs ≤ vs.length ∧ swept at_ vs = vs.drop (sweptN at_ vs) := by
 refine ⟨?_, ?_, ?_, rfl⟩
 all_goals
  unfold sweptN
  rcases lastLe_spec at_ vs 0 (-1) with ⟨h1, h2⟩ | ⟨j, q, h1, h2, h3, h4⟩
 ·left; rw [h1]; rfl
 ·right; rw [h1]; simp only [Int.natCast_zero, Int.zero_add, Int.toNat_natCast]; exact ⟨q, h2, h3⟩
 ·intro j q _ hq; exact h2 q (List.mem_of_getElem? hq)
 ·intro j' q' hj hq; rw [h1] at hj; exact h4 j' q' (by simpa using hj) hq
 ·rw [h1]; simp
 ·rw [h1]; have := (List.getElem?_eq_some_iff.1 h2).1; simp; omega
def Rel (at_ : Int) (a b : Vers) : Prop := ∃ m, b = a.drop m ∧ (m = 0 ∨ ∃ p, a[m]? = some p ∧ p.1 ≤ at_) ∧ a.Pairwise (fun p q => p.1 ≤ q.1)
theorem Rel.nil (at_ : Int) : Rel at_ [] [] := ⟨0, rfl, .inl rfl, by simp⟩
theorem Rel.sweep {at_ at' : Int} {a b : Vers} (h : Rel at_ a b) (hle : at' ≤ at_) : Rel at_ a (swept at' b) := by
 obtain ⟨m, rfl, hm, hs⟩ := h
 obtain ⟨h1, h2, h3, h4⟩ := sweptN_spec at' (a.drop m)
 refine ⟨m + sweptN at' (a.drop m), by rw [h4, List.drop_drop], ?_, hs⟩
 rcases h1 with h1 | ⟨p, hp, hp'⟩
 ·rw [h1, Nat.add_zero]; exact hm
 ·right; exact ⟨p, by rw [List.getElem?_drop] at hp; exact hp, by omega⟩
def puts (at_ : Int) (vs : Vers) (v : Int) : Vers := if (vs.getLast?.map (·.1)) = some at_ then vs.dropLast ++ [(at_, v)] else vs ++ [(at_, v)]
theorem puts_le {t : Int} {vs : Vers} {v : Int} (h : ∀ p ∈ vs, p.1 ≤ t) : ∀ p ∈ puts t vs v, p.1 ≤ t := by
 unfold puts
 intro p hp
 split at hp
 ·rcases List.mem_append.1 hp with hp | hp
  ·exact h p (List.dropLast_subset _ hp)
  ·simp at hp; subst hp; exact Int.le_refl _
 ·rcases List.mem_append.1 hp with hp | hp
  ·exact h p hp
  ·simp at hp; subst hp; exact Int.le_refl _
theorem Rel.puts {at_ t : Int} {a b : Vers} (v : Int) (h : Rel at_ a b) (ht : ∀ p ∈ a, p.1 ≤ t) : Rel at_ (puts t a v) (puts t b v) := by
 obtain ⟨m, rfl, hm, hs⟩ := h
 have hmle : m = 0 ∨ m < a.length := hm.imp id fun ⟨p, hp, _⟩ => (List.getElem?_eq_some_iff.1 hp).1
 have hlast : (a.drop m).getLast? = a.getLast? := by
  rcases hmle with rfl | h
  ·rfl
  ·rw [List.getLast?_drop, if_neg (by omega)]
 unfold Proofs.YtmfngjclccehaaaGreatDoor.puts
 rw [hlast]
 by_cases hl : (a.getLast?.map (·.1)) = some t
 ·rw [if_pos hl, if_pos hl]
  have hne : a ≠ [] := by intro e; rw [e] at hl; simp at hl
  have hml : m ≤ a.length - 1 := by have := List.length_pos_iff.2 hne; omega
  refine ⟨m, ?_, ?_, ?_⟩
  ·rw [List.drop_append_of_le_length (by simpa using hml), List.dropLast_eq_take, List.dropLast_eq_take, List.length_drop, List.drop_take]
   congr 2; omega
  ·rcases hm with rfl | ⟨p, hp, hle⟩
   ·exact .inl rfl
   ·right
    have hlt := (List.getElem?_eq_some_iff.1 hp).1
    rcases Nat.lt_or_ge m (a.length - 1) with hx | hx
    ·exact ⟨p, by rw [List.getElem?_append_left (by simpa using hx), List.getElem?_dropLast, if_pos (by omega)]; exact hp, hle⟩
    ·have hme : m = a.length - 1 := by omega
     refine ⟨(t, v), by rw [List.getElem?_append_right (by simp; omega), hme]; simp, ?_⟩
     have : a.getLast? = some p := by rw [List.getLast?_eq_getElem?, ← hme]; exact hp
     rw [this] at hl; simp at hl; simp only; omega
  ·rw [List.pairwise_append]
   refine ⟨hs.sublist (List.dropLast_sublist _), by simp, ?_⟩
   intro p hp q hq; simp at hq; subst hq; exact ht p (List.dropLast_subset _ hp)
 ·rw [if_neg hl, if_neg hl]
  refine ⟨m, ?_, ?_, ?_⟩
  ·rcases hmle with rfl | h
   ·rfl
   ·rw [List.drop_append_of_le_length (by omega)]
  ·rcases hm with rfl | ⟨p, hp, hle⟩
   ·exact .inl rfl
   ·right; exact ⟨p, by rw [List.getElem?_append_left (List.getElem?_eq_some_iff.1 hp).1]; exact hp, hle⟩
  ·rw [List.pairwise_append]
   refine ⟨hs, by simp, ?_⟩
   intro p hp q hq; simp at hq; subst hq; exact ht p hp
theorem Rel.early {at_ see : Int} {a : Vers} {m : Nat} (hm : m = 0 ∨ ∃ p, a[m]? = some p ∧ p.1 ≤ at_) (hs : a.Pairwise (fun p q => p.1 ≤ q.1)) (hle : at_ ≤ see) : ∀ p ∈ a.take m, p.1 ≤ see := by
 rcases hm with rfl | ⟨q, hq, hq'⟩
 ·simp
 ·intro p hp
  obtain ⟨hm, hqe⟩ := List.getElem?_eq_some_iff.1 hq
  have : a = a.take m ++ a.drop m := (List.take_append_drop m a).symm
  rw [this, List.pairwise_append] at hs
  have := hs.2.2 p hp q (by rw [← hqe, List.drop_eq_getElem_cons hm]; exact List.mem_cons_self)
  omega
theorem Rel.newer {at_ see : Int} {a b : Vers} (h : Rel at_ a b) (hle : at_ ≤ see) : newerL a see = newerL b see := by
 obtain ⟨m, rfl, hm, hs⟩ := h
 have he := Rel.early hm hs hle
 unfold newerL
 conv => lhs; rw [← List.take_append_drop m a, List.filter_append]
 rw [List.filter_eq_nil_iff.2 (fun p hp => by have := he p hp; simp; omega), List.nil_append]
theorem Rel.read {at_ see : Int} {a b : Vers} (h : Rel at_ a b) (hle : at_ ≤ see) : readV a see = readV b see := by
 obtain ⟨m, rfl, hm, hs⟩ := h
 unfold readV
 conv => lhs; rw [← List.take_append_drop m a, List.reverse_append, List.find?_append]
 rcases hm with rfl | ⟨q, hq, hq'⟩
 ·simp
 ·obtain ⟨hm, hqe⟩ := List.getElem?_eq_some_iff.1 hq
  have : ((a.drop m).reverse.find? fun p => decide (p.1 ≤ see)).isSome := by
   rw [List.find?_isSome]
   exact ⟨q, by rw [List.mem_reverse, ← hqe, List.drop_eq_getElem_cons hm]; exact List.mem_cons_self, by simp; omega⟩
  obtain ⟨x, hx⟩ := Option.isSome_iff_exists.1 this
  rw [hx]; rfl
def RelV (at_ last : Int) (A B : List Vers) : Prop := A.length = B.length ∧ ∀ (k : Nat) (a b : Vers), A[k]? = some a → B[k]? = some b → Rel at_ a b ∧ ∀ p ∈ a, p.1 ≤ last
theorem RelV.start (at_ : Int) : RelV at_ 0 (List.replicate 10 []) (List.replicate 10 []) := by
 refine ⟨rfl, fun k a b ha hb => ?_⟩
 have h1 := List.eq_of_mem_replicate (List.mem_of_getElem? ha)
 have h2 := List.eq_of_mem_replicate (List.mem_of_getElem? hb)
 subst h1; subst h2
 exact ⟨Rel.nil _, by simp⟩
theorem RelV.sweep {at_ at' last : Int} {A B : List Vers} (h : RelV at_ last A B) (hle : at' ≤ at_) : RelV at_ last A (B.map (swept at')) := by
 refine ⟨by simpa using h.1, fun k a b ha hb => ?_⟩
 rw [List.getElem?_map, Option.map_eq_some_iff] at hb
 obtain ⟨b', hb', rfl⟩ := hb
 exact ⟨(h.2 k a b' ha hb').1.sweep hle, (h.2 k a b' ha hb').2⟩
theorem RelV.put1 {at_ last t : Int} {A B : List Vers} (h : RelV at_ last A B) (hlt : last ≤ t) (p : Int × Int) : RelV at_ t (put1 t A p) (put1 t B p) := by
 refine ⟨by simp [Go.Sep.put1, h.1], fun k a b ha hb => ?_⟩
 unfold Go.Sep.put1 at ha hb
 rw [List.getElem?_set] at ha hb
 by_cases hk : p.1.toNat = k
 ·rw [if_pos hk] at ha hb
  split at ha <;> simp at ha
  rename_i hkl
  rw [if_pos (by rw [← h.1]; exact hkl)] at hb
  simp at hb
  have hA : A[p.1.toNat]? = some A[p.1.toNat] := by simp
  have hB : B[p.1.toNat]? = some (B[p.1.toNat]'(by rw [← h.1]; exact hkl)) := by simp
  obtain ⟨r1, r2⟩ := h.2 _ _ _ hA hB
  rw [hA, Option.getD_some] at ha
  rw [hB, Option.getD_some] at hb
  have r2' : ∀ q ∈ A[p.1.toNat], q.1 ≤ t := fun q hq => Int.le_trans (r2 q hq) hlt
  rw [← ha, ← hb]
  exact ⟨r1.puts p.2 r2', puts_le r2'⟩
 ·rw [if_neg hk] at ha hb
  exact ⟨(h.2 k a b ha hb).1, fun q hq => Int.le_trans ((h.2 k a b ha hb).2 q hq) hlt⟩
theorem RelV.putAll {at_ t : Int} (l : Vers) : ∀ {last : Int} {A B : List Vers}, RelV at_ last A B → last ≤ t → RelV at_ t (putAll t A l) (putAll t B l) := by
 induction l with
 | nil => intro last A B h hlt; exact ⟨h.1, fun k a b ha hb => ⟨(h.2 k a b ha hb).1, fun q hq => Int.le_trans ((h.2 k a b ha hb).2 q hq) hlt⟩⟩
 | cons p l ih => intro last A B h hlt; exact ih (h.put1 hlt p) (Int.le_refl _)
theorem many_swept (at_ : Int) (V : List Vers) : manyV (V.map (swept at_)) + (V.map (sweptN at_)).sum = manyV V := by
 unfold manyV
 induction V with
 | nil => rfl
 | cons v V ih =>
  obtain ⟨_, _, h3, h4⟩ := sweptN_spec at_ v
  simp only [List.map_cons, List.sum_cons]
  have : (swept at_ v).length + sweptN at_ v = v.length := by rw [h4, List.length_drop]; omega
  omega
end Go.Proofs.YtmfngjclccehaaaGreatDoor
namespace Go.Sep
open Go Go.RowKit
variable {w0 w : World} {L M : List HProp}
theorem S.left (M : List HProp) (h : S w0 w (M ++ L)) : S w0 w M := by
 have h1 := h.perm (List.perm_append_comm)
 induction L with
 | nil => simpa using h
 | cons P L ih =>
  have h2 : S w0 w (P :: (L ++ M)) := h1
  exact ih (h2.tail.perm List.perm_append_comm) h2.tail
end Go.Sep
