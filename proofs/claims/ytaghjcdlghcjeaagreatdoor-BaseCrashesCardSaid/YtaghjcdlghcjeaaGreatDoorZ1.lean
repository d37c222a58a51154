/- A torn place: a part of a sealed text is no sealed text. No walk in sight. -/
import Derived.Test.YtaghjcdlghcjeaaGreatDoorProg
import Derived.Test.YtaghjcdlghcjeaaGreatDoorZ0
import Derived.WalkSpells
import Derived.Deep.QuietTactic
import Derived.BigQuiet
import Derived.Deep.RegionLaw
import Derived.Deep.LoopGhost
import Derived.Deep.DeepCutAuto
import Derived.LaidEql
import Derived.Stop.Asserts
import Derived.RowKitTokens
import Derived.LoopN
import Derived.Test.YtaghjcdlghcjeaaGreatDoorCards
import Derived.Test.YtaghjcdlghcjeaaGreatDoorTie
import Derived.WalkKit
import Derived.ProofKit
import Derived.OpenShut
import Derived.Deep.DeepHandedRow
import Derived.Lib.LaidTab
import Derived.LaidHandle
import Derived.Deep.SlicePairs
import Derived.Deep.Strs
import Derived.Lib.SmallJoins
import Derived.Lib.ItoaNum
import Derived.Lib.Join
import Derived.Lib.Atoi
import Derived.Lib.SplitLaws
/- The program's store: the walks. -/
namespace Go.Proofs.YtaghjcdlghcjeaaGreatDoor
open Go Go.RowKit Go.Sep

theorem right_any (k : Int) (w : World) : Calls Tryz.prog 40 #[.int .i64 k] w fun e w' => e = .returned (.bool (decide (keyOk k))) ∧ w = w' := by
  by_cases h0 : 0 ≤ k
  · go_enter Tryz.func40, Tryz.ntmps40
    go_wp2
    go_ret
    exact ⟨retB (by simp [keyOk, h0]), rfl⟩
  · go_enter Tryz.func40, Tryz.ntmps40
    go_wp2
    go_ret
    exact ⟨retB (decide_eq_false (by unfold keyOk; omega)).symm, rfl⟩

theorem Tryz.info84 : (Tryz.prog.info? 84).map (fun i => (i.zero, i.size, i.bytes)) = some (some (.agg #[.int .i64 0, .int .i64 0]), 2, 16) := by kernel_rfl

theorem last_any (b o : Nat) (last : Int) (w : World) (hc : w.cell? ⟨b, o + 10, none⟩ = some (.int .i64 last)) : Calls Tryz.prog 24 #[.pointer (some ⟨b, o, none⟩)] w fun e w' => e = .returned (.int .i64 last) ∧ w = w' := by
  go_enter Tryz.func24, Tryz.ntmps24
  go_wp2
  go_ret
  exact ⟨rfl, rfl⟩

/-- What Install leaves. -/
def InstPost (w0 : World) (b o : Nat) (V : List Vers) (last at_ : Int) (l : Vers) (L : List HProp) (e : Ending) (w' : World) : Prop :=
  if last < at_ ∧ at_ ≤ 1099511627776 then
    match badAt 0 l with
    | none => e = .returned .nilIface ∧ S w0 w' (storeP 84 b o (putAll at_ V l) at_ :: L)
    | some (x, p) => ∃ v, e = .returned v ∧ S w0 w' (errP 56 107 105 v (.at_ x p) :: storeP 84 b o V last :: L)
  else e = .returned (.iface 56 (.int .i64 10)) ∧ S w0 w' (storeP 84 b o V last :: L)

set_option maxHeartbeats 1000000 in
theorem install_any (w0 w : World) (b o : Nat) (V : List Vers) (last at_ : Int) (v : Value) (l : Vers) (L : List HProp) (N : Nat)
    (hs : S w0 w (storeP 84 b o V last :: L)) (hr : RdK w0 L v l.length (pcells l)) (hN : ∀ vs ∈ V, vs.length ≤ N) (hb : N + l.length ≤ 1000000) :
    Calls Tryz.prog 21 #[.pointer (some ⟨b, o, none⟩), .int .i64 at_, v] w (InstPost w0 b o V last at_ l L) := by
  have hc := hs.store_last.1
  by_cases h1 : at_ ≤ last
  · have hfin : ∀ e w', e = Ending.returned (.iface 56 (.int .i64 10)) ∧ w = w' → InstPost w0 b o V last at_ l L e w' := by
      rintro e w' ⟨rfl, rfl⟩; unfold InstPost; rw [if_neg (by omega)]; exact ⟨rfl, hs⟩
    refine Calls.mono (R := fun e w' => e = Ending.returned (.iface 56 (.int .i64 10)) ∧ w = w') ?_ hfin
    clear hfin hr hN hb hs
    go_enter Tryz.func21, Tryz.ntmps21
    go_wp2
    go_ret
    exact ⟨rfl, rfl⟩
  by_cases h2 : 1099511627776 < at_
  · have hfin : ∀ e w', e = Ending.returned (.iface 56 (.int .i64 10)) ∧ w = w' → InstPost w0 b o V last at_ l L e w' := by
      rintro e w' ⟨rfl, rfl⟩; unfold InstPost; rw [if_neg (by omega)]; exact ⟨rfl, hs⟩
    refine Calls.mono (R := fun e w' => e = Ending.returned (.iface 56 (.int .i64 10)) ∧ w = w') ?_ hfin
    clear hfin hr hN hb hs
    have h1' : last < at_ := by omega
    go_enter Tryz.func21, Tryz.ntmps21
    go_wp2
    go_ret
    exact ⟨rfl, rfl⟩
  have h1' : last < at_ := by omega
  have h2' : at_ ≤ 1099511627776 := by omega
  clear h1 h2
  obtain ⟨a, cap, hv, hcap, hcap', hrd⟩ := hr w hs.tail
  subst hv
  unfold maxLen at hcap'
  go_enter Tryz.func21, Tryz.ntmps21
  go_wp2
  go_loopw [26] (fun c wr => ∃ i : Nat, i ≤ l.length ∧ c = .int .i64 i ∧ badAt 0 l = badAt i (l.drop i) ∧ S w0 wr (storeP 84 b o V last :: L)) (fun c _ => l.length - (intOf c).toNat)
  case atStart => exact ⟨0, Nat.zero_le _, rfl, rfl, hs⟩
  case round =>
    obtain ⟨i, hi, rfl, hbad, hsr⟩ := hrel
    clear hc hrd
    by_cases hlt : i < l.length
    · have hp : l[i]? = some l[i] := by simp [hlt]
      generalize l[i] = p at hp
      obtain ⟨lb, lo, rfl, c1, c2⟩ := hr.pair hsr.tail hp
      have hd : l.drop i = p :: l.drop (i + 1) := by
        have := List.getElem?_eq_some_iff.1 hp
        rw [List.drop_eq_getElem_cons this.1, this.2]
      rw [hd] at hbad
      have HB := hid hbad; clear hbad
      have HD := hid hd; clear hd
      have HP := hid hp; clear hp
      have hs1 := (hsr.alloc #[.int .i64 p.1, .int .i64 p.2] 51).tail
      have herr : ∀ x : Int, badAt i (p :: l.drop (i + 1)) = some (x, (i : Int)) → InstPost w0 b o V last at_ l L (.returned (.iface 105 (.pointer (some ⟨wr.heap.size + 1, 0, none⟩)))) ((wr.alloc (.cells #[.int .i64 p.1, .int .i64 p.2] 51)).alloc (.cells #[.int .i64 x, .int .i64 i] 107)) := by
        intro x hx
        have hs2 := hs1.alloc #[.int .i64 x, .int .i64 i] 107
        rw [World.size_alloc] at hs2
        unfold InstPost
        rw [if_pos ⟨h1', h2'⟩, HB.out, hx]
        exact ⟨_, rfl, .ex_intro (wr.heap.size + 1) (.sep_intro (.pur_intro rfl hs2))⟩
      have HE := hid herr; clear herr
      by_cases hk : keyOk p.1
      · have hk1 : decide (keyOk p.1) = true := by simpa using hk
        by_cases hv : valOk p.2
        · have hv1 := hv.1
          have hv2 := hv.2
          go_wp2_with (first | (go_at_call 40; refine (right_any _ _).mono ?_; rintro e w' ⟨rfl, rfl⟩))
          go_roundw
          case rel => exact ⟨i + 1, by omega, by go_num, by rw [HB.out]; simp [badAt, hk, hv], hs1⟩
          case measure => simp [intOf]; omega
        · have hfin := HE.out 1 (by simp [badAt, hk, hv])
          have HF := hid hfin; clear hfin
          rcases (show p.2 < -1099511627776 ∨ (-1099511627776 ≤ p.2 ∧ 1099511627776 < p.2) by unfold valOk at hv; omega) with hv1 | ⟨hv0, hv1⟩
          · clear hv
            go_wp2_with (first | (go_at_call 40; refine (right_any _ _).mono ?_; rintro e w' ⟨rfl, rfl⟩))
            go_ret
            exact HF.out
          · clear hv
            go_wp2_with (first | (go_at_call 40; refine (right_any _ _).mono ?_; rintro e w' ⟨rfl, rfl⟩))
            go_ret
            exact HF.out
      · have hk1 : decide (keyOk p.1) = false := by simpa using hk
        have hfin := HE.out 2 (by simp [badAt, hk])
        have HF := hid hfin; clear hfin
        go_wp2_with (first | (go_at_call 40; refine (right_any _ _).mono ?_; rintro e w' ⟨rfl, rfl⟩))
        go_ret
        exact HF.out
    · have hil : i = l.length := by omega
      subst hil
      rw [List.drop_length] at hbad
      have hok := badAt_none (i := 0) (l := l) (by rw [hbad]; rfl)
      have HB := hid hbad; clear hbad
      have HO := hid hok; clear hok
      have HN := hid hN; clear hN
      go_wp2
      go_loopw [56] (fun c wr => ∃ i : Nat, i ≤ l.length ∧ c = .int .i64 i ∧ S w0 wr (storeP 84 b o (putAll at_ V (l.take i)) last :: L)) (fun c _ => l.length - (intOf c).toNat)
      case atStart => exact ⟨0, Nat.zero_le _, rfl, hsr⟩
      case round =>
        obtain ⟨i, hi, rfl, hsr⟩ := hrel
        by_cases hlt : i < l.length
        · have hp : l[i]? = some l[i] := by simp [hlt]
          have hokp := HO.out l[i] (List.getElem_mem hlt)
          have htk : l.take (i + 1) = l.take i ++ [l[i]] := by rw [List.take_succ_eq_append_getElem hlt]
          generalize l[i] = p at hp hokp htk
          obtain ⟨pk, pv⟩ := p
          obtain ⟨⟨hk0, hk1⟩, hv0, hv1⟩ := hokp
          simp only at hk0 hk1 hv0 hv1
          obtain ⟨k, rfl⟩ := Int.eq_ofNat_of_zero_le hk0
          have hk10 : k < 10 := by omega
          have hpa : putAll at_ V (l.take (i + 1)) = put1 at_ (putAll at_ V (l.take i)) (k, pv) := by rw [htk]; simp [putAll]
          have hle := putAll_le (at_ := at_) (l.take i) HN.out
          obtain ⟨v, vs, X, hVk, hsk, hcell, hback, hset, hmod⟩ := hsr.store_key k hk10
          have hvl : vs.length ≤ 1000000 := by
            have := hle vs (List.mem_of_getElem? hVk)
            rw [List.length_take] at this; omega
          obtain ⟨lb, lo, rfl, c1, c2⟩ := hr.pair hsk.tail.tail hp
          obtain ⟨c3, f3, hw0⟩ := hcell wr hsk.tail
          have hb1 := World.block_lt_of_cell? wr _ c1
          have hb3 := World.block_lt_of_cell? wr _ c3
          simp only at hb1 hb3
          have HP := hid hp; have HT := hid htk; have HPA := hid hpa; have HLE := hid hle; have HVK := hid hVk
          clear hp htk hpa hle hVk hsr
          have hput : ∀ vs', vs' = (if (vs.getLast?.map (·.1)) = some at_ then vs.dropLast ++ [(at_, pv)] else vs ++ [(at_, pv)]) → (putAll at_ V (l.take i)).set k vs' = putAll at_ V (l.take (i + 1)) := by
            intro vs' h'; rw [HPA.out, h']; unfold put1; simp only [Int.toNat_natCast, HVK.out, Option.getD_some]
          have HPUT := hid hput; clear hput
          have hs1 := (hsk.alloc #[.int .i64 (k : Int), .int .i64 pv] 51).tail
          have hs2 := hs1.drew
          by_cases hemp : vs = []
          · subst hemp
            obtain ⟨a0, cp, rfl, _, _, _⟩ := hsk.sl_val
            simp only [List.length_nil] at hsk c3 hset
            have hn0 : ¬ (0 : Int) > 0 := by omega
            obtain ⟨i0, hi0, hz0, hz1, hz2⟩ := info_parts Tryz.info84
            have hs3 : ∀ nq, S w0 (((wr.alloc (.cells #[.int .i64 (k : Int), .int .i64 pv] 51)).drewN nq).drew.alloc (.cells #[.int .i64 at_, .int .i64 pv] 84)) (blk (wr.heap.size + 1) 84 [.int .i64 at_, .int .i64 pv] :: blk wr.heap.size 51 [.int .i64 (k : Int), .int .i64 pv] :: sl 84 2 (.slice a0 0 cp) 0 [] :: X :: L) := by
              intro nq
              have h5 := (((hsk.alloc #[.int .i64 (k : Int), .int .i64 pv] 51).drewN nq).drew).alloc #[.int .i64 at_, .int .i64 pv] 84
              simpa [pcells] using h5
            have hn3 := fun nq => news_blk (hs3 nq)
            have hs4 := fun nq => (hs3 nq).tail.swap
            have hfin : ∀ w1 v', S w0 w1 (sl 84 2 v' (0 + 1) ([] ++ [.int .i64 at_, .int .i64 pv]) :: blk wr.heap.size 51 [.int .i64 (k : Int), .int .i64 pv] :: X :: L) → S w0 (w1.setCell ⟨b, o + k, none⟩ v') (storeP 84 b o (putAll at_ V (l.take (i + 1))) last :: L) := by
              intro w1 v' h5
              have h6 := hset w1 v' [(at_, pv)] L (by simpa [pcells] using h5.swap.tail)
              rwa [HPUT.out _ (by simp)] at h6
            have HF := hid hfin; clear hfin
            have H3 := hid hs4; have H4 := hid hn3; have HC := hid hcell
            clear hs4 hn3 hs3 hs1 hs2 hsk hback hset hmod hr hcell
            go_wp2_with (fail)
            go_quiet (fail)
            go_wp2_with fail
            go_region_law (refine step_append rfl (.tmp 91) (.tmp 96) 59 rfl 84 i0 _ 2 16 Tryz.underlying59 hi0 hz0 hz1 hz2 rfl (by decide) (H3.out _) rfl (some ⟨wr.heap.size + 1, 0, none⟩) 1 1 [.int .i64 at_, .int .i64 pv] rfl rfl (H4.out _) (by simp [Value.oneCell']) (by unfold maxLen; omega) (by omega) ?_; intro v1 w1 hs1; obtain ⟨a1, cp1, rfl, _, _, _⟩ := hs1.sl_val; obtain ⟨c9, f9, _⟩ := HC.out w1 hs1.tail.tail; have d1 := hs1.tail.blk_cell 0 rfl; have d2 := hs1.tail.blk_cell 1 rfl; have HS := hid (HF.out _ _ hs1); clear hs1)
            all_goals
              go_wp2_with fail
              go_roundw
              case rel => exact ⟨i + 1, by omega, by go_num, HS.out⟩
              case measure => simp [intOf]; omega
          · obtain ⟨vs0, ⟨qa, qv⟩, rfl⟩ : ∃ vs0 q, vs = vs0 ++ [q] := ⟨vs.dropLast, vs.getLast hemp, (List.dropLast_concat_getLast hemp).symm⟩
            obtain ⟨g, og, cp, rfl, hcp1, hcp2, hg0, hg1, hgc, hgf⟩ := hsk.sl_some (by rw [pcells_length]; simp)
            have hq := pcells_at (vs0 ++ [(qa, qv)]) vs0.length (qa, qv) (by simp)
            have hq1 := hgc _ _ hq.1
            have hq2 : wr.cell? ⟨g, og + vs0.length * 2 + 1, none⟩ = some (.int .i64 qv) := hgc _ _ hq.2
            simp only [List.length_append, List.length_cons, List.length_nil, Nat.zero_add] at hvl hcp1 c3 
            generalize hm : vs0.length = m at hq1 hq2 hvl hcp1 c3
            have HM := hid hm; clear hm
            clear hgc hemp hq
            unfold maxLen at hcp2
            by_cases hqa : qa = at_
            · subst hqa
              have hfin : ∀ nq, S w0 (((wr.alloc (.cells #[.int .i64 (k : Int), .int .i64 pv] 51)).drewN nq).setCell ⟨g, og + m * 2 + 1, none⟩ (.int .i64 pv)) (storeP 84 b o (putAll qa V (l.take (i + 1))) last :: L) := by
                intro nq
                have h5 := (hs1.drewN nq).sl_set (g := g) (o := og) (cap := cp) rfl (m * 2 + 1) (by rw [pcells_length, List.length_append, HM.out]; simp; omega) (.int .i64 pv)
                rw [← HM.out, pcells_set _ vs0.length (qa, qv) pv (by simp), List.set_append_right _ _ (Nat.le_refl _), Nat.sub_self, List.set_cons_zero] at h5
                have h6 := hmod _ (vs0 ++ [(qa, pv)]) _ (by simpa using h5)
                rw [HPUT.out _ (by simp), ← Nat.add_assoc, HM.out] at h6
                exact h6
              have HF := hid hfin; clear hfin hs1 hs2 hsk hback hset hmod hr hcell
              go_wp2_with (fail)
              go_quiet (fail)
              go_wp2_with fail
              go_roundw
              case rel => exact ⟨i + 1, by omega, by go_num, HF.out _⟩
              case measure => simp [intOf]; omega
            · have hqb : (qa == at_) = false := by simpa using hqa
              obtain ⟨i0, hi0, hz0, hz1, hz2⟩ := info_parts Tryz.info84
              have hs3 : ∀ nq, S w0 (((wr.alloc (.cells #[.int .i64 (k : Int), .int .i64 pv] 51)).drewN nq).drew.alloc (.cells #[.int .i64 at_, .int .i64 pv] 84)) (blk (wr.heap.size + 1) 84 [.int .i64 at_, .int .i64 pv] :: blk wr.heap.size 51 [.int .i64 (k : Int), .int .i64 pv] :: sl 84 2 (.slice (some ⟨g, og, none⟩) (m + 1) cp) (m + 1) (pcells (vs0 ++ [(qa, qv)])) :: X :: L) := by
                intro nq
                have h5 := (((hsk.alloc #[.int .i64 (k : Int), .int .i64 pv] 51).drewN nq).drew).alloc #[.int .i64 at_, .int .i64 pv] 84
                rw [← HM.out]
                simpa using h5
              have hn3 := fun nq => news_blk (hs3 nq)
              have hs4 := fun nq => (hs3 nq).tail.swap
              have hfin : ∀ w1 v', S w0 w1 (sl 84 2 v' (m + 1 + 1) (pcells (vs0 ++ [(qa, qv)]) ++ [.int .i64 at_, .int .i64 pv]) :: blk wr.heap.size 51 [.int .i64 (k : Int), .int .i64 pv] :: X :: L) → S w0 (w1.setCell ⟨b, o + k, none⟩ v') (storeP 84 b o (putAll at_ V (l.take (i + 1))) last :: L) := by
                intro w1 v' h5
                have h6 := hset w1 v' (vs0 ++ [(qa, qv)] ++ [(at_, pv)]) L (by rw [pcells_append]; simpa [HM.out, pcells] using h5.swap.tail)
                rwa [HPUT.out _ (by simp [hqa])] at h6
              have HF := hid hfin; clear hfin
              have H3 := hid hs4; have H4 := hid hn3; have HC := hid hcell
              clear hs4 hn3 hs3 hs1 hs2 hsk hback hset hmod hr hcell
              go_wp2_with (fail)
              go_quiet (fail)
              go_wp2_with fail
              go_region_law (refine step_append rfl (.tmp 91) (.tmp 96) 59 rfl 84 i0 _ 2 16 Tryz.underlying59 hi0 hz0 hz1 hz2 rfl (by decide) (H3.out _) rfl (some ⟨wr.heap.size + 1, 0, none⟩) 1 1 [.int .i64 at_, .int .i64 pv] rfl rfl (H4.out _) (by simp [Value.oneCell']) (by unfold maxLen; omega) (by omega) ?_; intro v1 w1 hs1; obtain ⟨a1, cp1, rfl, _, _, _⟩ := hs1.sl_val; obtain ⟨c9, f9, _⟩ := HC.out w1 hs1.tail.tail; have d1 := hs1.tail.blk_cell 0 rfl; have d2 := hs1.tail.blk_cell 1 rfl; have HS := hid (HF.out _ _ hs1); clear hs1)
              all_goals
                go_wp2_with fail
                go_roundw
                case rel => exact ⟨i + 1, by omega, by go_num, HS.out⟩
                case measure => simp [intOf]; omega
        · have hil : i = l.length := by omega
          subst hil
          rw [List.take_length] at hsr
          obtain ⟨c9, f9, hl9⟩ := hsr.store_last
          have hfin : InstPost w0 b o V last at_ l L (.returned .nilIface) (wr.setCell ⟨b, o + 10, none⟩ (.int .i64 at_)) := by
            unfold InstPost; rw [if_pos ⟨h1', h2'⟩, HB.out]; exact ⟨rfl, hl9 at_⟩
          have HF := hid hfin; clear hfin hl9 hsr
          go_wp2_with fail
          go_ret
          exact HF.out
end Go.Proofs.YtaghjcdlghcjeaaGreatDoor
/- More words for walks: whole arrays, clones. -/
namespace Go.Sep
open Go Go.RowKit
variable {P : Program} {w w0 : World} {L : List HProp}
/-- A whole array is loaded. -/
theorem wpList_load_arr {ops : Array Oper} {rest : List Oper} {o : Oper} {a : Act} {Q : Exit → Act → World → Prop} (hg : o.guard = none) (t : TypeId) (x : Operand) (hop : o.op = .load t x)
    (ad : Addr) (hx : a.eval x = .pointer (some ad)) (n : Nat) (e : TypeId) (ht : P.underlying t = some (.array n e)) (cs : List Value) (hsz' : (P.info? t).map (·.size) = some cs.length)
    (hc : ∀ j u, cs[j]? = some u → w.cell? (ad.add j) = some u) (h : wpList P ops Q rest (a.put o.dst (.agg cs.toArray)) w) : wpList P ops Q (o :: rest) a w :=
  wpList_plain hg fun K hK => by
    obtain ⟨i, hi, hsz⟩ := Option.map_eq_some_iff.1 hsz'
    have hl := run_loadCells_list (P := P) w ad cs hc
    have hrun : (loadVar t ad).run P w = .ok (.agg cs.toArray) w := by simp [loadVar, isAgg, run_underlying ht, sizeOf, typeInfo, hi, hsz, hl]
    unfold Oper.wp execOp
    simp only [hop, hx, Instr.loadAt, Instr.sureAddr, Sem.run_bind, Sem.run_pure, Result.andThen_ok, hrun]
    exact hK _ _ h
/-- An element of an array that is held as a value: one cell each. -/
theorem run_index_arr {t e : TypeId} {n : Nat} {d : TypeDesc} (ht : P.underlying t = some (.array n e)) (he : P.underlying e = some d) (hd : (match d with | .struct _ | .array _ _ => false | _ => true) = true)
    (hsz : (P.info? e).map (·.size) = some 1) {cs : List Value} {i : Nat} {v : Value} (hi : i < n) (hv : cs[i]? = some v) (w : World) :
    (Instr.index t (.agg cs.toArray) (.int .i64 i)).run P w = .ok v w := by
  obtain ⟨info, h1, h2⟩ := Option.map_eq_some_iff.1 hsz
  have ha : (isAgg e).run P w = .ok false w := by
    simp only [isAgg, Sem.run_bind, run_underlying he, Result.andThen_ok]
    cases d <;> simp_all
  simp [Instr.index, asIntOf, run_underlying ht, hi, sizeOf, typeInfo, h1, h2, part, ha, hv]
end Go.Sep
/- The program's store: Newer, Many, Sweep. -/
namespace Go.Proofs.YtaghjcdlghcjeaaGreatDoor
open Go Go.RowKit Go.Sep
theorem Tryz.info3 : (Tryz.prog.info? 3).map (fun i => (i.zero, i.size, i.bytes)) = some (some (.int .i64 0), 1, 8) := by kernel_rfl

def newerL (vs : Vers) (at_ : Int) : List Int := (vs.filter fun p => decide (at_ < p.1)).map (·.1)
theorem newerL_snoc (vs : Vers) (p : Int × Int) (at_ : Int) : newerL (vs ++ [p]) at_ = newerL vs at_ ++ if at_ < p.1 then [p.1] else [] := by
  unfold newerL; rw [List.filter_append, List.map_append]; by_cases h : at_ < p.1 <;> simp [h]
theorem newerL_le (vs : Vers) (at_ : Int) : (newerL vs at_).length ≤ vs.length := by unfold newerL; rw [List.length_map]; exact List.length_filter_le _ _

theorem newer_no (b o : Nat) (k at_ : Int) (w : World) (hk : ¬ keyOk k) :
    Calls Tryz.prog 44 #[.pointer (some ⟨b, o, none⟩), .int .i64 k, .int .i64 at_] w fun e w' => e = .returned (.tuple #[.slice none 0 0, .iface 56 (.int .i64 2)]) ∧ w = w' := by
  have hk1 : decide (keyOk k) = false := by simpa using hk
  go_enter Tryz.func44, Tryz.ntmps44
  go_wp2_with (first | (go_at_call 40; refine (right_any _ _).mono ?_; rintro e w' ⟨rfl, rfl⟩))
  go_ret2
  exact ⟨rfl, rfl⟩

def NewPost (w0 : World) (b o : Nat) (V : List Vers) (last at_ : Int) (vs : Vers) (L : List HProp) (e : Ending) (w' : World) : Prop :=
  ∃ v, e = .returned (.tuple #[v, .nilIface]) ∧ S w0 w' (sl 3 1 v (newerL vs at_).length (icells (newerL vs at_)) :: storeP 84 b o V last :: L)

set_option maxHeartbeats 1000000 in
theorem newer_any (w0 w : World) (b o : Nat) (V : List Vers) (last at_ : Int) (k : Nat) (vs : Vers) (L : List HProp) (hk : k < 10)
    (hs : S w0 w (storeP 84 b o V last :: L)) (hV : V[k]? = some vs) (hb : vs.length ≤ 2000000) :
    Calls Tryz.prog 44 #[.pointer (some ⟨b, o, none⟩), .int .i64 k, .int .i64 at_] w (NewPost w0 b o V last at_ vs L) := by
  have hk1 : decide (keyOk (k : Int)) = true := decide_eq_true ⟨by omega, by omega⟩
  obtain ⟨v, vs', X, hVk, hsk, hcell, hback, -, -⟩ := hs.store_key k hk
  obtain rfl : vs = vs' := Option.some.inj (hV.symm.trans hVk)
  obtain ⟨a0, cp, rfl, hcp, hcp2, _⟩ := hsk.sl_val
  obtain ⟨c3, _, _⟩ := hcell w hsk.tail
  unfold maxLen at hcp2
  clear hs hV hVk hcell
  go_enter Tryz.func44, Tryz.ntmps44
  go_wp2_with (first | (go_at_call 40; refine (right_any _ _).mono ?_; rintro e w' ⟨rfl, rfl⟩))
  go_loopw [8, 22] (fun u c wr => ∃ i : Nat, i ≤ vs.length ∧ c = .int .i64 i ∧ S w0 wr (sl 3 1 u (newerL (vs.take i) at_).length (icells (newerL (vs.take i) at_)) :: sl 84 2 (.slice a0 vs.length cp) vs.length (pcells vs) :: X :: L)) (fun _ c _ => vs.length - (intOf c).toNat)
  case atStart => exact ⟨0, Nat.zero_le _, rfl, by simpa [newerL, icells] using hsk.sl_nil⟩
  case round =>
    obtain ⟨i, hi, rfl, hsr⟩ := hrel
    clear c3 hsk
    by_cases hlt : i < vs.length
    · have hp : vs[i]? = some vs[i] := by simp [hlt]
      generalize vs[i] = p at hp
      have htk := newerL_snoc (vs.take i) p at_
      rw [← take_succ_get hp] at htk
      have hle := newerL_le (vs.take i) at_
      rw [List.length_take] at hle
      obtain ⟨g, og, rfl, hg, c1, c2⟩ := (hsr.swap).sl_pair hp
      have HP := hid hp; clear hp
      have HT := hid htk; clear htk
      by_cases hgt : at_ < p.1
      · obtain ⟨i0, hi0, hz0, hz1, hz2⟩ := info_parts Tryz.info3
        have hs1 := (hsr.alloc #[.int .i64 p.1, .int .i64 p.2] 84).tail.alloc #[.int .i64 p.1] 3
        rw [World.size_alloc] at hs1
        have hn1 := news_blk hs1
        have hs2 := hs1.tail
        have H1 := hid hs2; have H2 := hid hn1; clear hs1 hs2 hn1 hsr
        go_wp2_with (at_builtin; refine wpList_append rfl (.tmp 30) (.tmp 33) 23 rfl 3 i0 _ 1 8 Tryz.underlying23 hi0 hz0 hz1 hz2 rfl (by decide) H1.out rfl (some ⟨wr.heap.size + 1, 0, none⟩) 1 1 [.int .i64 p.1] rfl rfl H2.out (by simp [Value.oneCell']) (by unfold maxLen; omega) (by omega) ?_; intro v1 w1 hs1; have HS := hid hs1; clear hs1)
        go_roundw
        case rel => exact ⟨i + 1, by omega, by go_num, by rw [HT.out, if_pos hgt]; simpa [icells_append, icells] using HS.out⟩
        case measure => simp [intOf]; omega
      · have hs1 := (hsr.alloc #[.int .i64 p.1, .int .i64 p.2] 84).tail
        have H1 := hid hs1; clear hs1 hsr
        go_wp2
        go_roundw
        case rel => exact ⟨i + 1, by omega, by go_num, by rw [HT.out, if_neg hgt]; simpa using H1.out⟩
        case measure => simp [intOf]; omega
    · have hil : i = vs.length := by omega
      subst hil
      rw [List.take_length] at hsr
      have hfin : ∀ v, S w0 wr (sl 3 1 v (newerL vs at_).length (icells (newerL vs at_)) :: sl 84 2 (.slice a0 vs.length cp) vs.length (pcells vs) :: X :: L) → NewPost w0 b o V last at_ vs L (.returned (.tuple #[v, .nilIface])) wr := by
        intro v h; exact ⟨v, rfl, (hback wr (_ :: L) (h.perm (by exact List.Perm.trans (List.Perm.swap _ _ _) (List.Perm.cons _ (List.Perm.swap _ _ _))))).swap⟩
      have HF := hid (hfin _ hsr); clear hfin hsr hback
      go_wp2
      go_ret2
      exact HF.out

/-! ### Many -/
theorem Tryz.size59 : (Tryz.prog.info? 59).map (·.size) = some 1 := by kernel_rfl
theorem Tryz.size60 : (Tryz.prog.info? 60).map (·.size) = some 10 := by kernel_rfl
def manyV (V : List Vers) : Nat := (V.map List.length).sum
theorem manyV_take {V : List Vers} {i : Nat} {vs : Vers} (h : V[i]? = some vs) : manyV (V.take (i + 1)) = manyV (V.take i) + vs.length := by
  unfold manyV; rw [take_succ_get h, List.map_append, List.sum_append]; simp
theorem manyV_le {V : List Vers} {N : Nat} (h : ∀ vs ∈ V, vs.length ≤ N) : manyV V ≤ N * V.length := by
  unfold manyV
  induction V with
  | nil => simp
  | cons v V ih =>
    have h1 := h v (by simp)
    have h2 := ih (fun vs hv => h vs (by simp [hv]))
    simp only [List.map_cons, List.sum_cons, List.length_cons, Nat.mul_add, Nat.mul_one]
    omega

end Go.Proofs.YtaghjcdlghcjeaaGreatDoor
/- What comes in as arguments: slices of pairs, and slices of those. -/
namespace Go.Proofs.YtaghjcdlghcjeaaGreatDoor
open Go Go.RowKit Go.Sep

theorem Tryz.info51 : (Tryz.prog.info? 51).map (fun i => (i.zero, i.size, i.bytes)) = some (some (.agg #[.int .i64 0, .int .i64 0]), 2, 16) := by kernel_rfl
def ArgPairs (w0 : World) (vi : Value) (l : Vers) : Prop := ∃ ai ci, vi = .slice ai l.length ci ∧ l.length ≤ ci ∧ ci ≤ maxLen ∧ ∀ (j : Nat) (p : Int × Int), l[j]? = some p → ∃ bb oo, ai = some ⟨bb, oo, none⟩ ∧ bb < w0.heap.size ∧ w0.cell? ⟨bb, oo + j * 2, none⟩ = some (.int .i64 p.1) ∧ w0.cell? ⟨bb, oo + j * 2 + 1, none⟩ = some (.int .i64 p.2)
def ArgRows (w0 : World) (v : Value) (ls : List Vers) : Prop :=
  ∃ a cap, v = .slice a ls.length cap ∧ ls.length ≤ cap ∧ cap ≤ maxLen ∧ ∀ (i : Nat) (l : Vers), ls[i]? = some l → ∃ b o vi, a = some ⟨b, o, none⟩ ∧ b < w0.heap.size ∧ w0.cell? ⟨b, o + i, none⟩ = some vi ∧ ArgPairs w0 vi l
end Go.Proofs.YtaghjcdlghcjeaaGreatDoor
/- errors.As at the target *api.Errno (after the guide's worked example ToyasAs), and api.Tell. -/
namespace Go.Proofs.YtaghjcdlghcjeaaGreatDoor
open Go Go.RowKit Go.Sep Go.Extern.Stop Go.Stop Go.Extern

/-- errors.As(nil, target). -/
theorem as_nil (t : Value) (w : World) :
    Calls Tryz.prog 43 #[.nilIface, t] w fun e w' => e = .returned (.bool false) ∧ w' = w := by
  go_enter Tryz.func43, Tryz.ntmps43
  go_wp2
  go_ret
  exact ⟨rfl, rfl⟩

theorem Tryz.valueOfT (t : Addr) (w : World) : (ReflectliteValue.unpack (.iface 112 (.pointer (some t)))).run Tryz.prog w
    = .ok (.agg #[.pointer (some ⟨9, 112, none⟩), .pointer (some ⟨w.heap.size, 0, none⟩), .int .u64 150]) (w.alloc (.cells #[.pointer (some t)] 112)) := by kernel_rfl
theorem Tryz.typeT (a : Addr) (w : World) : (ReflectliteValue.methodAny (ReflectliteValue.valueError "reflectlite.Value.Type" 0) (fun t _ _ _ => ReflectliteType.toType t) #[.agg #[.pointer (some ⟨9, 112, none⟩), .pointer (some a), .int .u64 150]]).run Tryz.prog w
    = .ok (.iface 161 (.agg #[.pointer (some ⟨9, 112, none⟩)])) w := by kernel_rfl
theorem Tryz.methodKind (h : Value) (w : World) : (Go.method 358 161 (.agg #[h]) "Kind").run Tryz.prog w = .ok (156, h) w := by kernel_rfl
theorem Tryz.kindT (w : World) : ((ReflectliteType.abiMethod fun t => Functor.map (fun a : Nat => Value.int IntKind.u8 (a : Int)) (Rtype.kind t)) #[.pointer (some ⟨9, 112, none⟩)]).run Tryz.prog w = .ok (.int .u8 22) w := by kernel_rfl
theorem Tryz.kindE (w : World) : ((ReflectliteType.abiMethod fun t => Functor.map (fun a : Nat => Value.int IntKind.u8 (a : Int)) (Rtype.kind t)) #[.pointer (some ⟨9, 56, none⟩)]).run Tryz.prog w = .ok (.int .u8 2) w := by kernel_rfl
theorem rlm (z : Sem Value) (f : TypeId → Addr → Nat → Nat → Sem Value) (v : Value) :
    ReflectliteValue.method z f #[v] = (do match ← ReflectliteValue.parts v with | none => z | some (t, a, fl) => f t a fl (fl % 32)) := rfl
theorem Tryz.partsT (a : Addr) (w : World) : (ReflectliteValue.parts (.agg #[.pointer (some ⟨9, 112, none⟩), .pointer (some a), .int .u64 150])).run Tryz.prog w = .ok (some (112, a, 150)) w := by kernel_rfl
theorem Tryz.isNilT (a p : Addr) (W : World) (ha : W.cell? a = some (.pointer (some p))) :
    (ReflectliteValue.method (ReflectliteValue.valueError "reflectlite.Value.IsNil" 0) ReflectliteValue.isNil #[.agg #[.pointer (some ⟨9, 112, none⟩), .pointer (some a), .int .u64 150]]).run Tryz.prog W = .ok (.bool false) W := by
  rw [rlm]
  simp only [Sem.run_bind, Tryz.partsT, Result.andThen]
  simp [ReflectliteValue.isNil, loadVar, isAgg, underlying, Tryz.underlying112, ha, Result.andThen]
theorem Tryz.methodElem (h : Value) (w : World) : (Go.method 358 161 (.agg #[h]) "Elem").run Tryz.prog w = .ok (173, .agg #[h]) w := by kernel_rfl
theorem Tryz.methodImplements (h : Value) (w : World) : (Go.method 358 161 (.agg #[h]) "Implements").run Tryz.prog w = .ok (174, .agg #[h]) w := by kernel_rfl
theorem Tryz.methodAssignableTo (h : Value) (w : World) : (Go.method 358 161 (.agg #[h]) "AssignableTo").run Tryz.prog w = .ok (171, .agg #[h]) w := by kernel_rfl
theorem Tryz.elemT (w : World) : (ReflectliteType.method ReflectliteType.elem #[.agg #[.pointer (some ⟨9, 112, none⟩)]]).run Tryz.prog w = .ok (.iface 161 (.agg #[.pointer (some ⟨9, 56, none⟩)])) w := by kernel_rfl
theorem Tryz.implementsE (w : World) : (ReflectliteType.relation "Implements" ReflectliteType.implements_ #[.agg #[.pointer (some ⟨9, 56, none⟩)], .iface 161 (.agg #[.pointer (some ⟨9, 31, none⟩)])]).run Tryz.prog w = .ok (.bool true) w := by kernel_rfl
theorem Tryz.typeOfE (v : Value) (w : World) : (ReflectliteType.typeOf #[.iface 56 v]).run Tryz.prog w = .ok (.iface 161 (.agg #[.pointer (some ⟨9, 56, none⟩)])) w := by kernel_rfl
theorem Tryz.typeOfA (v : Value) (w : World) : (ReflectliteType.typeOf #[.iface 105 v]).run Tryz.prog w = .ok (.iface 161 (.agg #[.pointer (some ⟨9, 105, none⟩)])) w := by kernel_rfl
theorem Tryz.assignableE (w : World) : (ReflectliteType.relation "AssignableTo" ReflectliteType.assignableTo #[.agg #[.pointer (some ⟨9, 56, none⟩)], .iface 161 (.agg #[.pointer (some ⟨9, 56, none⟩)])]).run Tryz.prog w = .ok (.bool true) w := by kernel_rfl
theorem Tryz.assignableA (w : World) : (ReflectliteType.relation "AssignableTo" ReflectliteType.assignableTo #[.agg #[.pointer (some ⟨9, 105, none⟩)], .iface 161 (.agg #[.pointer (some ⟨9, 56, none⟩)])]).run Tryz.prog w = .ok (.bool false) w := by kernel_rfl
theorem Tryz.valueOfE (e : Int) (w : World) : (ReflectliteValue.unpack (.iface 56 (.int .i64 e))).run Tryz.prog w
    = .ok (.agg #[.pointer (some ⟨9, 56, none⟩), .pointer (some ⟨w.heap.size, 0, none⟩), .int .u64 130]) (w.alloc (.cells #[.int .i64 e] 56)) := by kernel_rfl
theorem Tryz.elemOfT (w : World) : (Rtype.elem? 112).run Tryz.prog w = .ok (some 56) w := by kernel_rfl
theorem Tryz.mkE (p : Addr) (w : World) : (ReflectliteValue.mk 56 p ReflectliteValue.flagAddr).run Tryz.prog w = .ok (.agg #[.pointer (some ⟨9, 56, none⟩), .pointer (some p), .int .u64 386]) w := by kernel_rfl
theorem Tryz.elemVT (a p : Addr) (W : World) (ha : W.cell? a = some (.pointer (some p))) :
    (ReflectliteValue.method (ReflectliteValue.valueError "reflectlite.Value.Elem" 0) ReflectliteValue.elem #[.agg #[.pointer (some ⟨9, 112, none⟩), .pointer (some a), .int .u64 150]]).run Tryz.prog W
      = .ok (.agg #[.pointer (some ⟨9, 56, none⟩), .pointer (some p), .int .u64 386]) W := by
  rw [rlm]
  simp only [Sem.run_bind, Tryz.partsT, Result.andThen]
  simp [ReflectliteValue.elem, loadVar, isAgg, underlying, Tryz.underlying112, ha, Result.andThen, Tryz.elemOfT, Tryz.mkE]
theorem rls (v x : Value) : ReflectliteValue.set #[v, x] = (do
    let (some (dst, a, fl), some (src, b, _)) := (← ReflectliteValue.parts v, ← ReflectliteValue.parts x)
      | unsupported (.noEntry "extern/(internal/reflectlite.Value).Set.zeroValue")
    if fl / ReflectliteValue.flagAddr % 2 == 0 then unsupported (.noEntry "extern/(internal/reflectlite.Value).Set.unaddressable")
    let val ← loadVar src b
    if ← Rtype.directlyAssignable dst src then storeVar dst a val
    else if ← Rtype.implements dst src then
      if (← Rtype.kind src) == 20 then
        match val with
        | .nilIface => unsupported (.noEntry "extern/reflectlite: a nil value of one interface type handed on as a value of another")
        | _ => storeVar dst a val
      else storeVar dst a (.iface src val)
    else panicString ("reflectlite.Set: value of type " ++ (← Rtype.spelt src) ++ " is not assignable to type " ++ (← Rtype.spelt dst))
    pure (.tuple #[])) := rfl
theorem Tryz.partsEa (a : Addr) (w : World) : (ReflectliteValue.parts (.agg #[.pointer (some ⟨9, 56, none⟩), .pointer (some a), .int .u64 386])).run Tryz.prog w = .ok (some (56, a, 386)) w := by kernel_rfl
theorem Tryz.partsE (a : Addr) (w : World) : (ReflectliteValue.parts (.agg #[.pointer (some ⟨9, 56, none⟩), .pointer (some a), .int .u64 130])).run Tryz.prog w = .ok (some (56, a, 130)) w := by kernel_rfl
theorem Tryz.directE (w : World) : (Rtype.directlyAssignable 56 56).run Tryz.prog w = .ok true w := by kernel_rfl
theorem Tryz.sizeE (w : World) : (sizeOf 56).run Tryz.prog w = .ok 1 w := by kernel_rfl
theorem Tryz.setE (ta b : Addr) (e : Int) (old : Value) (W : World) (hb : W.cell? b = some (.int .i64 e)) (ht : W.cell? ta = some old) (hf : W.frozen? ta = false) :
    (ReflectliteValue.set #[.agg #[.pointer (some ⟨9, 56, none⟩), .pointer (some ta), .int .u64 386], .agg #[.pointer (some ⟨9, 56, none⟩), .pointer (some b), .int .u64 130]]).run Tryz.prog W
      = .ok (.tuple #[]) (W.setCell ta (.int .i64 e)) := by
  rw [rls]
  simp only [Sem.run_bind, Tryz.partsEa, Tryz.partsE, Result.andThen]
  simp [ReflectliteValue.flagAddr, loadVar, isAgg, underlying, Tryz.underlying56, hb, Result.andThen, Tryz.directE, storeVar, Value.cells, storeCells, Addr.add]
  rw [run_store Tryz.prog W ta _ _ (by rfl)]
  simp [ht, hf]
end Go.Proofs.YtaghjcdlghcjeaaGreatDoor
/- errors.As at *api.Errno: an Errno; an At around one. api.Tell. -/
namespace Go.Proofs.YtaghjcdlghcjeaaGreatDoor
open Go Go.RowKit Go.Sep Go.Extern.Stop Go.Stop Go.Extern

/-- The library's own variable: what the card ties. -/
def ErrT (w : World) : Prop := w.cell? ⟨0, 0, none⟩ = some (.iface 161 (.agg #[.pointer (some ⟨9, 31, none⟩)]))
theorem ErrT.lt {w : World} (h : ErrT w) : 0 < w.heap.size := World.block_lt_of_cell? w _ h
theorem ErrT.of {w0 w : World} {L : List HProp} (h : ErrT w0) (hs : S w0 w L) : ErrT w := (hs.1.cell (p := ⟨0, 0, none⟩) h.lt).trans h

set_option maxRecDepth 20000 in
set_option maxHeartbeats 4000000 in
theorem as_hit (e : Int) (t : Nat) (old : Value) (w0 w : World) (L : List HProp) (hE : ErrT w0) (hs : S w0 w (blk t 56 [old] :: L)) :
    Calls Tryz.prog 43 #[.iface 56 (.int .i64 e), .iface 112 (.pointer (some ⟨t, 0, none⟩))] w fun ev w' => ev = .returned (.bool true) ∧ S w0 w' (blk t 56 [.int .i64 e] :: L) := by
  have hg := hE.of hs
  unfold ErrT at hg
  have hlt := (hE.of hs).lt
  have hs1 := hs.alloc #[.pointer (some ⟨t, 0, none⟩)] 112
  have hs2 := hs1.alloc #[.pointer (some ⟨9, 112, none⟩), .pointer (some ⟨w.heap.size, 0, none⟩), .int .u64 150] 132
  have hs3 := hs2.alloc #[.pointer (some ⟨9, 112, none⟩), .pointer (some ⟨w.heap.size, 0, none⟩), .int .u64 150] 132
  have hs4 := hs3.alloc #[.int .i64 e] 56
  simp only [World.size_alloc] at hs2 hs3 hs4
  have hfin := hs4.tail.tail.tail.tail.blk_set 0 (by simp) (.int .i64 e)
  have h6 := @run_callFunc_extern Tryz.prog 62 _ (fun args => ReflectliteValue.unpack (args.getD 0 (.tuple #[]))) Tryz.func62 (by kernel_rfl) (by kernel_rfl) (by kernel_rfl) (by kernel_rfl)
  have h7 := @run_callFunc_extern Tryz.prog 63 _ (ReflectliteValue.methodAny (ReflectliteValue.valueError "reflectlite.Value.Type" 0) (fun t _ _ _ => ReflectliteType.toType t)) Tryz.func63 (by kernel_rfl) (by kernel_rfl) (by kernel_rfl) (by kernel_rfl)
  have h8 := @run_callFunc_extern Tryz.prog 64 _ (ReflectliteValue.method (ReflectliteValue.valueError "reflectlite.Value.IsNil" 0) ReflectliteValue.isNil) Tryz.func64 (by kernel_rfl) (by kernel_rfl) (by kernel_rfl) (by kernel_rfl)
  have h27 := @run_callFunc_extern Tryz.prog 156 _ (ReflectliteType.abiMethod fun t => do pure (.int .u8 (← Rtype.kind t))) Tryz.func156 (by kernel_rfl) (by kernel_rfl) (by kernel_rfl) (by kernel_rfl)
  have h37 := @run_callFunc_extern Tryz.prog 173 _ (ReflectliteType.method ReflectliteType.elem) Tryz.func173 (by kernel_rfl) (by kernel_rfl) (by kernel_rfl) (by kernel_rfl)
  have h38 := @run_callFunc_extern Tryz.prog 174 _ (ReflectliteType.relation "Implements" ReflectliteType.implements_) Tryz.func174 (by kernel_rfl) (by kernel_rfl) (by kernel_rfl) (by kernel_rfl)
  have h10 := @run_callFunc_extern Tryz.prog 86 _ ReflectliteType.typeOf Tryz.func86 (by kernel_rfl) (by kernel_rfl) (by kernel_rfl) (by kernel_rfl)
  have h35 := @run_callFunc_extern Tryz.prog 171 _ (ReflectliteType.relation "AssignableTo" ReflectliteType.assignableTo) Tryz.func171 (by kernel_rfl) (by kernel_rfl) (by kernel_rfl) (by kernel_rfl)
  have h11 := @run_callFunc_extern Tryz.prog 87 _ (ReflectliteValue.method (ReflectliteValue.valueError "reflectlite.Value.Elem" 0) ReflectliteValue.elem) Tryz.func87 (by kernel_rfl) (by kernel_rfl) (by kernel_rfl) (by kernel_rfl)
  have h12 := @run_callFunc_extern Tryz.prog 88 _ ReflectliteValue.set Tryz.func88 (by kernel_rfl) (by kernel_rfl) (by kernel_rfl) (by kernel_rfl)
  have tO := Tryz.typeOfE
  have mA := Tryz.methodAssignableTo
  have a25 := Tryz.assignableE
  have v25 := Tryz.valueOfE
  have f6 := Tryz.valueOfT
  have f7 := Tryz.typeT
  have mK := Tryz.methodKind
  have mE := Tryz.methodElem
  have mI := Tryz.methodImplements
  have k27 := Tryz.kindT
  have k25 := Tryz.kindE
  have e27 := Tryz.elemT
  have i25 := Tryz.implementsE
  have n8 := Tryz.isNilT ⟨w.heap.size, 0, none⟩ ⟨t, 0, none⟩ _ (hs2.tail.blk_cell 0 rfl)
  have el := Tryz.elemVT ⟨w.heap.size, 0, none⟩ ⟨t, 0, none⟩ _ (hs3.tail.tail.blk_cell 0 rfl)
  have st := Tryz.setE ⟨t, 0, none⟩ ⟨w.heap.size + 1 + 1 + 1, 0, none⟩ e old _ (hs4.blk_cell 0 rfl) (hs4.tail.tail.tail.tail.blk_cell 0 rfl) (hs4.tail.tail.tail.tail.blk_free 0)
  have hg2 : ((w.alloc (.cells #[.pointer (some ⟨t, 0, none⟩)] 112)).alloc (.cells #[.pointer (some ⟨9, 112, none⟩), .pointer (some ⟨w.heap.size, 0, none⟩), .int .u64 150] 132)).cell? ⟨0, 0, none⟩ = some (.iface 161 (.agg #[.pointer (some ⟨9, 31, none⟩)])) := hE.of hs2
  have HF := hid hfin
  clear hs1 hs2 hs3 hs4 hfin hs
  go_enter Tryz.func43, Tryz.ntmps43
  go_wp2
  refine wp_loop_rounds 1 ?_
  rw [rounds_succ]
  go_wp2
  go_ret
  exact ⟨rfl, HF.out⟩

/-- What Tell answers. -/
def Err.errno : Err → Int
  | .nil => 0
  | .no e => e
  | .at_ e _ => e
theorem tell_nil (w : World) : Calls Tryz.prog 27 #[.nilIface] w fun ev w' => ev = .returned (.int .i64 0) ∧ w = w' := by
  go_enter Tryz.func27, Tryz.ntmps27
  go_wp2
  go_ret
  exact ⟨rfl, rfl⟩
set_option maxHeartbeats 1000000 in
theorem tell_no (e : Int) (w0 w : World) (L : List HProp) (hE : ErrT w0) (hs : S w0 w L) :
    Calls Tryz.prog 27 #[.iface 56 (.int .i64 e)] w fun ev w' => ev = .returned (.int .i64 e) ∧ S w0 w' L := by
  have hs1 := hs.alloc #[.int .i64 0] 56
  have H1 := hid hs1
  clear hs1 hs
  go_enter Tryz.func27, Tryz.ntmps27
  go_wp2_with (go_at_call 43; refine (as_hit _ _ _ w0 _ L hE H1.out).mono ?_; rintro ev w' ⟨rfl, hs2⟩; have d1 := hs2.blk_cell 0 rfl; have H2 := hid hs2; clear hs2)
  go_ret
  exact ⟨rfl, H2.out.tail⟩
end Go.Proofs.YtaghjcdlghcjeaaGreatDoor
/- From a walk to a given statement: what a law's proof has in common; slices of pairs among the arguments. -/
namespace Go.Proofs.YtaghjcdlghcjeaaGreatDoor
open Go Go.RowKit Go.Sep Go.ChangeShapes Go.WideShapes Go.ChangeAt Go.Deep

theorem Tryz.own : ownKnob Tryz.prog.godebug = none := by kernel_rfl
theorem Tryz.et : Tryz.prog.globalNamed "errors.errorType" = some 0 := by kernel_rfl
theorem Tryz.rt : (Tryz.prog.cutTypes.find? (·.1 == "internal/reflectlite.rtype")).map (·.2) = some 161 := by kernel_rfl
theorem Tryz.tsize : Tryz.prog.types.size = 258 := by kernel_rfl
theorem Tryz.oneRow : ((List.range 258).filter fun t => Tryz.prog.rowNamed t [101, 114, 114, 111, 114]) = [31] := by kernel_rfl
theorem Tryz.laidOut : laidOutB Tryz.prog = true := by kernel_rfl

/-- The row's list gives the variable's one cell. -/
theorem handle_of_laid {W : World} (h : laidMetH Tryz.prog [("errors.errorType", Rows.laid_errors_errorType)] W) : ErrT W := by
  have h' : laidMet Tryz.prog [] W ∧ handlesMet Tryz.prog [("errors.errorType", Rows.laid_errors_errorType)] W := h
  obtain ⟨name, u, ty, e1, e2, e3, e4, e5⟩ := h'.2 _ (List.mem_singleton.2 rfl)
  have en : name = [101, 114, 114, 111, 114] := (Option.some.inj e1).symm
  subst en
  obtain rfl := Option.some.inj (Tryz.rt.symm.trans e2)
  have hm : ty ∈ (List.range 258).filter fun t => Tryz.prog.rowNamed t [101, 114, 114, 111, 114] := List.mem_filter.2 ⟨List.mem_range.2 (by rw [← Tryz.tsize]; exact e3), e4⟩
  rw [Tryz.oneRow] at hm
  obtain rfl := List.mem_singleton.1 hm
  have hh : typeHandle Tryz.prog 31 = .pointer (some ⟨9, 31, none⟩) := by kernel_rfl
  rw [hh] at e5
  unfold ErrT
  simpa using World.var?_cell Tryz.et e5 0

/-- All that was read reads as it did. -/
theorem trodAll_below {H : Type} {enc : TypeId × Value → H} {P : Program} (hl : laidOutB P = true) {W W' : World} (hb : Below W.heap.size W W') :
    ∀ (ts : List TypeId) (vs : List Value) (ds : List (DataW H)) (ps : List MemPlace), (∀ t ∈ ts, P.readableRec t = true ∧ t < P.types.size) → DataW.TrodAll enc P W 0 (fun _ => true) true ts vs ds ps → (∀ x ∈ ps, x.block < W.heap.size) →
      DataW.TrodAll enc P W' 0 (fun b => decide (b < W.heap.size)) true ts vs ds ps
  | [], vs, ds, ps, _, h, _ => by obtain ⟨rfl, rfl, rfl⟩ := trodAll_nil h; exact trodAll_mk0
  | t :: ts, vs, ds, ps, ht, h, hlt => by
    obtain ⟨v, vs', d, ds', p, q, rfl, rfl, rfl, hd, hr⟩ := trodAll_cons h
    exact trodAll_cons_mk (Below.trod hl (ht t (by simp)).1 (ht t (by simp)).2 hd hb (fun x hx => hlt x (by simp [hx]))) (trodAll_below hl hb ts vs' ds' q (fun t h => ht t (by simp [h])) hr (fun x hx => hlt x (by simp [hx])))

theorem addr_add (b o n : Nat) : (⟨b, o, none⟩ : Addr).add n = ⟨b, o + n, none⟩ := by
  unfold Addr.add; split <;> simp_all

/-- A slice of pairs that came in. -/
theorem argPairs_of {H : Type} {enc : TypeId × Value → H} {P : Program} {w : World} {t e : TypeId} {f0 f1 : Field} {fuel : Nat} {cs : List Value} {x : DataW H × List MemPlace} (ht : P.underlying t = some (.slice e)) (he : P.underlying e = some (.struct #[f0, f1]))
    (ce : P.cellsOf e = 2) (o0 : f0.offset = 0) (o1 : f1.offset = 1) (c0 : P.cellsOf f0.type = 1) (c1 : P.cellsOf f1.type = 1) (k0 : P.underlying f0.type = some (.int .i64)) (k1 : P.underlying f1.type = some (.int .i64))
    (h : DataW.trod enc P w 0 (fun _ => true) true fuel t cs = some x) : ∃ vi l, cs = [vi] ∧ ArgPairs w vi l := by
  rcases open_slice_pairs ht he ce o0 o1 c0 c1 h with ⟨rfl, rfl⟩ | ⟨a, len, cap, m, n, V0, V1, D0, D1, P0, P1, rfl, _, h1, h2, h3, _, h5⟩
  · exact ⟨_, [], rfl, none, 0, rfl, Nat.le_refl _, by simp, by simp⟩
  · have hm : m = cap := by simpa using h3
    subst hm
    refine ⟨_, (List.range len).map fun i => (intOf (V0 i), intOf (V1 i)), rfl, some a, m, by simp, by simpa using h1, h2, fun j p hp => ?_⟩
    rw [List.getElem?_map, Option.map_eq_some_iff] at hp
    obtain ⟨j', hj', rfl⟩ := hp
    obtain ⟨hjl, rfl⟩ := List.getElem?_eq_some_iff.1 hj'
    simp only [List.length_range] at hjl
    simp only [List.getElem_range]
    obtain ⟨g0, g1, g2, g3⟩ := h5 j (by omega)
    obtain ⟨n0, e0, _, _⟩ := DataW.trod_int k0 g2
    obtain ⟨n1, e1, _, _⟩ := DataW.trod_int k1 g3
    simp only [List.cons.injEq, and_true] at e0 e1
    rw [e0] at g0; rw [e1] at g1
    have hs : a.spot = none := by
      obtain ⟨q0, _⟩ := h5 0 (by omega)
      obtain ⟨b, o, sp⟩ := a
      cases sp with
      | none => rfl
      | some sp => simp [Addr.add, World.cell?] at q0; split at q0 <;> simp at q0
    obtain ⟨b, o, sp⟩ := a
    simp only at hs
    subst hs
    rw [addr_add] at g0 g1
    refine ⟨b, o, rfl, World.block_lt_of_cell? w _ g0, ?_, ?_⟩
    · rw [g0, e0]; rfl
    · rw [Nat.add_assoc]; rw [g1, e1]; rfl

/-- The row's form of a law's answer: true, all read as it was. -/
theorem post_law {H : Type} {enc : TypeId × Value → H} {P : Program} {f : Func} {s : ChangeSpec} {W W' : World} {args : Array Value} {ds gs : List (DataW H)} {before : List MemPlace} {t : TypeId} (hl : laidOutB P = true)
    (hread : f.params.toList.all (fun t => P.readableRec t && decide (t < P.types.size)) = true) (hr : f.resultTypes = #[t]) (ht : P.underlying t = some .bool) (hsv : s.vars = [])
    (hfn : s.fn H ds = { results := [.lit (.bool true)], args := ds }) (hW : DataW.Whole enc P f.params.toList s.vars false W args.toList ds gs before) (hb : Below W.heap.size W W') :
    s.post enc P f false true false false W args (.bool true) W' := by
  have hW' := hW
  have hlt := fun p hp => hW.lt p hp
  obtain ⟨p, q, hA, hV, rfl, _, _⟩ := hW
  rw [hsv] at hV
  obtain ⟨rfl, rfl⟩ := trodVars_none hV
  simp only [List.append_nil] at hlt
  refine ⟨ds, [], p ++ [], [], p, [], hW', ?_, ?_, ?_, hb.frame _, fun h => by cases h⟩
  · rw [hr, List.append_nil, hfn]; exact trodAll_mk1 (shut_bool ht true)
  · rw [List.append_nil, hfn]
    refine trodAll_below hl hb _ _ _ _ (fun t h => ?_) hA hlt
    have := List.all_eq_true.1 hread t h
    simpa using this
  · rw [List.append_nil, hfn, hsv]; rfl

/-- A slice of slices of pairs that came in. -/
theorem argRows_of {H : Type} {enc : TypeId × Value → H} {P : Program} {w : World} {tt t e : TypeId} {f0 f1 : Field} {fuel : Nat} {cs : List Value} {x : DataW H × List MemPlace} (htt : P.underlying tt = some (.slice t)) (ct : P.cellsOf t = 1) (ht : P.underlying t = some (.slice e)) (he : P.underlying e = some (.struct #[f0, f1]))
    (ce : P.cellsOf e = 2) (o0 : f0.offset = 0) (o1 : f1.offset = 1) (c0 : P.cellsOf f0.type = 1) (c1 : P.cellsOf f1.type = 1) (k0 : P.underlying f0.type = some (.int .i64)) (k1 : P.underlying f1.type = some (.int .i64))
    (h : DataW.trod enc P w 0 (fun _ => true) true fuel tt cs = some x) : ∃ v ls, cs = [v] ∧ ArgRows w v ls := by
  rcases open_slice1 htt ct h with ⟨rfl, rfl⟩ | ⟨a, len, cap, m, n, V, D, Pl, rfl, _, h1, h2, h3, _, h5⟩
  · exact ⟨_, [], rfl, none, 0, rfl, Nat.le_refl _, by simp, by simp⟩
  · have hm : m = cap := by simpa using h3
    subst hm
    have hp : ∀ i, i < len → ∃ l, ArgPairs w (V i) l := by
      intro i hi
      obtain ⟨_, g⟩ := h5 i (by omega)
      obtain ⟨vi, l, hv, hl⟩ := argPairs_of ht he ce o0 o1 c0 c1 k0 k1 g
      simp only [List.cons.injEq, and_true] at hv
      rw [hv]; exact ⟨l, hl⟩
    obtain ⟨f, hf⟩ := choose_lt hp
    refine ⟨_, (List.range len).map f, rfl, some a, m, by simp, by simpa using h1, h2, fun i l hl => ?_⟩
    rw [List.getElem?_map, Option.map_eq_some_iff] at hl
    obtain ⟨j', hj', rfl⟩ := hl
    obtain ⟨hjl, rfl⟩ := List.getElem?_eq_some_iff.1 hj'
    simp only [List.length_range] at hjl
    simp only [List.getElem_range]
    have hs : a.spot = none := by
      obtain ⟨q0, _⟩ := h5 0 (by omega)
      obtain ⟨b, o, sp⟩ := a
      cases sp with
      | none => rfl
      | some sp => simp [Addr.add, World.cell?] at q0; split at q0 <;> simp at q0
    obtain ⟨b, o, sp⟩ := a
    simp only at hs
    subst hs
    have g0 := (h5 i (by omega)).1
    rw [addr_add] at g0
    exact ⟨b, o, V i, rfl, World.block_lt_of_cell? w _ g0, g0, hf i hjl⟩
end Go.Proofs.YtaghjcdlghcjeaaGreatDoor
/- A slice of structs among the arguments. -/
namespace Go.Proofs.YtaghjcdlghcjeaaGreatDoor
open Go Go.RowKit Go.Sep Go.ChangeShapes Go.WideShapes Go.ChangeAt Go.Deep

/-- A slice of structs that came in: of each element its cells. -/
def ArgF {α : Type} (f : α → List Value) (n : Nat) (w0 : World) (v : Value) (l : List α) : Prop :=
  ∃ a cap, v = .slice a l.length cap ∧ l.length ≤ cap ∧ cap ≤ maxLen ∧ ∀ (i : Nat) (p : α), l[i]? = some p → ∃ b o, a = some ⟨b, o, none⟩ ∧ b < w0.heap.size ∧ ∀ c u, (f p)[c]? = some u → w0.cell? ⟨b, o + i * n + c, none⟩ = some u
def cells3 (p : Int × Int × Int) : List Value := [.int .i64 p.1, .int .i64 p.2.1, .int .i64 p.2.2]
theorem addr_add' (b o n : Nat) : (⟨b, o, none⟩ : Addr).add n = ⟨b, o + n, none⟩ := by
  unfold Addr.add; split <;> simp_all

theorem argF_of {α H : Type} [Inhabited α] {enc : TypeId × Value → H} {P : Program} {w : World} {t e : TypeId} {n : Nat} {fuel : Nat} {cs : List Value} {x : DataW H × List MemPlace} (f : α → List Value) (ht : P.underlying t = some (.slice e)) (ce : P.cellsOf e = n) (hn : 0 < n)
    (hel : ∀ (cs' : List Value) (k : Nat) (y : DataW H × List MemPlace), DataW.trod enc P w 0 (fun _ => true) true k e cs' = some y → ∃ p : α, f p = cs')
    (h : DataW.trod enc P w 0 (fun _ => true) true fuel t cs = some x) : ∃ v l, cs = [v] ∧ ArgF f n w v l := by
  rcases open_slice ht h with ⟨rfl, rfl⟩ | ⟨a, len, cap, m, k, D, Pl, rfl, _, h1, h2, h3, _, h5⟩
  · exact ⟨_, [], rfl, none, 0, rfl, Nat.le_refl _, by simp, by simp⟩
  · have hm : m = cap := by simpa using h3
    subst hm
    have hp : ∀ i, i < len → ∃ p : α, w.cells? 0 (a.add (i * n)) n = some (f p) := by
      intro i hi
      obtain ⟨cs', g1, g2⟩ := h5 i (by omega)
      rw [ce] at g1
      obtain ⟨p, rfl⟩ := hel _ _ _ g2
      exact ⟨p, g1⟩
    obtain ⟨p, hp⟩ := choose_lt hp
    refine ⟨_, (List.range len).map p, rfl, some a, m, by simp, by simpa using h1, h2, fun i q hq => ?_⟩
    rw [List.getElem?_map, Option.map_eq_some_iff] at hq
    obtain ⟨j', hj', rfl⟩ := hq
    obtain ⟨hjl, rfl⟩ := List.getElem?_eq_some_iff.1 hj'
    simp only [List.length_range] at hjl
    simp only [List.getElem_range]
    have g0 := hp i hjl
    obtain ⟨_, hlen, hcell⟩ := World.cells?_some g0
    obtain ⟨b, o, sp⟩ := a
    have hs : sp = none := by
      obtain ⟨_, hlen0, hcell0⟩ := World.cells?_some (hp 0 (by omega))
      have q0 := (hcell0 0 hn).trans (List.getElem?_eq_getElem (by omega))
      cases sp with
      | none => rfl
      | some sp => simp [Addr.add, World.cell?] at q0; split at q0 <;> simp at q0
    subst hs
    refine ⟨b, o, rfl, ?_, fun c u hu => ?_⟩
    · have q0 := hcell 0 hn
      rw [addr_add', addr_add'] at q0
      exact World.block_lt_of_cell? w _ (q0.trans (List.getElem?_eq_getElem (by omega)))
    · have hcl := (List.getElem?_eq_some_iff.1 hu).1
      have q0 := hcell c (by omega)
      rw [addr_add', addr_add'] at q0
      rw [q0, hu]
end Go.Proofs.YtaghjcdlghcjeaaGreatDoor
/- What a place of the disk holds: words, their sum, and how it is cut into words again. No walk in sight. -/
namespace Go.Proofs.YtaghjcdlghcjeaaGreatDoor
open Go Go.RowKit Go.Sep

def num (i : Int) : List UInt8 := Lib.decDigits i.toNat
/-- The words of a place: its number, then keys and values. -/
def pwords (l : Vers) : List (List UInt8) := l.flatMap fun p => [num p.1, num p.2]
def swords (k : Nat) (l : Vers) : List (List UInt8) := num k :: pwords l
def textL (k : Nat) (l : Vers) : List UInt8 := Lib.join (swords k l) [32]
def fnvStep (n : Nat) (b : UInt8) : Nat := ((n ^^^ b.toNat) * 1099511628211) % 18446744073709551616
def fnvFrom (n : Nat) (s : List UInt8) : Nat := s.foldl fnvStep n
def fnv0 : Nat := 14695981039346656037
def fnv (s : List UInt8) : Nat := fnvFrom fnv0 s
def sealL (k : Nat) (l : Vers) : List UInt8 := textL k l ++ 32 :: Lib.decDigits (fnv (textL k l))
def sealB (k : Nat) (l : Vers) : ByteArray := ⟨(sealL k l).toArray⟩
/-- Whole numbers of at most two digits. -/
def Two (l : Vers) : Prop := ∀ p ∈ l, (0 ≤ p.1 ∧ p.1 < 100) ∧ (0 ≤ p.2 ∧ p.2 < 100)

theorem fnvStep_lt (n : Nat) (b : UInt8) : fnvStep n b < 18446744073709551616 := Nat.mod_lt _ (by decide)
theorem fnvFrom_lt : ∀ (s : List UInt8) (n : Nat), n < 18446744073709551616 → fnvFrom n s < 18446744073709551616
  | [], _, h => h
  | b :: s, _, _ => fnvFrom_lt s _ (fnvStep_lt _ b)
theorem fnv_lt (s : List UInt8) : fnv s < 18446744073709551616 := fnvFrom_lt s _ (by decide)
theorem fnvFrom_append (n : Nat) (s t : List UInt8) : fnvFrom n (s ++ t) = fnvFrom (fnvFrom n s) t := by simp [fnvFrom]
theorem pwords_append (l m : Vers) : pwords (l ++ m) = pwords l ++ pwords m := by simp [pwords]
theorem pwords_length : ∀ l : Vers, (pwords l).length = 2 * l.length
  | [] => rfl
  | p :: l => by have := pwords_length l; simp [pwords] at this ⊢; omega
theorem pwords_take_succ {l : Vers} {j : Nat} {p : Int × Int} (h : l[j]? = some p) : pwords (l.take (j + 1)) = pwords (l.take j) ++ [num p.1, num p.2] := by
  have hl := List.getElem?_eq_some_iff.1 h
  rw [List.take_add_one, h, Option.toList_some, pwords_append]
  simp [pwords]

/-! Numerals: of digits, hence without a blank. -/
theorem digit_toNat (d : Nat) (h : d < 10) : (UInt8.ofNat (48 + d)).toNat = 48 + d := by
  rw [UInt8.toNat_ofNat']; omega
theorem decDigits_digit (u : Nat) : ∀ b ∈ Lib.decDigits u, 48 ≤ b.toNat ∧ b.toNat ≤ 57 := by
  induction u using Nat.strongRecOn with
  | _ u ih =>
    intro b hb
    rw [Lib.decDigits] at hb
    split at hb
    · simp only [List.mem_singleton] at hb
      subst hb
      rw [digit_toNat u (by omega)]; omega
    · rename_i h
      rw [List.mem_append] at hb
      rcases hb with hb | hb
      · exact ih (u / 10) (by omega) b hb
      · simp only [List.mem_singleton] at hb
        subst hb
        rw [digit_toNat _ (Nat.mod_lt _ (by decide))]; omega
theorem decDigits_ne_nil (u : Nat) : Lib.decDigits u ≠ [] := by
  rw [Lib.decDigits]
  split <;> simp
theorem decFrom_append : ∀ (s t : List UInt8) (acc n : Nat), Lib.decFrom acc s = some n → Lib.decFrom acc (s ++ t) = Lib.decFrom n t
  | [], t, acc, n, h => by simp only [Lib.decFrom, Option.some.injEq] at h; subst h; rfl
  | b :: s, t, acc, n, h => by
    simp only [Lib.decFrom, List.cons_append] at h ⊢
    cases hd : Lib.digitVal b with
    | none => simp [hd] at h
    | some d => simp only [hd] at h ⊢; exact decFrom_append s t _ n h
theorem digitVal_digit (d : Nat) (h : d < 10) : Lib.digitVal (UInt8.ofNat (48 + d)) = some d := by
  unfold Lib.digitVal
  rw [digit_toNat d h, if_pos (by omega)]
  simp
theorem decFrom_digits (u : Nat) : Lib.decFrom 0 (Lib.decDigits u) = some u := by
  induction u using Nat.strongRecOn with
  | _ u ih =>
    rw [Lib.decDigits]
    split
    · rename_i h
      simp only [Lib.decFrom, digitVal_digit u h]
      simp
    · rename_i h
      rw [decFrom_append _ _ _ _ (ih (u / 10) (by omega))]
      simp only [Lib.decFrom, digitVal_digit _ (Nat.mod_lt u (show 0 < 10 by decide))]
      congr 1
      omega
theorem atoi_digits (u : Nat) : Lib.atoi (Lib.decDigits u) = some (u : Int) := by
  have h1 := decFrom_digits u
  have h2 := decDigits_digit u
  cases hd : Lib.decDigits u with
  | nil => exact absurd hd (decDigits_ne_nil u)
  | cons b r =>
    rw [hd] at h1 h2
    have hb := h2 b (List.mem_cons_self ..)
    have n45 : (b == 45) = false := by
      rw [beq_eq_false_iff_ne]; intro h; subst h; exact absurd hb.1 (by decide)
    have n43 : (b == 43) = false := by
      rw [beq_eq_false_iff_ne]; intro h; subst h; exact absurd hb.1 (by decide)
    simp only [Lib.atoi, n45, n43, Bool.false_eq_true, ↓reduceIte, Lib.decNat, List.isEmpty_cons, h1, Option.map_some]
theorem atoi_num {i : Int} (h : 0 ≤ i) : Lib.atoi (num i) = some i := by
  unfold num
  rw [atoi_digits]
  congr 1; omega
theorem num_len {i : Int} (h : i < 100) : (num i).length ≤ 2 ∧ 1 ≤ (num i).length := by
  unfold num
  have h0 : i.toNat < 100 := by omega
  generalize i.toNat = n at h0
  rw [Lib.decDigits]
  split
  · simp
  · rw [Lib.decDigits, dif_pos (by omega)]; simp
theorem num_blank (i : Int) : (32 : UInt8) ∉ num i := by
  intro h
  have := decDigits_digit _ _ h
  exact absurd this.1 (by decide)

/-! Words, one behind the other, with blanks between. -/
theorem join_cons2 (x y : List UInt8) (r : List (List UInt8)) : Lib.join (x :: y :: r) [32] = x ++ 32 :: Lib.join (y :: r) [32] := by
  simp [Lib.join, List.intercalate]
theorem join_snoc : ∀ (ws : List (List UInt8)) (x : List UInt8), ws ≠ [] → Lib.join (ws ++ [x]) [32] = Lib.join ws [32] ++ 32 :: x
  | [], _, h => absurd rfl h
  | [a], x, _ => by simp [Lib.join, List.intercalate]
  | a :: b :: r, x, _ => by
    have ih := join_snoc (b :: r) x (by simp)
    rw [show a :: b :: r ++ [x] = a :: b :: (r ++ [x]) from rfl, join_cons2, join_cons2]
    rw [show b :: r ++ [x] = b :: (r ++ [x]) from rfl] at ih
    rw [ih]; simp
theorem seal_join (k : Nat) (l : Vers) : sealL k l = Lib.join (swords k l ++ [Lib.decDigits (fnv (textL k l))]) [32] := by
  rw [join_snoc _ _ (by simp [swords])]; rfl

def push (b : UInt8) : List (List UInt8) → List (List UInt8)
  | [] => [[b]]
  | x :: r => (b :: x) :: r
/-- How a text is cut at its blanks. -/
def cut : List UInt8 → List (List UInt8)
  | [] => [[]]
  | b :: s => if b = 32 then [] :: cut s else push b (cut s)
theorem cut_blank (s : List UInt8) : cut (32 :: s) = [] :: cut s := by simp [cut]
theorem cut_other {b : UInt8} (h : b ≠ 32) (s : List UInt8) : cut (b :: s) = push b (cut s) := by simp [cut, h]
theorem cut_ne (s : List UInt8) : cut s ≠ [] := by
  cases s with
  | nil => simp [cut]
  | cons b s =>
    by_cases h : b = 32
    · subst h; rw [cut_blank]; simp
    · rw [cut_other h]; cases cut s <;> simp [push]
theorem cut_word {x : List UInt8} (h : (32 : UInt8) ∉ x) : cut x = [x] := by
  induction x with
  | nil => rfl
  | cons b s ih =>
    simp only [List.mem_cons, not_or] at h
    rw [cut_other (fun e => h.1 e.symm), ih h.2]; rfl
theorem cut_word_blank {x : List UInt8} (h : (32 : UInt8) ∉ x) (s : List UInt8) : cut (x ++ 32 :: s) = x :: cut s := by
  induction x with
  | nil => rw [List.nil_append, cut_blank]
  | cons b t ih =>
    simp only [List.mem_cons, not_or] at h
    rw [List.cons_append, cut_other (fun e => h.1 e.symm), ih h.2]; rfl
theorem cut_join : ∀ (ws : List (List UInt8)), ws ≠ [] → (∀ x ∈ ws, (32 : UInt8) ∉ x) → cut (Lib.join ws [32]) = ws
  | [], h, _ => absurd rfl h
  | [a], _, h => by rw [Lib.join_one]; exact cut_word (h a (by simp))
  | a :: b :: r, _, h => by
    rw [join_cons2, cut_word_blank (h a (by simp)), cut_join (b :: r) (by simp) (fun x hx => h x (by simp [hx]))]
theorem join_cut (s : List UInt8) : Lib.join (cut s) [32] = s := by
  induction s with
  | nil => rfl
  | cons b s ih =>
    by_cases h : b = 32
    · subst h
      rw [cut_blank]
      cases hc : cut s with
      | nil => exact absurd hc (cut_ne s)
      | cons x r => rw [join_cons2, ← hc, ih]; rfl
    · rw [cut_other h]
      cases hc : cut s with
      | nil => exact absurd hc (cut_ne s)
      | cons x r =>
        rw [hc] at ih
        cases r with
        | nil => rw [Lib.join_one] at ih; simp only [push]; rw [Lib.join_one, ih]
        | cons y r => simp only [push]; rw [join_cons2] at ih ⊢; rw [← ih]; rfl

/-! The library's cut is this one. -/
theorem index_hit {x : List UInt8} (h : (32 : UInt8) ∉ x) (s : List UInt8) : Lib.index (x ++ 32 :: s) [32] = (x.length : Int) := by
  induction x with
  | nil => rw [List.nil_append, Lib.index]; simp [List.isPrefixOf]
  | cons b t ih =>
    simp only [List.mem_cons, not_or] at h
    have hp : ([32] : List UInt8).isPrefixOf (b :: (t ++ 32 :: s)) = false := by simp [List.isPrefixOf, h.1]
    rw [List.cons_append, Lib.index, hp, ih h.2]
    simp only [Bool.false_eq_true, ↓reduceIte, List.length_cons]
    rw [if_neg (by simp)]; omega
theorem first_blank : ∀ {s : List UInt8}, (32 : UInt8) ∈ s → ∃ x t, s = x ++ 32 :: t ∧ (32 : UInt8) ∉ x
  | b :: s, h => by
    by_cases hb : b = 32
    · exact ⟨[], s, by rw [hb]; rfl, by simp⟩
    · obtain ⟨x, t, rfl, hx⟩ := first_blank (s := s) (by simpa [Ne.symm hb] using h)
      exact ⟨b :: x, t, rfl, by simp [hx, Ne.symm hb]⟩
theorem splitK_cut (n : Nat) : ∀ (s : List UInt8), s.length < n → Lib.splitK [32] 0 (s.count 32) s = cut s := by
  induction n with
  | zero => intro s hn; omega
  | succ n ih =>
    intro s hn
    by_cases h : (32 : UInt8) ∈ s
    · obtain ⟨x, t, rfl, hx⟩ := first_blank h
      simp only [List.length_append, List.length_cons] at hn
      have hc : (x ++ 32 :: t).count 32 = t.count 32 + 1 := by rw [List.count_append, List.count_eq_zero.2 hx, List.count_cons_self]; omega
      rw [hc, Lib.splitK, index_hit hx, if_neg (by simp), cut_word_blank hx]
      have e1 : (x ++ 32 :: t).take ((x.length : Int).toNat + 0) = x := by simp
      have e2 : (x ++ 32 :: t).drop ((x.length : Int).toNat + [(32 : UInt8)].length) = t := by simp
      rw [e1, e2, ih t (by omega)]
    · rw [List.count_eq_zero.2 h, cut_word h]; rfl
def blankB : ByteArray := ⟨#[32]⟩
theorem split_cut (s : ByteArray) : Lib.splitB blankB 0 (Lib.countB s blankB) s = (cut s.data.toList).map fun x => ⟨x.toArray⟩ := by
  have h1 : Lib.countB s blankB = s.data.toList.count 32 := by
    have := Lib.count_one 32 s.data.toList
    rw [← this]; rfl
  have h2 := Lib.splitB_data blankB 0 (Lib.countB s blankB) s
  rw [h1] at h2 ⊢
  rw [show blankB.data.toList = [32] from rfl, splitK_cut _ s.data.toList (Nat.lt_succ_self _)] at h2
  rw [← h2, List.map_map]
  conv => lhs; rw [← List.map_id (Lib.splitB blankB 0 (List.count 32 s.data.toList) s)]
  exact List.map_congr_left fun a _ => by cases a; simp
end Go.Proofs.YtaghjcdlghcjeaaGreatDoor
namespace Go.Proofs.YtaghjcdlghcjeaaGreatDoor
open Go Go.RowKit Go.Sep

theorem prefix_cut : ∀ (ws : List (List UInt8)), ws ≠ [] → (∀ x ∈ ws, (32 : UInt8) ∉ x) → ∀ p : List UInt8, p <+: Lib.join ws [32] → ∃ (j : Nat) (x q : List UInt8), ws[j]? = some x ∧ q <+: x ∧ cut p = ws.take j ++ [q]
  | [], h, _, _, _ => absurd rfl h
  | [a], _, h, p, hp => by
    rw [Lib.join_one] at hp
    refine ⟨0, a, p, rfl, hp, ?_⟩
    have : (32 : UInt8) ∉ p := fun hm => h a (by simp) (hp.subset hm)
    simpa using cut_word this
  | a :: b :: r, _, h, p, hp => by
    rw [join_cons2] at hp
    have ha := h a (by simp)
    rcases Nat.lt_or_ge a.length p.length with hlt | hge
    · obtain ⟨t, ht⟩ := hp
      have h1 : p.take a.length = a := by
        have := congrArg (List.take a.length) ht
        rw [List.take_append_of_le_length (by omega), List.take_left'] at this
        · exact this
        · rfl
      obtain ⟨s, rfl⟩ : ∃ s, p = a ++ s := ⟨p.drop a.length, by conv => lhs; rw [← List.take_append_drop a.length p, h1]⟩
      rw [List.append_assoc, List.append_cancel_left_eq] at ht
      cases s with
      | nil => simp at hlt
      | cons c s =>
        simp only [List.cons_append, List.cons.injEq] at ht
        obtain ⟨rfl, ht⟩ := ht
        obtain ⟨j, x, q, h2, h3, h4⟩ := prefix_cut (b :: r) (by simp) (fun x hx => h x (by simp [hx])) s ⟨t, ht⟩
        exact ⟨j + 1, x, q, h2, h3, by rw [cut_word_blank ha, h4]; rfl⟩
    · have h1 : p <+: a := by
        obtain ⟨t, ht⟩ := hp
        have := congrArg (List.take p.length) ht
        rw [List.take_left', List.take_append_of_le_length hge] at this
        · rw [this]; exact List.take_prefix ..
        · rfl
      have : (32 : UInt8) ∉ p := fun hm => ha (h1.subset hm)
      exact ⟨0, a, p, rfl, h1, by simpa using cut_word this⟩

theorem cut_len (t : List UInt8) : (cut t).length ≤ t.length + 1 := by
  induction t with
  | nil => simp [cut]
  | cons b s ih =>
    by_cases h : b = 32
    · subst h; rw [cut_blank]; simp; omega
    · rw [cut_other h]
      cases hc : cut s with
      | nil => exact absurd hc (cut_ne s)
      | cons x r => rw [hc] at ih; simp [push] at ih ⊢; omega
theorem swords_blank {k : Nat} {l : Vers} : ∀ x ∈ swords k l, (32 : UInt8) ∉ x := by
  intro x hx
  unfold swords pwords at hx
  rw [List.mem_cons, List.mem_flatMap] at hx
  rcases hx with rfl | ⟨p, _, hx⟩
  · exact num_blank _
  · simp only [List.mem_cons, List.not_mem_nil, or_false] at hx
    rcases hx with rfl | rfl <;> exact num_blank _
theorem dec_blank (u : Nat) : (32 : UInt8) ∉ Lib.decDigits u := fun h => absurd (decDigits_digit _ _ h).1 (by decide)
theorem cut_seal (k : Nat) (l : Vers) : cut (sealL k l) = swords k l ++ [Lib.decDigits (fnv (textL k l))] := by
  rw [seal_join]
  refine cut_join _ (by simp) fun x hx => ?_
  rw [List.mem_append, List.mem_singleton] at hx
  rcases hx with hx | rfl
  · exact swords_blank x hx
  · exact dec_blank _
theorem swords_take (k : Nat) (l : Vers) (m : Nat) : (swords k l).take (2 * m + 1) = swords k (l.take m) := by
  unfold swords
  rw [List.take_succ_cons]
  congr 1
  have : ∀ (l : Vers) (m : Nat), (pwords l).take (2 * m) = pwords (l.take m) := by
    intro l
    induction l with
    | nil => intro m; simp [pwords]
    | cons p l ih =>
      intro m
      cases m with
      | zero => simp [pwords]
      | succ m =>
        have := ih m
        unfold pwords at this ⊢
        rw [List.take_succ_cons, List.flatMap_cons, List.flatMap_cons, show 2 * (m + 1) = 2 * m + 1 + 1 by omega]
        simp [this]
  exact this l m
theorem swords_key {k : Nat} {l : Vers} {m : Nat} {p : Int × Int} (h : l[m]? = some p) : (swords k l)[2 * m + 1]? = some (num p.1) := by
  unfold swords
  rw [List.getElem?_cons_succ]
  have : ∀ (l : Vers) (m : Nat), l[m]? = some p → (pwords l)[2 * m]? = some (num p.1) := by
    intro l
    induction l with
    | nil => intro m h; simp at h
    | cons q l ih =>
      intro m h
      cases m with
      | zero => simp at h; subst h; rfl
      | succ m =>
        have := ih m (by simpa using h)
        unfold pwords at this ⊢
        rw [List.flatMap_cons, show 2 * (m + 1) = 2 * m + 1 + 1 by omega]
        simpa using this
  exact this l m h
theorem swords_length (k : Nat) (l : Vers) : (swords k l).length = 2 * l.length + 1 := by unfold swords; rw [List.length_cons, pwords_length]

theorem num_one {i : Int} (h : 0 ≤ i ∧ i < 10) : num i = [UInt8.ofNat (48 + i.toNat)] := by
  unfold num; rw [Lib.decDigits, dif_pos (by omega)]
theorem dec_prefix {u : Nat} {i : Int} (h : 0 ≤ i ∧ i < 10) (hp : Lib.decDigits u <+: num i) : (u : Int) = i := by
  rw [num_one h] at hp
  have hne := decDigits_ne_nil u
  have h1 : Lib.decDigits u = [UInt8.ofNat (48 + i.toNat)] := by
    cases hd : Lib.decDigits u with
    | nil => exact absurd hd hne
    | cons b r =>
      rw [hd] at hp
      obtain ⟨t, ht⟩ := hp
      simp only [List.cons_append, List.cons.injEq, List.append_eq_nil_iff] at ht
      rw [ht.1, ht.2.1]
  have h2 := atoi_digits u
  have h3 := atoi_num h.1
  rw [num_one h, ← h1, h2] at h3
  exact Option.some.inj h3

/-- No sum over the first pairs is the next key. -/
def Safe (k : Nat) (l : Vers) : Prop := ∀ m, 1 ≤ m → ∀ p, l[m]? = some p → (0 ≤ p.1 ∧ p.1 < 10) ∧ (fnv (textL k (l.take m)) : Int) ≠ p.1
/-- What 'opened' finds in a part of a sealed text: too few words, or an odd number of them, or pairs whose text is another one. -/
theorem torn_cases {k : Nat} {l : Vers} (hs : Safe k l) {p : List UInt8} (hp : p <+: sealL k l) (hne : p ≠ sealL k l) :
    ((cut p).length < 4 ∨ (cut p).length % 2 ≠ 0) ∨ ∃ (m : Nat) (x y : List UInt8), 1 ≤ m ∧ m ≤ l.length ∧ cut p = x :: pwords (l.take m) ++ [y] ∧ sealL k (l.take m) ≠ p := by
  have hp0 := hp
  rw [seal_join] at hp
  obtain ⟨j, x, q, h1, h2, h3⟩ := prefix_cut _ (by simp) (fun x hx => by
    rw [List.mem_append, List.mem_singleton] at hx
    rcases hx with hx | rfl
    · exact swords_blank x hx
    · exact dec_blank _) p hp
  have hj := (List.getElem?_eq_some_iff.1 h1).1
  rw [List.length_append, swords_length, List.length_singleton] at hj
  have hlen : (cut p).length = j + 1 := by
    rw [h3, List.length_append, List.length_take, List.length_append, swords_length]; simp; omega
  by_cases hshort : j + 1 < 4 ∨ (j + 1) % 2 ≠ 0
  · left; rw [hlen]; exact hshort
  · right
    obtain ⟨m, rfl⟩ : ∃ m, j = 2 * m + 1 := ⟨(j - 1) / 2, by omega⟩
    have hm : m ≤ l.length := by omega
    have ht : (swords k l ++ [Lib.decDigits (fnv (textL k l))]).take (2 * m + 1) = swords k (l.take m) := by
      rw [List.take_append_of_le_length (by rw [swords_length]; omega), swords_take]
    rw [ht] at h3
    refine ⟨m, num k, q, by omega, hm, by rw [h3]; rfl, fun he => ?_⟩
    have hc := cut_seal k (l.take m)
    rw [he, h3] at hc
    have hq : q = Lib.decDigits (fnv (textL k (l.take m))) := by simpa using List.append_cancel_left hc
    rcases Nat.lt_or_ge m l.length with hlt | hge
    · rw [List.getElem?_append_left (by rw [swords_length]; omega), swords_key (List.getElem?_eq_getElem hlt), Option.some.injEq] at h1
      obtain ⟨g1, g2⟩ := hs m (by omega) _ (List.getElem?_eq_getElem hlt)
      rw [← h1, hq] at h2
      exact g2 (dec_prefix g1 h2)
    · have hml : l.take m = l := List.take_of_length_le hge
      rw [hml] at he
      exact hne he.symm
end Go.Proofs.YtaghjcdlghcjeaaGreatDoor
