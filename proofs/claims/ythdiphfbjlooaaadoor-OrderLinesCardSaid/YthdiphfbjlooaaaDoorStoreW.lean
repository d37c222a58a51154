/- The program's store: the walks. -/
import Derived.Test.YthdiphfbjlooaaaDoorProg
import Derived.Test.YthdiphfbjlooaaaDoorStoreP
import Derived.WalkSpells
import Derived.Deep.QuietTactic
import Derived.BigQuiet
import Derived.Deep.RegionLaw
import Derived.Deep.LoopGhost
import Derived.Deep.DeepCutAuto
namespace Go.Proofs.YthdiphfbjlooaaaDoor
open Go Go.RowKit Go.Sep

theorem right_any (k : Int) (w : World) : Calls Tryd.prog 48 #[.int .i64 k] w fun e w' => e = .returned (.bool (decide (keyOk k))) ∧ w = w' := by
  by_cases h0 : 0 ≤ k
  · go_enter Tryd.func48, Tryd.ntmps48
    go_wp2
    go_ret
    exact ⟨retB (by simp [keyOk, h0]), rfl⟩
  · go_enter Tryd.func48, Tryd.ntmps48
    go_wp2
    go_ret
    exact ⟨retB (decide_eq_false (by unfold keyOk; omega)).symm, rfl⟩

theorem Tryd.info38 : (Tryd.prog.info? 38).map (fun i => (i.zero, i.size, i.bytes)) = some (some (.agg #[.int .i64 0, .int .i64 0]), 2, 16) := by kernel_rfl

theorem last_any (b o : Nat) (last : Int) (w : World) (hc : w.cell? ⟨b, o + 10, none⟩ = some (.int .i64 last)) : Calls Tryd.prog 36 #[.pointer (some ⟨b, o, none⟩)] w fun e w' => e = .returned (.int .i64 last) ∧ w = w' := by
  go_enter Tryd.func36, Tryd.ntmps36
  go_wp2
  go_ret
  exact ⟨rfl, rfl⟩

/-- What Install leaves. -/
def InstPost (w0 : World) (b o : Nat) (V : List Vers) (last at_ : Int) (l : Vers) (L : List HProp) (e : Ending) (w' : World) : Prop :=
  if last < at_ ∧ at_ ≤ 1099511627776 then
    match badAt 0 l with
    | none => e = .returned .nilIface ∧ S w0 w' (storeP 38 b o (putAll at_ V l) at_ :: L)
    | some (x, p) => ∃ v, e = .returned v ∧ S w0 w' (errP 44 106 105 v (.at_ x p) :: storeP 38 b o V last :: L)
  else e = .returned (.iface 44 (.int .i64 10)) ∧ S w0 w' (storeP 38 b o V last :: L)

set_option maxHeartbeats 1000000 in
theorem install_any (w0 w : World) (b o : Nat) (V : List Vers) (last at_ : Int) (v : Value) (l : Vers) (L : List HProp) (N : Nat)
    (hs : S w0 w (storeP 38 b o V last :: L)) (hr : RdK w0 L v l.length (pcells l)) (hN : ∀ vs ∈ V, vs.length ≤ N) (hb : N + l.length ≤ 1000000) :
    Calls Tryd.prog 12 #[.pointer (some ⟨b, o, none⟩), .int .i64 at_, v] w (InstPost w0 b o V last at_ l L) := by
  have hc := hs.store_last.1
  by_cases h1 : at_ ≤ last
  · have hfin : ∀ e w', e = Ending.returned (.iface 44 (.int .i64 10)) ∧ w = w' → InstPost w0 b o V last at_ l L e w' := by
      rintro e w' ⟨rfl, rfl⟩; unfold InstPost; rw [if_neg (by omega)]; exact ⟨rfl, hs⟩
    refine Calls.mono (R := fun e w' => e = Ending.returned (.iface 44 (.int .i64 10)) ∧ w = w') ?_ hfin
    clear hfin hr hN hb hs
    go_enter Tryd.func12, Tryd.ntmps12
    go_wp2
    go_ret
    exact ⟨rfl, rfl⟩
  by_cases h2 : 1099511627776 < at_
  · have hfin : ∀ e w', e = Ending.returned (.iface 44 (.int .i64 10)) ∧ w = w' → InstPost w0 b o V last at_ l L e w' := by
      rintro e w' ⟨rfl, rfl⟩; unfold InstPost; rw [if_neg (by omega)]; exact ⟨rfl, hs⟩
    refine Calls.mono (R := fun e w' => e = Ending.returned (.iface 44 (.int .i64 10)) ∧ w = w') ?_ hfin
    clear hfin hr hN hb hs
    have h1' : last < at_ := by omega
    go_enter Tryd.func12, Tryd.ntmps12
    go_wp2
    go_ret
    exact ⟨rfl, rfl⟩
  have h1' : last < at_ := by omega
  have h2' : at_ ≤ 1099511627776 := by omega
  clear h1 h2
  obtain ⟨a, cap, hv, hcap, hcap', hrd⟩ := hr w hs.tail
  subst hv
  unfold maxLen at hcap'
  go_enter Tryd.func12, Tryd.ntmps12
  go_wp2
  go_loopw [26] (fun c wr => ∃ i : Nat, i ≤ l.length ∧ c = .int .i64 i ∧ badAt 0 l = badAt i (l.drop i) ∧ S w0 wr (storeP 38 b o V last :: L)) (fun c _ => l.length - (intOf c).toNat)
  case atStart => exact ⟨0, Nat.zero_le _, rfl, rfl, hs⟩
  case round =>
    obtain ⟨i, hi, rfl, hbad, hsr⟩ := hrel
    clear hc hrd
    by_cases hlt : i < l.length
    · have hp : l[i]? = some l[i] := by simp [hlt]
      generalize l[i] = p at hp
      obtain ⟨lb, lo, rfl, c1, c2⟩ := hr.pair hsr.tail hp
      have hd : l.drop i = p :: l.drop (i + 1) := by
        have := List.getElem?_eq_some_iff.1 hp
        rw [List.drop_eq_getElem_cons this.1, this.2]
      rw [hd] at hbad
      have HB := hid hbad; clear hbad
      have HD := hid hd; clear hd
      have HP := hid hp; clear hp
      have hs1 := (hsr.alloc #[.int .i64 p.1, .int .i64 p.2] 31).tail
      have herr : ∀ x : Int, badAt i (p :: l.drop (i + 1)) = some (x, (i : Int)) → InstPost w0 b o V last at_ l L (.returned (.iface 105 (.pointer (some ⟨wr.heap.size + 1, 0, none⟩)))) ((wr.alloc (.cells #[.int .i64 p.1, .int .i64 p.2] 31)).alloc (.cells #[.int .i64 x, .int .i64 i] 106)) := by
        intro x hx
        have hs2 := hs1.alloc #[.int .i64 x, .int .i64 i] 106
        rw [World.size_alloc] at hs2
        unfold InstPost
        rw [if_pos ⟨h1', h2'⟩, HB.out, hx]
        exact ⟨_, rfl, .ex_intro (wr.heap.size + 1) (.sep_intro (.pur_intro rfl hs2))⟩
      have HE := hid herr; clear herr
      by_cases hk : keyOk p.1
      · have hk1 : decide (keyOk p.1) = true := by simpa using hk
        by_cases hv : valOk p.2
        · have hv1 := hv.1
          have hv2 := hv.2
          go_wp2_with (first | (go_at_call 48; refine (right_any _ _).mono ?_; rintro e w' ⟨rfl, rfl⟩))
          go_roundw
          case rel => exact ⟨i + 1, by omega, by go_num, by rw [HB.out]; simp [badAt, hk, hv], hs1⟩
          case measure => simp [intOf]; omega
        · have hfin := HE.out 1 (by simp [badAt, hk, hv])
          have HF := hid hfin; clear hfin
          rcases (show p.2 < -1099511627776 ∨ (-1099511627776 ≤ p.2 ∧ 1099511627776 < p.2) by unfold valOk at hv; omega) with hv1 | ⟨hv0, hv1⟩
          · clear hv
            go_wp2_with (first | (go_at_call 48; refine (right_any _ _).mono ?_; rintro e w' ⟨rfl, rfl⟩))
            go_ret
            exact HF.out
          · clear hv
            go_wp2_with (first | (go_at_call 48; refine (right_any _ _).mono ?_; rintro e w' ⟨rfl, rfl⟩))
            go_ret
            exact HF.out
      · have hk1 : decide (keyOk p.1) = false := by simpa using hk
        have hfin := HE.out 2 (by simp [badAt, hk])
        have HF := hid hfin; clear hfin
        go_wp2_with (first | (go_at_call 48; refine (right_any _ _).mono ?_; rintro e w' ⟨rfl, rfl⟩))
        go_ret
        exact HF.out
    · have hil : i = l.length := by omega
      subst hil
      rw [List.drop_length] at hbad
      have hok := badAt_none (i := 0) (l := l) (by rw [hbad]; rfl)
      have HB := hid hbad; clear hbad
      have HO := hid hok; clear hok
      have HN := hid hN; clear hN
      go_wp2
      go_loopw [56] (fun c wr => ∃ i : Nat, i ≤ l.length ∧ c = .int .i64 i ∧ S w0 wr (storeP 38 b o (putAll at_ V (l.take i)) last :: L)) (fun c _ => l.length - (intOf c).toNat)
      case atStart => exact ⟨0, Nat.zero_le _, rfl, hsr⟩
      case round =>
        obtain ⟨i, hi, rfl, hsr⟩ := hrel
        by_cases hlt : i < l.length
        · have hp : l[i]? = some l[i] := by simp [hlt]
          have hokp := HO.out l[i] (List.getElem_mem hlt)
          have htk : l.take (i + 1) = l.take i ++ [l[i]] := by rw [List.take_succ_eq_append_getElem hlt]
          generalize l[i] = p at hp hokp htk
          obtain ⟨pk, pv⟩ := p
          obtain ⟨⟨hk0, hk1⟩, hv0, hv1⟩ := hokp
          simp only at hk0 hk1 hv0 hv1
          obtain ⟨k, rfl⟩ := Int.eq_ofNat_of_zero_le hk0
          have hk10 : k < 10 := by omega
          have hpa : putAll at_ V (l.take (i + 1)) = put1 at_ (putAll at_ V (l.take i)) (k, pv) := by rw [htk]; simp [putAll]
          have hle := putAll_le (at_ := at_) (l.take i) HN.out
          obtain ⟨v, vs, X, hVk, hsk, hcell, hback, hset, hmod⟩ := hsr.store_key k hk10
          have hvl : vs.length ≤ 1000000 := by
            have := hle vs (List.mem_of_getElem? hVk)
            rw [List.length_take] at this; omega
          obtain ⟨lb, lo, rfl, c1, c2⟩ := hr.pair hsk.tail.tail hp
          obtain ⟨c3, f3, hw0⟩ := hcell wr hsk.tail
          have hb1 := World.block_lt_of_cell? wr _ c1
          have hb3 := World.block_lt_of_cell? wr _ c3
          simp only at hb1 hb3
          have HP := hid hp; have HT := hid htk; have HPA := hid hpa; have HLE := hid hle; have HVK := hid hVk
          clear hp htk hpa hle hVk hsr
          have hput : ∀ vs', vs' = (if (vs.getLast?.map (·.1)) = some at_ then vs.dropLast ++ [(at_, pv)] else vs ++ [(at_, pv)]) → (putAll at_ V (l.take i)).set k vs' = putAll at_ V (l.take (i + 1)) := by
            intro vs' h'; rw [HPA.out, h']; unfold put1; simp only [Int.toNat_natCast, HVK.out, Option.getD_some]
          have HPUT := hid hput; clear hput
          have hs1 := (hsk.alloc #[.int .i64 (k : Int), .int .i64 pv] 31).tail
          have hs2 := hs1.drew
          by_cases hemp : vs = []
          · subst hemp
            obtain ⟨a0, cp, rfl, _, _, _⟩ := hsk.sl_val
            simp only [List.length_nil] at hsk c3 hset
            have hn0 : ¬ (0 : Int) > 0 := by omega
            obtain ⟨i0, hi0, hz0, hz1, hz2⟩ := info_parts Tryd.info38
            have hs3 : ∀ nq, S w0 (((wr.alloc (.cells #[.int .i64 (k : Int), .int .i64 pv] 31)).drewN nq).drew.alloc (.cells #[.int .i64 at_, .int .i64 pv] 38)) (blk (wr.heap.size + 1) 38 [.int .i64 at_, .int .i64 pv] :: blk wr.heap.size 31 [.int .i64 (k : Int), .int .i64 pv] :: sl 38 2 (.slice a0 0 cp) 0 [] :: X :: L) := by
              intro nq
              have h5 := (((hsk.alloc #[.int .i64 (k : Int), .int .i64 pv] 31).drewN nq).drew).alloc #[.int .i64 at_, .int .i64 pv] 38
              simpa [pcells] using h5
            have hn3 := fun nq => news_blk (hs3 nq)
            have hs4 := fun nq => (hs3 nq).tail.swap
            have hfin : ∀ w1 v', S w0 w1 (sl 38 2 v' (0 + 1) ([] ++ [.int .i64 at_, .int .i64 pv]) :: blk wr.heap.size 31 [.int .i64 (k : Int), .int .i64 pv] :: X :: L) → S w0 (w1.setCell ⟨b, o + k, none⟩ v') (storeP 38 b o (putAll at_ V (l.take (i + 1))) last :: L) := by
              intro w1 v' h5
              have h6 := hset w1 v' [(at_, pv)] L (by simpa [pcells] using h5.swap.tail)
              rwa [HPUT.out _ (by simp)] at h6
            have HF := hid hfin; clear hfin
            have H3 := hid hs4; have H4 := hid hn3; have HC := hid hcell
            clear hs4 hn3 hs3 hs1 hs2 hsk hback hset hmod hr hcell
            go_wp2_with (fail)
            go_quiet (fail)
            go_wp2_with fail
            go_region_law (refine step_append rfl (.tmp 91) (.tmp 96) 24 rfl 38 i0 _ 2 16 Tryd.underlying24 hi0 hz0 hz1 hz2 rfl (by decide) (H3.out _) rfl (some ⟨wr.heap.size + 1, 0, none⟩) 1 1 [.int .i64 at_, .int .i64 pv] rfl rfl (H4.out _) (by simp [Value.oneCell']) (by unfold maxLen; omega) (by omega) ?_; intro v1 w1 hs1; obtain ⟨a1, cp1, rfl, _, _, _⟩ := hs1.sl_val; obtain ⟨c9, f9, _⟩ := HC.out w1 hs1.tail.tail; have d1 := hs1.tail.blk_cell 0 rfl; have d2 := hs1.tail.blk_cell 1 rfl; have HS := hid (HF.out _ _ hs1); clear hs1)
            all_goals
              go_wp2_with fail
              go_roundw
              case rel => exact ⟨i + 1, by omega, by go_num, HS.out⟩
              case measure => simp [intOf]; omega
          · obtain ⟨vs0, ⟨qa, qv⟩, rfl⟩ : ∃ vs0 q, vs = vs0 ++ [q] := ⟨vs.dropLast, vs.getLast hemp, (List.dropLast_concat_getLast hemp).symm⟩
            obtain ⟨g, og, cp, rfl, hcp1, hcp2, hg0, hg1, hgc, hgf⟩ := hsk.sl_some (by rw [pcells_length]; simp)
            have hq := pcells_at (vs0 ++ [(qa, qv)]) vs0.length (qa, qv) (by simp)
            have hq1 := hgc _ _ hq.1
            have hq2 : wr.cell? ⟨g, og + vs0.length * 2 + 1, none⟩ = some (.int .i64 qv) := hgc _ _ hq.2
            simp only [List.length_append, List.length_cons, List.length_nil, Nat.zero_add] at hvl hcp1 c3 
            generalize hm : vs0.length = m at hq1 hq2 hvl hcp1 c3
            have HM := hid hm; clear hm
            clear hgc hemp hq
            unfold maxLen at hcp2
            by_cases hqa : qa = at_
            · subst hqa
              have hfin : ∀ nq, S w0 (((wr.alloc (.cells #[.int .i64 (k : Int), .int .i64 pv] 31)).drewN nq).setCell ⟨g, og + m * 2 + 1, none⟩ (.int .i64 pv)) (storeP 38 b o (putAll qa V (l.take (i + 1))) last :: L) := by
                intro nq
                have h5 := (hs1.drewN nq).sl_set (g := g) (o := og) (cap := cp) rfl (m * 2 + 1) (by rw [pcells_length, List.length_append, HM.out]; simp; omega) (.int .i64 pv)
                rw [← HM.out, pcells_set _ vs0.length (qa, qv) pv (by simp), List.set_append_right _ _ (Nat.le_refl _), Nat.sub_self, List.set_cons_zero] at h5
                have h6 := hmod _ (vs0 ++ [(qa, pv)]) _ (by simpa using h5)
                rw [HPUT.out _ (by simp), ← Nat.add_assoc, HM.out] at h6
                exact h6
              have HF := hid hfin; clear hfin hs1 hs2 hsk hback hset hmod hr hcell
              go_wp2_with (fail)
              go_quiet (fail)
              go_wp2_with fail
              go_roundw
              case rel => exact ⟨i + 1, by omega, by go_num, HF.out _⟩
              case measure => simp [intOf]; omega
            · have hqb : (qa == at_) = false := by simpa using hqa
              obtain ⟨i0, hi0, hz0, hz1, hz2⟩ := info_parts Tryd.info38
              have hs3 : ∀ nq, S w0 (((wr.alloc (.cells #[.int .i64 (k : Int), .int .i64 pv] 31)).drewN nq).drew.alloc (.cells #[.int .i64 at_, .int .i64 pv] 38)) (blk (wr.heap.size + 1) 38 [.int .i64 at_, .int .i64 pv] :: blk wr.heap.size 31 [.int .i64 (k : Int), .int .i64 pv] :: sl 38 2 (.slice (some ⟨g, og, none⟩) (m + 1) cp) (m + 1) (pcells (vs0 ++ [(qa, qv)])) :: X :: L) := by
                intro nq
                have h5 := (((hsk.alloc #[.int .i64 (k : Int), .int .i64 pv] 31).drewN nq).drew).alloc #[.int .i64 at_, .int .i64 pv] 38
                rw [← HM.out]
                simpa using h5
              have hn3 := fun nq => news_blk (hs3 nq)
              have hs4 := fun nq => (hs3 nq).tail.swap
              have hfin : ∀ w1 v', S w0 w1 (sl 38 2 v' (m + 1 + 1) (pcells (vs0 ++ [(qa, qv)]) ++ [.int .i64 at_, .int .i64 pv]) :: blk wr.heap.size 31 [.int .i64 (k : Int), .int .i64 pv] :: X :: L) → S w0 (w1.setCell ⟨b, o + k, none⟩ v') (storeP 38 b o (putAll at_ V (l.take (i + 1))) last :: L) := by
                intro w1 v' h5
                have h6 := hset w1 v' (vs0 ++ [(qa, qv)] ++ [(at_, pv)]) L (by rw [pcells_append]; simpa [HM.out, pcells] using h5.swap.tail)
                rwa [HPUT.out _ (by simp [hqa])] at h6
              have HF := hid hfin; clear hfin
              have H3 := hid hs4; have H4 := hid hn3; have HC := hid hcell
              clear hs4 hn3 hs3 hs1 hs2 hsk hback hset hmod hr hcell
              go_wp2_with (fail)
              go_quiet (fail)
              go_wp2_with fail
              go_region_law (refine step_append rfl (.tmp 91) (.tmp 96) 24 rfl 38 i0 _ 2 16 Tryd.underlying24 hi0 hz0 hz1 hz2 rfl (by decide) (H3.out _) rfl (some ⟨wr.heap.size + 1, 0, none⟩) 1 1 [.int .i64 at_, .int .i64 pv] rfl rfl (H4.out _) (by simp [Value.oneCell']) (by unfold maxLen; omega) (by omega) ?_; intro v1 w1 hs1; obtain ⟨a1, cp1, rfl, _, _, _⟩ := hs1.sl_val; obtain ⟨c9, f9, _⟩ := HC.out w1 hs1.tail.tail; have d1 := hs1.tail.blk_cell 0 rfl; have d2 := hs1.tail.blk_cell 1 rfl; have HS := hid (HF.out _ _ hs1); clear hs1)
              all_goals
                go_wp2_with fail
                go_roundw
                case rel => exact ⟨i + 1, by omega, by go_num, HS.out⟩
                case measure => simp [intOf]; omega
        · have hil : i = l.length := by omega
          subst hil
          rw [List.take_length] at hsr
          obtain ⟨c9, f9, hl9⟩ := hsr.store_last
          have hfin : InstPost w0 b o V last at_ l L (.returned .nilIface) (wr.setCell ⟨b, o + 10, none⟩ (.int .i64 at_)) := by
            unfold InstPost; rw [if_pos ⟨h1', h2'⟩, HB.out]; exact ⟨rfl, hl9 at_⟩
          have HF := hid hfin; clear hfin hl9 hsr
          go_wp2_with fail
          go_ret
          exact HF.out
end Go.Proofs.YthdiphfbjlooaaaDoor
