/- order.Line, walked. -/
import Derived.Test.YthdiphfbjlooaaaDoorOrdE
import Derived.Test.YthdiphfbjlooaaaDoorOrdLaw3
import Derived.Deep.RegionHeld3
import Derived.Deep.DeepCutAuto
import Derived.Deep.LoopGhost
namespace Go.Proofs.YthdiphfbjlooaaaDoor
open Go Go.RowKit Go.Sep

def LinePost (w0 : World) (l : List Op1) (L : List HProp) (e : Ending) (w' : World) : Prop :=
  if 0 ≤ badIx l then ∃ v, e = .returned (.tuple #[.slice none 0 0, v]) ∧ S w0 w' (errP 44 106 105 v (.at_ 2 (badIx l)) :: L)
  else match l.findIdx? (lostRead l) with
    | some k => ∃ v, e = .returned (.tuple #[.slice none 0 0, v]) ∧ S w0 w' (errP 44 106 105 v (.at_ 1 k) :: L)
    | none => ∃ es, EdgesOf l es ∧ match lineL es (txsOf l).length (txsOf l) with
      | some out => ∃ v, e = .returned (.tuple #[v, .nilIface]) ∧ out.length ≤ 900 ∧ S w0 w' (sl 3 1 v out.length (icells out) :: L)
      | none => e = .returned (.tuple #[.slice none 0 0, .iface 44 (.int .i64 11)]) ∧ S w0 w' L

set_option maxRecDepth 40000 in
set_option maxHeartbeats 8000000 in
theorem line_any (w0 w : World) (v : Value) (l : List Op1) (L : List HProp) (hs : S w0 w L) (hr : RdK w0 L v l.length (fcells ocells l)) (hb : l.length ≤ 900)
    (hbd : ∀ o ∈ l, o.tx ≤ 9223372036854775807 ∧ o.fr ≤ 9223372036854775807) :
    Calls Tryd.prog 26 #[v] w (LinePost w0 l L) := by
  obtain ⟨a, cap, hv, hcap, hcap2, _⟩ := hr w hs
  subst hv
  unfold maxLen at hcap2
  have hcall := edges_any w0 w _ l L hs hr hb hbd
  have HC := hid hcall; have HR := hid hr
  clear hcall hr hs hbd
  go_enter Tryd.func26, Tryd.ntmps26
  go_wp2_with fail
  with_reducible refine HC.out.mono ?_
  intro e w1 h
  clear HC
  unfold EdgesPost at h
  by_cases hbx : 0 ≤ badIx l
  · rw [if_pos hbx] at h
    obtain ⟨v1, rfl, hs1⟩ := h
    obtain ⟨g, hs2⟩ := hs1.ex_elim
    obtain ⟨rfl, hs3⟩ := hs2.sep_elim.pur_elim
    have H1 := hid hs1; have HB := hid hbx
    clear hs1 hs2 hs3 hbx
    go_wp2_with fail
    go_ret2
    unfold LinePost
    rw [if_pos HB.out]
    exact ⟨_, rfl, H1.out⟩
  · rw [if_neg hbx] at h
    have hPost : ∀ e w', (match l.findIdx? (lostRead l) with
        | some k => ∃ v, e = Ending.returned (.tuple #[.slice none 0 0, v]) ∧ S w0 w' (errP 44 106 105 v (.at_ 1 k) :: L)
        | none => ∃ es, EdgesOf l es ∧ match lineL es (txsOf l).length (txsOf l) with
          | some out => ∃ v, e = Ending.returned (.tuple #[v, .nilIface]) ∧ out.length ≤ 900 ∧ S w0 w' (sl 3 1 v out.length (icells out) :: L)
          | none => e = Ending.returned (.tuple #[.slice none 0 0, .iface 44 (.int .i64 11)]) ∧ S w0 w' L) → LinePost w0 l L e w' := by
      intro e w' h
      unfold LinePost
      rw [if_neg hbx]
      exact h
    have hpos : ∀ x ∈ txsOf l, 1 ≤ x := by
      intro x hx
      obtain ⟨o, ho, rfl⟩ := (txsOf_mem l x).1 hx
      rcases badIx_cases l with ⟨_, h2⟩ | ⟨k, h2, _⟩
      · have := h2 o ho
        simp only [badOp, decide_eq_false_iff_not] at this
        omega
      · omega
    have HP := hid hPost; have HPOS := hid hpos
    clear hPost hpos hbx
    cases hfi : l.findIdx? (lostRead l) with
    | some k =>
      rw [hfi] at h
      obtain ⟨v1, rfl, hs1⟩ := h
      obtain ⟨g, hs2⟩ := hs1.ex_elim
      obtain ⟨rfl, hs3⟩ := hs2.sep_elim.pur_elim
      have H1 := hid hs1
      have HFI := hid hfi
      clear hs1 hs2 hs3 hfi
      go_wp2_with fail
      go_ret2
      refine HP.out _ _ ?_
      rw [HFI.out]
      exact ⟨_, rfl, H1.out⟩
    | none =>
      rw [hfi] at h
      obtain ⟨v1, es, rfl, hES, hel, hs1⟩ := h
      obtain ⟨a1, c1, rfl, hc1, hc2, _⟩ := hs1.sl_val
      unfold maxLen at hc2
      have hlost : ∀ o ∈ l, lostRead l o = false := by
        rw [List.findIdx?_eq_none_iff] at hfi
        intro o ho; simpa using hfi o ho
      have htx : ∀ e ∈ es, e.1 ∈ txsOf l ∧ e.2 ∈ txsOf l := fun e he => by
        obtain ⟨x, y⟩ := ((hES.2 e).1 he).txs hlost
        exact ⟨(txsOf_mem _ _).2 x, (txsOf_mem _ _).2 y⟩
      have HTX := hid htx; have HES := hid hES; have HFI := hid hfi
      have hs2 := (hs1.made (enc := Sep.encI) (ok := fun _ => True))
      have H2 : Hid (S w0 (w1.alloc (.map #[] 0)) (mp Sep.encI (fun _ => True) w1.heap.size (ienc (tabF (txsOf (l.take 0)) fun _ => 0)) :: sl 31 2 (.slice a1 es.length c1) es.length (pcells es) :: L)) := hid hs2
      have hmm := @run_makeMap Tryd.prog
      clear hs1 hs2 hlost htx hES hfi
      go_wp2_with fail
      clear hmm
      go_loopw [28] (fun iv wr => ∃ i : Nat, i ≤ l.length ∧ iv = .int .i64 i ∧ S w0 wr (mp Sep.encI (fun _ => True) w1.heap.size (ienc (tabF (txsOf (l.take i)) fun _ => 0)) :: sl 31 2 (.slice a1 es.length c1) es.length (pcells es) :: L)) (fun iv _ => l.length - (intOf iv).toNat)
      case atStart => exact ⟨0, Nat.zero_le _, rfl, H2.out⟩
      case round =>
        obtain ⟨i, hi, rfl, hsr⟩ := hrel
        clear H2
        by_cases hlt : i < l.length
        · have hp : l[i]? = some l[i] := by simp [hlt]
          generalize l[i] = p at hp
          obtain ⟨ob, oo, rfl, hcell⟩ := HR.out.fc ocells_length hsr.tail.tail hp (by omega)
          have htz := tab_zero l i p hp
          obtain ⟨tx, key, wr', fr⟩ := p
          have d0 := hcell _ hsr.tail.tail 0 _ rfl
          have d1 := hcell _ hsr.tail.tail 1 _ rfl
          have d2 := hcell _ hsr.tail.tail 2 _ rfl
          have d3 := hcell _ hsr.tail.tail 3 _ rfl
          simp only [Nat.add_zero] at d0 d1 d2 d3
          have hs3 := hsr.alloc #[.int .i64 tx, .int .i64 key, .bool wr', .int .i64 fr] 65
          have l1 := Tryd.look1 hs3.swap.mapAt tx
          have hg0 : (mget (tabF (txsOf (l.take i)) fun _ => 0) tx).getD 0 = 0 := by rw [tabF_get]; split <;> rfl
          rw [hg0] at l1
          obtain ⟨w2, u2, hs4⟩ := hs3.swap.put Tryd.keyInt Tryd.underlying48 tx trivial (Sep.encI 0)
          rw [ienc_put, htz] at hs4
          simp only [Sep.encI] at u2
          have H4 := hid hs4.swap.tail
          clear hsr hs3 hs4 hcell htz hg0 hp
          go_wp2_with fail
          go_roundw
          case rel => exact ⟨i + 1, by omega, by go_num, H4.out⟩
          case measure => simp [intOf]; omega
        · --P2
          obtain rfl : i = l.length := by omega
          rw [List.take_length] at hsr
          have hi0 : tabF (txsOf l) (into (es.take 0)) = tabF (txsOf l) fun _ => 0 := tabF_congr fun x _ => by simp [into]
          rw [← hi0] at hsr
          have H3 := hid hsr
          clear hsr hi0
          go_wp2_with fail
          go_loopw [40] (fun iv wr => ∃ i : Nat, i ≤ es.length ∧ iv = .int .i64 i ∧ S w0 wr (mp Sep.encI (fun _ => True) w1.heap.size (ienc (tabF (txsOf l) (into (es.take i)))) :: sl 31 2 (.slice a1 es.length c1) es.length (pcells es) :: L)) (fun iv _ => es.length - (intOf iv).toNat)
          case atStart => exact ⟨0, Nat.zero_le _, rfl, H3.out⟩
          case round =>
            obtain ⟨i, hi, rfl, hsr⟩ := hrel
            clear H3
            by_cases hlt : i < es.length
            · have hp : es[i]? = some es[i] := by simp [hlt]
              generalize es[i] = p at hp
              obtain ⟨g, og, rfl, _, d0, d1⟩ := hsr.swap.sl_pair hp
              have hmem := (HTX.out p (List.mem_of_getElem? hp)).2
              have hle : 0 ≤ into (es.take i) p.2 ∧ into (es.take i) p.2 ≤ 1000000 := by
                unfold into
                have := List.length_filter_le (fun e : Int × Int => decide (e.2 = p.2)) (es.take i)
                rw [List.length_take] at this
                omega
              have hs3 := hsr.alloc #[.int .i64 p.1, .int .i64 p.2] 31
              have l1 := Tryd.look1 hs3.swap.mapAt p.2
              rw [tabF_get, if_pos hmem] at l1
              simp only [Option.getD_some] at l1
              obtain ⟨w2, u2, hs4⟩ := hs3.swap.put Tryd.keyInt Tryd.underlying48 p.2 trivial (Sep.encI (into (es.take i) p.2 + 1))
              have hput : mput (tabF (txsOf l) (into (es.take i))) p.2 (into (es.take i) p.2 + 1) = tabF (txsOf l) (into (es.take (i + 1))) := by
                rw [tabF_put _ hmem]
                apply tabF_congr
                intro x _
                rw [take_succ_get hp, into_snoc]
                by_cases e : x = p.2
                · simp [e]
                · simp [e]
              rw [ienc_put, hput] at hs4
              simp only [Sep.encI] at u2
              generalize into (es.take i) p.2 = c at hle l1 u2 hput
              have hwc : IntKind.i64.wrap (c + 1) = c + 1 := IntWalk.i64_in _ (by omega)
              have H4 := hid hs4.swap.tail
              clear hsr hs3 hs4 hput hmem hp
              go_wp2_with fail
              go_roundw
              case rel => exact ⟨i + 1, by omega, by go_num, H4.out⟩
              case measure => simp [intOf]; omega
            · --P3
              obtain rfl : i = es.length := by omega
              rw [List.take_length] at hsr
              have hin : tabF (txsOf l) (into es) = tabF (txsOf l) (indeg es (txsOf l)) := tabF_congr fun x _ => (indeg_all (fun e he => (HTX.out e he).1) x).symm
              rw [hin] at hsr
              have hL2 := Left2.start (l := l) (es := es) fun e he => (HTX.out e he).2
              have hts := txsOf_le l
              have HL2 := hid hL2
              have H5 := hid (hsr.sl_nil (e := 3) (size := 1))
              clear hsr hin hL2
              go_wp2_with fail
              go_loopg [11] ((txsOf l).length) (fun n ov wr => ∃ (rem out : List Int), Hid (Left2 es l rem out) ∧ rem.length ≤ n ∧ rem.length + out.length ≤ 900 ∧
                S w0 wr (sl 3 1 ov out.length (icells out) :: mp Sep.encI (fun _ => True) w1.heap.size (ienc (tabF rem (indeg es rem))) :: sl 31 2 (.slice a1 es.length c1) es.length (pcells es) :: L))
              case atStart => exact ⟨txsOf l, [], HL2, Nat.le_refl _, by simp; omega, H5.out⟩
              case round =>
                obtain ⟨rem, out, hL2, hrn, hro, hsr⟩ := hrel
                obtain ⟨gm, hgm⟩ : ∃ m, m = gk := ⟨_, rfl⟩
                clear H5 HL2
                have hln := run_len_at (P := Tryd.prog) (t := 48) (ty := 3) Tryd.underlying48 hsr.swap.mapAt
                have hll : (ienc (tabF rem (indeg es rem))).length = rem.length := by simp [ienc, tabF]
                rw [hll] at hln
                by_cases hr0 : rem = []
                · subst hr0
                  have hd := hL2.out.done
                  obtain ⟨ao, co, rfl, _, _, _⟩ := hsr.sl_val
                  have HD := hid hd; have H6 := hid hsr
                  clear hd hsr hll
                  simp only [List.length_nil] at hln
                  go_wp2_with fail
                  go_ret2
                  refine HP.out _ _ ?_
                  rw [HFI.out]
                  refine ⟨es, HES.out, ?_⟩
                  rw [HD.out]
                  exact ⟨_, rfl, by omega, (H6.out.conv (M := mp Sep.encI (fun _ => True) w1.heap.size (ienc (tabF [] (indeg es []))) :: sl 31 2 (.slice a1 es.length c1) es.length (pcells es) :: sl 3 1 (.slice ao out.length co) out.length (icells out) :: L) (by simp only [all]; ac_rfl)).tail.tail⟩
                · have hrl : 0 < rem.length := List.length_pos_iff.2 hr0
                  obtain ⟨ao, co, rfl, hco, hco2, _⟩ := hsr.sl_val
                  obtain ⟨w3, ur, hs3⟩ := hsr.swap.range (P := Tryd.prog) Tryd.underlying48
                  have hT : ∀ p ∈ tabF rem (indeg es rem), 0 ≤ p.1 := fun p hp => by
                    obtain ⟨x, hx, rfl⟩ := List.mem_map.1 hp
                    have := HPOS.out x (hL2.out.sub x hx)
                    show 0 ≤ x; omega
                  have hTl : (tabF rem (indeg es rem)).length = rem.length := by simp [tabF]
                  have H6 := hid hs3; have HT := hid hT; have HTL := hid hTl; have HR0 := hid hr0
                  clear hsr hs3 hll hT hTl hr0
                  go_wp2_with fail
                  clear ur hln
                  generalize hTe : tabF rem (indeg es rem) = T at H6 HT HTL
                  have HTE := hid hTe
                  clear hTe
                  go_loopg [12] (rem.length) (fun n bv wx => ∃ (best : Int) (dn : List (Int × Int)), bv = .int .i64 best ∧ rem.length ≤ dn.length + n ∧ Hid (Best best dn) ∧
                    S w0 wx (ranging Sep.encI (fun _ => True) w1.heap.size wr.heap.size (ienc T) (ienc dn) :: sl 3 1 (.slice ao out.length co) out.length (icells out) :: sl 31 2 (.slice a1 es.length c1) es.length (pcells es) :: L))
                  case atStart => exact ⟨-1, [], rfl, by simp, hid Best.start, H6.out⟩
                  case round =>
                    obtain ⟨best, dn, rfl, hn, hbest, hsr⟩ := hrel
                    clear H6
                    rcases hsr.next Tryd.keyInt (ty := 0) with ⟨d, w4, hd1, hd2, hr, hs4⟩ | ⟨hall, hr⟩
                    · obtain ⟨p, hp, rfl⟩ := ienc_mem hd1
                      have hent := hs4.entry (P := Tryd.prog)
                      rw [ienc_snoc] at hs4
                      simp only [Sep.encI] at hr hent
                      have hlen : (dn ++ [p]).length ≤ rem.length := by
                        have h1 := hs4.ranging_sub
                        have h2 := nodup_leO h1.1 h1.2.1
                        rw [← HTL.out]
                        simpa [ienc] using h2
                      rw [List.length_append, List.length_singleton] at hlen
                      have hsn := hbest.out.snoc p (HT.out p hp)
                      obtain ⟨k, c⟩ := p
                      simp only at hr hent hsn
                      have HS := hid hsn; have H7 := hid hs4
                      clear hsr hs4 hd1 hd2 hp hsn hbest
                      by_cases hc : c = 0
                      · subst hc
                        have hbe : ((0 : Int) == 0) = true := rfl
                        by_cases hb0 : best < 0
                        · have HS2 := HS.out
                          rw [if_pos ⟨rfl, .inl hb0⟩] at HS2
                          have HS3 := hid HS2
                          clear HS HS2
                          go_wp2_with fail
                          go_roundg (gk - 1)
                          case measure => omega
                          case rel => exact ⟨k, dn ++ [(k, 0)], rfl, by rw [List.length_append, List.length_singleton]; omega, HS3, H7.out⟩
                        · have hb1 : 0 ≤ best := by omega
                          by_cases hk : k < best
                          · have HS2 := HS.out
                            rw [if_pos ⟨rfl, .inr hk⟩] at HS2
                            have HS3 := hid HS2
                            clear HS HS2
                            go_wp2_with fail
                            go_roundg (gk - 1)
                            case measure => omega
                            case rel => exact ⟨k, dn ++ [(k, 0)], rfl, by rw [List.length_append, List.length_singleton]; omega, HS3, H7.out⟩
                          · have hk1 : best ≤ k := by omega
                            have HS2 := HS.out
                            rw [if_neg (by omega)] at HS2
                            have HS3 := hid HS2
                            clear HS HS2
                            go_wp2_with fail
                            go_roundg (gk - 1)
                            case measure => omega
                            case rel => exact ⟨best, dn ++ [(k, 0)], rfl, by rw [List.length_append, List.length_singleton]; omega, HS3, H7.out⟩
                      · have hbe : (c == 0) = false := by simpa using hc
                        have HS2 := HS.out
                        rw [if_neg (fun h => hc h.1)] at HS2
                        have HS3 := hid HS2
                        clear HS HS2 hc
                        go_wp2_with fail
                        go_roundg (gk - 1)
                        case measure => omega
                        case rel => exact ⟨best, dn ++ [(k, c)], rfl, by rw [List.length_append, List.length_singleton]; omega, HS3, H7.out⟩
                    · obtain ⟨hpd, hs4⟩ := hsr.range_over hall
                      have hpm := ienc_perm hpd
                      rw [← HTE.out] at hpm
                      have hba := hbest.out.all hpm
                      rw [← HTE.out] at hs4
                      clear hsr hall hpd hpm hbest hn
                      rcases hba with ⟨rfl, hf⟩ | ⟨hb0, hbm, hbf, hbl⟩
                      · have hst := hL2.out.stuck HR0.out hf
                        have HST := hid hst; have H7 := hid hs4.tail.tail.tail
                        clear hst hs4 hf
                        go_wp2_with fail
                        go_ret2
                        refine HP.out _ _ ?_
                        rw [HFI.out]
                        refine ⟨es, HES.out, ?_⟩
                        rw [HST.out]
                        exact ⟨rfl, H7.out⟩
                      · obtain ⟨hst, hdn⟩ := hL2.out.step hbm hbf hbl
                        obtain ⟨w5, u5, hs5⟩ := hs4.del Tryd.keyInt (ty := 0) Tryd.underlying48 best trivial
                        rw [ienc_del, tabF_del] at hs5
                        simp only [Sep.encI] at u5
                        have hlt := filter_ne_length hbm
                        have his := fun x => indeg_step hbm x es
                        have hib : ∀ x, 0 ≤ indeg es rem x ∧ indeg es rem x ≤ 1000000 := fun x => by have := indeg_nonneg es rem x; omega
                        generalize hre : rem.filter (fun x => decide (x ≠ best)) = rem2 at hst hdn hs5 hlt his
                        have hz : tabF rem2 (indeg es rem) = tabF rem2 fun x => indeg es rem x - outOf (es.take 0) best x := tabF_congr fun x _ => by simp [outOf]
                        rw [hz] at hs5
                        have HST := hid hst; have HDN := hid hdn; have HIS := hid his; have HIB := hid hib; have H8 := hid hs5
                        clear hst hdn hs4 hs5 hbm hbf hbl hre his hz hib
                        go_wp2_with fail
                        go_loopw [79] (fun iv wx => ∃ i : Nat, i ≤ es.length ∧ iv = .int .i64 i ∧ S w0 wx (mp Sep.encI (fun _ => True) w1.heap.size (ienc (tabF rem2 fun x => indeg es rem x - outOf (es.take i) best x)) :: sl 3 1 (.slice ao out.length co) out.length (icells out) :: sl 31 2 (.slice a1 es.length c1) es.length (pcells es) :: L)) (fun iv _ => es.length - (intOf iv).toNat)
                        case atStart => exact ⟨0, Nat.zero_le _, rfl, H8.out⟩
                        case round =>
                          rename World => wx
                          obtain ⟨i, hi, rfl, hsr⟩ := hrel
                          clear H8
                          by_cases hlt2 : i < es.length
                          · have hp : es[i]? = some es[i] := by simp [hlt2]
                            generalize es[i] = p at hp
                            obtain ⟨g, og, rfl, _, d0, d1⟩ := hsr.rot3.sl_pair hp
                            have hs3 := hsr.alloc #[.int .i64 p.1, .int .i64 p.2] 31
                            have htk : es.take (i + 1) = es.take i ++ [p] := take_succ_get hp
                            by_cases hpb : p.1 = best
                            · have hmem := HDN.out p (List.mem_of_getElem? hp) hpb
                              have hle := HIB.out p.2
                              have hol := outOf_le (es.take i) best p.2
                              have htl : (es.take i).length ≤ 1000000 := by rw [List.length_take]; omega
                              have l1 := Tryd.look1 hs3.swap.mapAt p.2
                              rw [tabF_get, if_pos hmem] at l1
                              simp only [Option.getD_some] at l1
                              obtain ⟨w6, u6, hs6⟩ := hs3.swap.put Tryd.keyInt Tryd.underlying48 p.2 trivial (Sep.encI (indeg es rem p.2 - outOf (es.take i) best p.2 - 1))
                              have hput : mput (tabF rem2 fun x => indeg es rem x - outOf (es.take i) best x) p.2 (indeg es rem p.2 - outOf (es.take i) best p.2 - 1) = tabF rem2 fun x => indeg es rem x - outOf (es.take (i + 1)) best x := by
                                rw [tabF_put _ hmem]
                                apply tabF_congr
                                intro x _
                                rw [htk, outOf_snoc]
                                by_cases e : x = p.2
                                · simp [e, hpb]; omega
                                · simp [e]
                              rw [ienc_put, hput] at hs6
                              simp only [Sep.encI] at u6
                              have hcc : -1000000 ≤ indeg es rem p.2 - outOf (es.take i) best p.2 ∧ indeg es rem p.2 - outOf (es.take i) best p.2 ≤ 1000000 := by omega
                              generalize indeg es rem p.2 - outOf (es.take i) best p.2 = c at l1 u6 hput hcc
                              have hwc : IntKind.i64.wrap (c - 1) = c - 1 := IntWalk.i64_in _ (by omega)
                              have hbe : (p.1 == best) = true := by simpa using hpb
                              have H9 := hid hs6.swap.tail
                              clear hsr hs3 hs6 hput hmem hp hle hol htl htk hpb
                              go_wp2_with fail
                              go_roundw
                              case rel => exact ⟨i + 1, by omega, by go_num, H9.out⟩
                              case measure => simp [intOf]; omega
                            · have hbe : (p.1 == best) = false := by simpa using hpb
                              have hco2 : tabF rem2 (fun x => indeg es rem x - outOf (es.take i) best x) = tabF rem2 fun x => indeg es rem x - outOf (es.take (i + 1)) best x := by
                                apply tabF_congr
                                intro x _
                                rw [htk, outOf_snoc]
                                simp [hpb]
                              rw [hco2] at hs3
                              have H9 := hid hs3.tail
                              clear hsr hs3 hp hpb hco2 htk
                              go_wp2_with fail
                              go_roundw
                              case rel => exact ⟨i + 1, by omega, by go_num, H9.out⟩
                              case measure => simp [intOf]; omega
                          · --P4
                            obtain rfl : i = es.length := by omega
                            have hfin : tabF rem2 (fun x => indeg es rem x - outOf (es.take es.length) best x) = tabF rem2 (indeg es rem2) := by
                              apply tabF_congr
                              intro x _
                              rw [List.take_length]; exact HIS.out x
                            rw [hfin] at hsr
                            have hs5 := hsr.swap.alloc #[.int .i64 best] 3
                            have hn5 := news_blk hs5
                            have H9 := hid hs5.tail; have HN := hid hn5
                            obtain ⟨i0, hi0, hz0, hz1, hz2⟩ := info_parts Tryd.info3
                            have hil := icells_length out
                            have HL := hid hil
                            clear hsr hs5 hn5 hfin hil
                            go_wp2_with (at_builtin; refine wpList_append rfl (.tmp 93) (.tmp 95) 41 rfl 3 i0 _ 1 8 Tryd.underlying41 hi0 hz0 hz1 hz2 rfl (by decide) H9.out rfl (some ⟨wx.heap.size, 0, none⟩) 1 1 [.int .i64 best] rfl rfl HN.out (by simp [Value.oneCell']) (by unfold maxLen; omega) (by omega) ?_; intro v1 w5 hs6; have H6 := hid hs6; clear hs6)
                            go_roundg (gm - 1)
                            case measure => omega
                            case rel => exact ⟨rem2, out ++ [best], HST, by omega, by rw [List.length_append, List.length_singleton]; omega, by rw [List.length_append, icells_append]; exact H6.out⟩
end Go.Proofs.YthdiphfbjlooaaaDoor
