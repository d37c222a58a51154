/- The reference's line, walked. -/
import Derived.Test.YthdiphfbjlooaaaDoorOrdT
import Derived.Test.YthdiphfbjlooaaaDoorOrdL
namespace Go.Proofs.YthdiphfbjlooaaaDoor
open Go Go.RowKit Go.Sep

def RLinePost (w0 : World) (l : List Op1) (L : List HProp) (e : Ending) (w' : World) : Prop :=
  if 0 ≤ badIx l then e = .returned (.tuple #[.slice none 0 0, .agg #[.int .i64 2, .int .i64 (badIx l)]]) ∧ S w0 w' L
  else match l.findIdx? (lostRead l) with
    | some k => e = .returned (.tuple #[.slice none 0 0, .agg #[.int .i64 1, .int .i64 k]]) ∧ S w0 w' L
    | none => ∃ es, EdgesOf l es ∧ match lineL es (txsOf l).length (txsOf l) with
      | some out => ∃ v, e = .returned (.tuple #[v, .agg #[.int .i64 0, .int .i64 (-1)]]) ∧ out.length ≤ 900 ∧ S w0 w' (sl 3 1 v out.length (icells out) :: L)
      | none => e = .returned (.tuple #[.slice none 0 0, .agg #[.int .i64 11, .int .i64 (-1)]]) ∧ S w0 w' L
theorem Tryd.zero_bool (w : World) : (zeroValue 4).run Tryd.prog w = .ok (.bool false) w := by kernel_rfl
theorem Tryd.lookT {w : World} {b : Nat} {ts : List Int} (h : Sep.MapAt Sep.encI (fun _ => True) w b (tabT ts)) (k : Int) :
    (Instr.lookup 67 (.map (some b)) (.int .i64 k) false).run Tryd.prog w = .ok (.bool (decide (k ∈ ts))) w := by
  have := run_lookup_at Tryd.keyInt Tryd.underlying67 (Tryd.zero_bool w) h k trivial false
  rw [tabT_get] at this
  by_cases hk : k ∈ ts
  · rw [if_pos hk] at this; simpa [Sep.encI, hk] using this
  · rw [if_neg hk] at this; simpa [Sep.encI, hk] using this
theorem tabT_snoc (ts : List Int) (x : Int) : tabT ts ++ [(x, .bool true)] = tabT (ts ++ [x]) := by simp [tabT]
theorem tabT_mem {ts : List Int} {d : Int × Value} (h : d ∈ tabT ts) : ∃ x ∈ ts, d = (x, .bool true) := by
  obtain ⟨x, hx, rfl⟩ := List.mem_map.1 h; exact ⟨x, hx, rfl⟩
theorem tabT_perm {a b : List Int} (h : (tabT a).Perm (tabT b)) : a.Perm b := by
  have := h.map (·.1)
  rwa [tabT_keys, tabT_keys] at this

set_option maxRecDepth 100000 in
set_option maxHeartbeats 16000000 in
theorem rline_any (w0 w : World) (v : Value) (l : List Op1) (L : List HProp) (hs : S w0 w L) (hr : RdK w0 L v l.length (fcells ocells l)) (hb : l.length ≤ 900) :
    Calls Tryd.prog 46 #[v] w (RLinePost w0 l L) := by
  obtain ⟨a, cap, rfl, hcap, hcap2, _⟩ := hr w hs
  unfold maxLen at hcap2
  have hs1 := hs.alloc #[.int .i64 0, .int .i64 0] 79
  have hcall := redges_any w0 _ _ l _ hs1 (RdK.more hr _) hb
  have HC := hid hcall; have HR := hid hr
  clear hs hr hs1 hcall
  go_enter Tryd.func46, Tryd.ntmps46
  go_wp2_with fail
  with_reducible refine HC.out.mono ?_
  intro e w1 h
  clear HC
  unfold REdgesPost at h
  have hret : ∀ (x p : Int) W, S w0 W (blk w.heap.size 79 [.int .i64 0, .int .i64 0] :: L) → W.cell? ⟨w.heap.size, 0, none⟩ = some (.int .i64 0) ∧ W.cell? ⟨w.heap.size, 1, none⟩ = some (.int .i64 0) ∧ W.frozen? ⟨w.heap.size, 0, none⟩ = false ∧ W.frozen? ⟨w.heap.size, 1, none⟩ = false ∧
      ((W.setCell ⟨w.heap.size, 0, none⟩ (.int .i64 x)).setCell ⟨w.heap.size, 1, none⟩ (.int .i64 p)).cell? ⟨w.heap.size, 0, none⟩ = some (.int .i64 x) ∧ ((W.setCell ⟨w.heap.size, 0, none⟩ (.int .i64 x)).setCell ⟨w.heap.size, 1, none⟩ (.int .i64 p)).cell? ⟨w.heap.size, 1, none⟩ = some (.int .i64 p) ∧
      S w0 ((W.setCell ⟨w.heap.size, 0, none⟩ (.int .i64 x)).setCell ⟨w.heap.size, 1, none⟩ (.int .i64 p)) L := fun x p W h => by
    have hse := (h.blk_set 0 (by simp) (.int .i64 x)).blk_set 1 (by simp) (.int .i64 p)
    exact ⟨h.blk_cell 0 rfl, h.blk_cell 1 rfl, h.blk_free 0, h.blk_free 1, hse.blk_cell 0 rfl, hse.blk_cell 1 rfl, hse.tail⟩
  have HRET := hid hret
  clear hret
  by_cases hbx : 0 ≤ badIx l
  · rw [if_pos hbx] at h
    obtain ⟨rfl, hs1⟩ := h
    obtain ⟨x, hx⟩ : ∃ x, x = badIx l := ⟨_, rfl⟩
    rw [← hx]
    have h2 := (hs1.alloc #[.int .i64 2, .int .i64 x] 79)
    have g0 := h2.blk_cell 0 rfl
    have g1 := h2.blk_cell 1 rfl
    obtain ⟨e0, e1, f0, f1, r0, r1, hf⟩ := HRET.out 2 x _ h2.tail
    have hpo : ∀ W, S w0 W L → RLinePost w0 l L (.returned (.tuple #[.slice none 0 0, .agg #[.int .i64 2, .int .i64 x]])) W := fun W h => by unfold RLinePost; rw [if_pos hbx, ← hx]; exact ⟨rfl, h⟩
    have HPO := hid hpo; have HF := hid hf
    clear hs1 h2 hpo hf hbx hx HRET
    go_wp2_with fail
    go_region
    all_goals
      go_wp2_with fail
      exact bodyPost_ret (v := .tuple #[.slice none 0 0, .agg #[.int .i64 2, .int .i64 x]]) (by simp [results, Tryd.results46, go_sem, r0, r1]) rfl (HPO.out _ (by first | exact HF.out | exact HF.out.drew))
  · rw [if_neg hbx] at h
    have hPost : ∀ e w', (match l.findIdx? (lostRead l) with
        | some k => e = Ending.returned (.tuple #[.slice none 0 0, .agg #[.int .i64 1, .int .i64 k]]) ∧ S w0 w' L
        | none => ∃ es, EdgesOf l es ∧ match lineL es (txsOf l).length (txsOf l) with
          | some out => ∃ v, e = Ending.returned (.tuple #[v, .agg #[.int .i64 0, .int .i64 (-1)]]) ∧ out.length ≤ 900 ∧ S w0 w' (sl 3 1 v out.length (icells out) :: L)
          | none => e = Ending.returned (.tuple #[.slice none 0 0, .agg #[.int .i64 11, .int .i64 (-1)]]) ∧ S w0 w' L) → RLinePost w0 l L e w' := by
      intro e w' h
      unfold RLinePost
      rw [if_neg hbx]
      exact h
    have hpos : ∀ x ∈ txsOf l, 1 ≤ x := by
      intro x hx
      obtain ⟨o, ho, rfl⟩ := (txsOf_mem l x).1 hx
      rcases badIx_cases l with ⟨_, h2⟩ | ⟨k, h2, _⟩
      · have := h2 o ho
        simp only [badOp, decide_eq_false_iff_not] at this
        omega
      · omega
    have HP := hid hPost; have HPOS := hid hpos
    clear hPost hpos hbx
    cases hfi : l.findIdx? (lostRead l) with
    | some k =>
      rw [hfi] at h
      obtain ⟨rfl, hs1⟩ := h
      obtain ⟨x, hx⟩ : ∃ x : Int, x = (k : Int) := ⟨_, rfl⟩
      simp only [← hx]
      have h2 := (hs1.alloc #[.int .i64 1, .int .i64 x] 79)
      have g0 := h2.blk_cell 0 rfl
      have g1 := h2.blk_cell 1 rfl
      obtain ⟨e0, e1, f0, f1, r0, r1, hf⟩ := HRET.out 1 x _ h2.tail
      have hpo : ∀ W, S w0 W L → RLinePost w0 l L (.returned (.tuple #[.slice none 0 0, .agg #[.int .i64 1, .int .i64 x]])) W := fun W h => HP.out _ _ (by rw [hfi, hx]; exact ⟨rfl, h⟩)
      have HPO := hid hpo; have HF := hid hf
      clear hs1 h2 hpo hf hfi hx HRET
      go_wp2_with fail
      go_region
      all_goals
        go_wp2_with fail
        exact bodyPost_ret (v := .tuple #[.slice none 0 0, .agg #[.int .i64 1, .int .i64 x]]) (by simp [results, Tryd.results46, go_sem, r0, r1]) rfl (HPO.out _ (by first | exact HF.out | exact HF.out.drew))
    | none =>
      rw [hfi] at h
      obtain ⟨v1, es, rfl, hES, hs1⟩ := h
      obtain ⟨a1, c1, rfl, hc1, hc2, _⟩ := hs1.sl_val
      unfold maxLen at hc2
      have hlost : ∀ o ∈ l, lostRead l o = false := by
        rw [List.findIdx?_eq_none_iff] at hfi
        intro o ho; simpa using hfi o ho
      have htx : ∀ e ∈ es, e.1 ∈ txsOf l ∧ e.2 ∈ txsOf l := fun e he => by
        obtain ⟨x, y⟩ := ((hES.2 e).1 he).txs hlost
        exact ⟨(txsOf_mem _ _).2 x, (txsOf_mem _ _).2 y⟩
      have HTX := hid htx; have HES := hid hES; have HFI := hid hfi
      have hs2 := hs1.alloc #[.int .i64 0, .int .i64 (-1)] 79
      have g0 := hs2.blk_cell 0 rfl
      have hs3 := (hs2.tail.made (enc := Sep.encI) (ok := fun _ => True))
      rw [World.size_alloc] at hs3
      have H2 : Hid (S w0 _ (mp Sep.encI (fun _ => True) (w1.heap.size + 1) (tabT (txsOf (l.take 0))) :: sl 31 2 (.slice a1 es.length c1) es.length (pcells es) :: blk w.heap.size 79 [.int .i64 0, .int .i64 0] :: L)) := hid hs3
      have hmm := @run_makeMap Tryd.prog
      clear hs1 hs2 hs3 hlost htx hES hfi
      go_wp2_with fail
      clear hmm
      go_loopw [27] (fun iv wr => ∃ i : Nat, i ≤ l.length ∧ iv = .int .i64 i ∧ S w0 wr (mp Sep.encI (fun _ => True) (w1.heap.size + 1) (tabT (txsOf (l.take i))) :: sl 31 2 (.slice a1 es.length c1) es.length (pcells es) :: blk w.heap.size 79 [.int .i64 0, .int .i64 0] :: L)) (fun iv _ => l.length - (intOf iv).toNat)
      case atStart => exact ⟨0, Nat.zero_le _, rfl, H2.out⟩
      case round =>
        rename World => wr
        obtain ⟨i, hi, rfl, hsr⟩ := hrel
        clear H2 g0
        by_cases hlt : i < l.length
        · have hp : l[i]? = some l[i] := by simp [hlt]
          generalize l[i] = p at hp
          obtain ⟨ob, oo, rfl, hcell⟩ := HR.out.fc ocells_length hsr.tail.tail.tail hp (by omega)
          have htz := tabT_txs l i p hp
          obtain ⟨tx, key, wr', fr⟩ := p
          have d0 := hcell _ hsr.tail.tail.tail 0 _ rfl
          have d1 := hcell _ hsr.tail.tail.tail 1 _ rfl
          have d2 := hcell _ hsr.tail.tail.tail 2 _ rfl
          have d3 := hcell _ hsr.tail.tail.tail 3 _ rfl
          simp only [Nat.add_zero] at d0 d1 d2 d3
          have hs3 := hsr.alloc #[.int .i64 tx, .int .i64 key, .bool wr', .int .i64 fr] 65
          obtain ⟨w2, u2, hs4⟩ := hs3.swap.put Tryd.keyInt Tryd.underlying67 tx trivial (.bool true)
          rw [htz] at hs4
          simp only [Sep.encI] at u2
          have H4 := hid hs4.swap.tail
          clear hsr hs3 hs4 hcell htz hp
          go_wp2_with fail
          go_roundw
          case rel => exact ⟨i + 1, by omega, by go_num, H4.out⟩
          case measure => simp [intOf]; omega
        · --P3
          obtain rfl : i = l.length := by omega
          rw [List.take_length] at hsr
          have hL2 := Left2.start (l := l) (es := es) fun e he => (HTX.out e he).2
          have hts := txsOf_le l
          have HL2 := hid hL2
          have H5 := hid (hsr.sl_nil (e := 3) (size := 1))
          clear hsr hL2
          go_wp2_with fail
          go_loopg [9] ((txsOf l).length) (fun n ov wr => ∃ (rem out : List Int), Hid (Left2 es l rem out) ∧ rem.length ≤ n ∧ rem.length + out.length ≤ 900 ∧
            S w0 wr (sl 3 1 ov out.length (icells out) :: mp Sep.encI (fun _ => True) (w1.heap.size + 1) (tabT rem) :: sl 31 2 (.slice a1 es.length c1) es.length (pcells es) :: blk w.heap.size 79 [.int .i64 0, .int .i64 0] :: L))
          case atStart => exact ⟨txsOf l, [], HL2, Nat.le_refl _, by simp; omega, H5.out⟩
          case round =>
            rename World => wr
            obtain ⟨rem, out, hL2, hrn, hro, hsr⟩ := hrel
            obtain ⟨gm, hgm⟩ : ∃ m, m = gk := ⟨_, rfl⟩
            clear H5 HL2
            have hln := run_len_at (P := Tryd.prog) (t := 67) (ty := 3) Tryd.underlying67 hsr.swap.mapAt
            rw [tabT_length] at hln
            by_cases hr0 : rem = []
            · subst hr0
              have hd := hL2.out.done
              obtain ⟨ao, co, rfl, _, _, _⟩ := hsr.sl_val
              have HD := hid hd; have H6 := hid (hsr.drew.conv (M := blk w.heap.size 79 [.int .i64 0, .int .i64 0] :: mp Sep.encI (fun _ => True) (w1.heap.size + 1) (tabT []) :: sl 31 2 (.slice a1 es.length c1) es.length (pcells es) :: sl 3 1 (.slice ao out.length co) out.length (icells out) :: L) (by simp only [all]; ac_rfl))
              have H7 := hid (hsr.conv (M := blk w.heap.size 79 [.int .i64 0, .int .i64 0] :: mp Sep.encI (fun _ => True) (w1.heap.size + 1) (tabT []) :: sl 31 2 (.slice a1 es.length c1) es.length (pcells es) :: sl 3 1 (.slice ao out.length co) out.length (icells out) :: L) (by simp only [all]; ac_rfl))
              clear hd hsr
              simp only [List.length_nil] at hln
              go_wp2_with (go_at_call 64; with_reducible refine (Bare_any _ _).mono ?_; rintro e w' ⟨rfl, hbw⟩; have hsb := (H7.out).onto hbw; have e0 := hsb.blk_cell 0 rfl; have e1 := hsb.blk_cell 1 rfl; have f0 := hsb.blk_free 0; have f1 := hsb.blk_free 1; have hse := (hsb.blk_set 0 (by simp) (.int .i64 0)).blk_set 1 (by simp) (.int .i64 (-1)); have r0 := hse.blk_cell 0 rfl; have r1 := hse.blk_cell 1 rfl; have HF := hid hse.tail.tail.tail; clear hsb hse)
              exact bodyPost_ret (v := .tuple #[.slice ao out.length co, .agg #[.int .i64 0, .int .i64 (-1)]]) (by simp [results, Tryd.results46, go_sem, r0, r1]) rfl (HP.out _ _ (by
                rw [HFI.out]
                refine ⟨es, HES.out, ?_⟩
                rw [HD.out]
                exact ⟨_, rfl, by omega, HF.out⟩))
            · have hrl : 0 < rem.length := List.length_pos_iff.2 hr0
              obtain ⟨ao, co, rfl, hco, hco2, _⟩ := hsr.sl_val
              obtain ⟨w3, ur, hs3⟩ := hsr.swap.range (P := Tryd.prog) Tryd.underlying67
              have hT : ∀ x ∈ rem, 1 ≤ x := fun x hx => HPOS.out x (hL2.out.sub x hx)
              have H6 := hid hs3; have HT := hid hT; have HR0 := hid hr0
              clear hsr hs3 hT hr0
              go_wp2_with fail
              clear ur hln
              go_loopg [10] (rem.length) (fun n bv wx => ∃ (best : Int) (dn : List Int), bv = .int .i64 best ∧ rem.length ≤ dn.length + n ∧ Hid (RBest (free es rem) best dn) ∧
                S w0 wx (ranging Sep.encI (fun _ => True) (w1.heap.size + 1) wr.heap.size (tabT rem) (tabT dn) :: sl 3 1 (.slice ao out.length co) out.length (icells out) :: sl 31 2 (.slice a1 es.length c1) es.length (pcells es) :: blk w.heap.size 79 [.int .i64 0, .int .i64 0] :: L))
              case atStart => exact ⟨0, [], rfl, by simp, hid RBest.start, H6.out⟩
              case round =>
                rename World => wx
                obtain ⟨best, dn, rfl, hn, hbest, hsr⟩ := hrel
                obtain ⟨gn, hgn⟩ : ∃ m, m = gk := ⟨_, rfl⟩
                clear H6
                rcases hsr.next Tryd.keyInt (ty := 0) with ⟨d, w4, hd1, hd2, hr, hs4⟩ | ⟨hall, hr⟩
                · obtain ⟨x, hx, rfl⟩ := tabT_mem hd1
                  have hent := hs4.entry (P := Tryd.prog)
                  rw [tabT_snoc] at hs4
                  simp only [Sep.encI] at hr hent
                  have hlen : (dn ++ [x]).length ≤ rem.length := by
                    have h1 := hs4.ranging_sub
                    have h2 := nodup_leO h1.1 h1.2.1
                    rwa [tabT_length, tabT_length] at h2
                  rw [List.length_append, List.length_singleton] at hlen
                  have hsn := hbest.out.snoc x (HT.out x hx)
                  have hf0 : free (es.take 0) rem x = true := by simp [free]
                  have HS := hid hsn; have H7 := hid hs4; have HF0 := hid hf0
                  clear hsr hs4 hd1 hd2 hsn hbest hf0
                  go_wp2_with fail
                  go_loopw [12, 46] (fun bv c wy => ∃ j : Nat, j ≤ es.length ∧ c = .int .i64 j ∧ bv = .bool (free (es.take j) rem x) ∧
                    S w0 wy (ranging Sep.encI (fun _ => True) (w1.heap.size + 1) wr.heap.size (tabT rem) (tabT (dn ++ [x])) :: sl 3 1 (.slice ao out.length co) out.length (icells out) :: sl 31 2 (.slice a1 es.length c1) es.length (pcells es) :: blk w.heap.size 79 [.int .i64 0, .int .i64 0] :: L)) (fun _ c _ => es.length - (intOf c).toNat)
                  case atStart => exact ⟨0, Nat.zero_le _, rfl, by rw [HF0.out], H7.out⟩
                  case round =>
                    rename World => wy
                    obtain ⟨j, hj, rfl, rfl, hsr⟩ := hrel
                    clear H7 HF0
                    by_cases hlt2 : j < es.length
                    · have hp : es[j]? = some es[j] := by simp [hlt2]
                      generalize es[j] = p at hp
                      obtain ⟨p1, p2⟩ := p
                      obtain ⟨g, og, rfl, _, d0, d1⟩ := hsr.rot3.sl_pair hp
                      have hs3 := hsr.alloc #[.int .i64 p1, .int .i64 p2] 31
                      have l1 := Tryd.lookT hs3.swap.ranging_mapAt p1
                      have hfs : free (es.take (j + 1)) rem x = (free (es.take j) rem x && !(decide (p2 = x) && decide (p1 ∈ rem))) := by rw [take_succ_get hp, free_snoc]
                      have H8 := hid hs3.tail; have HFS := hid hfs
                      clear hsr hs3 hp hfs
                      generalize hfr : free (es.take j) rem x = fr at *
                      clear hfr
                      cases fr with
                      | false =>
                        go_wp2_with fail
                        go_roundw
                        case rel => exact ⟨j + 1, by omega, by go_num, by rw [HFS.out]; rfl, H8.out⟩
                        case measure => simp [intOf]; omega
                      | true =>
                        by_cases hpx : p2 = x
                        · have hpb : (p2 == x) = true := by simpa using hpx
                          cases hm : decide (p1 ∈ rem) with
                          | true =>
                            have hfs2 : free (es.take (j + 1)) rem x = false := by rw [HFS.out, hm]; simp [hpx]
                            rw [hm] at l1
                            have HFS2 := hid hfs2
                            clear hm hfs2 hpx
                            go_wp2_with fail
                            go_roundw
                            case rel => exact ⟨j + 1, by omega, by go_num, by rw [HFS2.out] <;> rfl, H8.out⟩
                            case measure => simp [intOf]; omega
                          | false =>
                            have hfs2 : free (es.take (j + 1)) rem x = true := by rw [HFS.out, hm]; simp [hpx]
                            rw [hm] at l1
                            have HFS2 := hid hfs2
                            clear hm hfs2 hpx
                            go_wp2_with fail
                            go_roundw
                            case rel => exact ⟨j + 1, by omega, by go_num, by rw [HFS2.out] <;> rfl, H8.out⟩
                            case measure => simp [intOf]; omega
                        · have hpb : (p2 == x) = false := by simpa using hpx
                          have hfs2 : (true && !(decide (p2 = x) && decide (p1 ∈ rem))) = true := by simp [hpx]
                          have HFS2 := hid hfs2
                          clear hpx hfs2 l1
                          go_wp2_with fail
                          go_roundw
                          case rel => exact ⟨j + 1, by omega, by go_num, by rw [HFS.out, HFS2.out], H8.out⟩
                          case measure => simp [intOf]; omega
                    · obtain rfl : j = es.length := by omega
                      rw [List.take_length]
                      have H8 := hid hsr
                      clear hsr
                      generalize hfr : free es rem x = fr at *
                      have HFR := hid hfr
                      clear hfr
                      cases fr with
                      | false =>
                        have HS2 := HS.out
                        rw [if_neg (by simp)] at HS2
                        have HS3 := hid HS2
                        clear HS HS2
                        go_wp2_with fail
                        go_roundg (gn - 1)
                        case measure => omega
                        case rel => exact ⟨best, dn ++ [x], rfl, by rw [List.length_append, List.length_singleton]; omega, HS3, H8.out⟩
                      | true =>
                        by_cases hb0 : best = 0
                        · have HS2 := HS.out
                          rw [if_pos ⟨rfl, .inl hb0⟩] at HS2
                          have HS3 := hid HS2
                          subst hb0
                          clear HS HS2
                          go_wp2_with fail
                          go_roundg (gn - 1)
                          case measure => omega
                          case rel => exact ⟨x, dn ++ [x], rfl, by rw [List.length_append, List.length_singleton]; omega, HS3, H8.out⟩
                        · have hb0b : (best == 0) = false := by simpa using hb0
                          by_cases hxb : x < best
                          · have HS2 := HS.out
                            rw [if_pos ⟨rfl, .inr hxb⟩] at HS2
                            have HS3 := hid HS2
                            have hxbb : decide (x < best) = true := decide_eq_true hxb
                            clear HS HS2 hb0
                            go_wp2_with fail
                            go_roundg (gn - 1)
                            case measure => omega
                            case rel => exact ⟨x, dn ++ [x], rfl, by rw [List.length_append, List.length_singleton]; omega, HS3, H8.out⟩
                          · have HS2 := HS.out
                            rw [if_neg (fun h => h.2.elim hb0 hxb)] at HS2
                            have HS3 := hid HS2
                            have hxbb : decide (x < best) = false := decide_eq_false hxb
                            clear HS HS2 hb0
                            go_wp2_with fail
                            go_roundg (gn - 1)
                            case measure => omega
                            case rel => exact ⟨best, dn ++ [x], rfl, by rw [List.length_append, List.length_singleton]; omega, HS3, H8.out⟩
                · obtain ⟨hperm, hs5⟩ := hsr.range_over hall
                  have hba := hbest.out.all (tabT_perm hperm)
                  have hs6 := hs5.conv (M := blk w.heap.size 79 [.int .i64 0, .int .i64 0] :: mp Sep.encI (fun _ => True) (w1.heap.size + 1) (tabT rem) :: sl 3 1 (.slice ao out.length co) out.length (icells out) :: sl 31 2 (.slice a1 es.length c1) es.length (pcells es) :: L) (by simp only [all]; ac_rfl)
                  clear hsr hall hperm hbest hn hs5
                  rcases hba with ⟨rfl, hf⟩ | ⟨hb0, hbm, hbf, hbl⟩
                  · have hst := hL2.out.stuck HR0.out hf
                    have HST := hid hst; have H7 := hid hs6
                    clear hst hs6 hf
                    go_wp2_with (go_at_call 64; with_reducible refine (Bare_any _ _).mono ?_; rintro e w' ⟨rfl, hbw⟩; have hsb := (H7.out).onto hbw; have e0 := hsb.blk_cell 0 rfl; have e1 := hsb.blk_cell 1 rfl; have f0 := hsb.blk_free 0; have f1 := hsb.blk_free 1; have hse := (hsb.blk_set 0 (by simp) (.int .i64 11)).blk_set 1 (by simp) (.int .i64 (-1)); have r0 := hse.blk_cell 0 rfl; have r1 := hse.blk_cell 1 rfl; have HF := hid hse.tail.tail.tail.tail; clear hsb hse)
                    exact bodyPost_ret (v := .tuple #[.slice none 0 0, .agg #[.int .i64 11, .int .i64 (-1)]]) (by simp [results, Tryd.results46, go_sem, r0, r1]) rfl (HP.out _ _ (by
                      rw [HFI.out]
                      refine ⟨es, HES.out, ?_⟩
                      rw [HST.out]
                      exact ⟨rfl, HF.out⟩))
                  · obtain ⟨hst, hdn⟩ := hL2.out.step hbm hbf hbl
                    obtain ⟨w5, u5, hs7⟩ := hs6.swap.del Tryd.keyInt (ty := 0) Tryd.underlying67 best trivial
                    rw [tabT_del] at hs7
                    simp only [Sep.encI] at u5
                    have hlt := filter_ne_length hbm
                    generalize hre : rem.filter (fun x => decide (x ≠ best)) = rem2 at hst hdn hs7 hlt
                    have hs8 := hs7.rot3.alloc #[.int .i64 best] 3
                    have hn8 := news_blk hs8
                    have HST := hid hst; have H9 := hid hs8.tail; have HN := hid hn8
                    obtain ⟨i0, hi0, hz0, hz1, hz2⟩ := info_parts Tryd.info3
                    have hil := icells_length out
                    have HL := hid hil
                    have hbb : (best == 0) = false := by rw [beq_eq_false_iff_ne]; omega
                    clear hst hdn hs6 hs7 hs8 hn8 hbm hbf hbl hre hil
                    go_wp2_with (at_builtin; refine wpList_append rfl (.tmp 81) (.tmp 83) 41 rfl 3 i0 _ 1 8 Tryd.underlying41 hi0 hz0 hz1 hz2 rfl (by decide) H9.out rfl (some ⟨w5.heap.size, 0, none⟩) 1 1 [.int .i64 best] rfl rfl HN.out (by simp [Value.oneCell']) (by unfold maxLen; omega) (by omega) ?_; intro v1 w6 hs9; have H6 := hid hs9; clear hs9)
                    go_roundg (gm - 1)
                    case measure => omega
                    case rel =>
                      have h6 := H6.out.conv (M := sl 3 1 v1 (out.length + 1) (icells out ++ [.int .i64 best]) :: mp Sep.encI (fun _ => True) (w1.heap.size + 1) (tabT rem2) :: sl 31 2 (.slice a1 es.length c1) es.length (pcells es) :: blk w.heap.size 79 [.int .i64 0, .int .i64 0] :: L) (by simp only [all]; ac_rfl)
                      refine ⟨rem2, out ++ [best], HST, by omega, by rw [List.length_append, List.length_singleton]; omega, ?_⟩
                      rw [List.length_append, icells_append]
                      exact h6
end Go.Proofs.YthdiphfbjlooaaaDoor
