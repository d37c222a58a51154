/- interleafkeep's tale: of, tells, committed. -/
import Derived.Test.YtcbokjocahnlcaaGreatDoorSd8
import Derived.Test.YtcbokjocahnlcaaGreatDoorSd9
import Derived.Test.YtcbokjocahnlcaaGreatDoorSd1
import Derived.Test.YtcbokjocahnlcaaGreatDoorSd4
import Derived.BigQuiet
/- The program's engine: Commit. -/
namespace Go.Proofs.YtcbokjocahnlcaaGreatDoor
open Go Go.RowKit Go.Sep
section
variable {w w0 : World} {L : List HProp} {b : Nat} {bs : List Nat} {k : EngV} {e : Eng} {i : Nat}
/-- An engine without its history. -/
def hiX (b : Nat) (bs : List Nat) (k : EngV) (e : Eng) : HProp :=
  sep (pur (k.tv.length = e.txs.length)) (sep (pur (bs.length = e.txs.length ∧ (txPs bs k.tv e.txs).length = e.txs.length ∧ bs.Nodup)) (sep (shp b 94 18) (sep (cells b 14 [k.txv, .int .i64 e.count, .map (some k.wb), k.hv]) (sep (sl 75 1 k.txv e.txs.length (ptrs bs (List.range e.txs.length))) (sep (mp encI (fun _ => True) k.wb (ienc e.wr)) (all (txPs bs k.tv e.txs)))))))
theorem _root_.Go.Sep.S.hi_open (h : S w0 w (engO b bs k e :: L)) : S w0 w (sl 59 4 k.hv e.hist.length (fcells opc e.hist) :: hiX b bs k e :: L) := by
  refine h.conv ?_
  simp only [all, engO, engG, hiX]
  ac_rfl
theorem _root_.Go.Sep.S.hi_see (h : S w0 w (hiX b bs k e :: L)) : w.cell? ⟨b, 17, none⟩ = some k.hv ∧ w.frozen? ⟨b, 17, none⟩ = false := by
  have h1 := h.sep_elim.pur_elim.2.sep_elim.pur_elim.2
  have h4 : S w0 w (cells b 14 [k.txv, .int .i64 e.count, .map (some k.wb), k.hv] :: shp b 94 18 :: sl 75 1 k.txv e.txs.length (ptrs bs (List.range e.txs.length)) :: mp encI (fun _ => True) k.wb (ienc e.wr) :: all (txPs bs k.tv e.txs) :: L) := h1.conv (by simp only [all]; ac_rfl)
  exact ⟨h4.cells_cell 3 rfl, h4.cells_free 3 (show _ = some k.hv from rfl)⟩
theorem _root_.Go.Sep.S.hi_close {v' : Value} {o : Op1} (h : S w0 w (sl 59 4 v' (e.hist.length + 1) (fcells opc e.hist ++ opc o) :: hiX b bs k e :: L)) :
    S w0 (w.setCell ⟨b, 17, none⟩ v') (engO b bs { k with hv := v' } { e with hist := e.hist ++ [o] } :: L) := by
  obtain ⟨hp, h1⟩ := h.swap.sep_elim.pur_elim
  obtain ⟨hp2, h2⟩ := h1.sep_elim.pur_elim
  have h4 : S w0 w (cells b 14 [k.txv, .int .i64 e.count, .map (some k.wb), k.hv] :: shp b 94 18 :: sl 75 1 k.txv e.txs.length (ptrs bs (List.range e.txs.length)) :: mp encI (fun _ => True) k.wb (ienc e.wr) :: all (txPs bs k.tv e.txs) :: sl 59 4 v' (e.hist.length + 1) (fcells opc e.hist ++ opc o) :: L) := h2.conv (by simp only [all]; ac_rfl)
  have h5 := h4.set 3 (by simp) v'
  have e1 : fcells opc e.hist ++ opc o = fcells opc (e.hist ++ [o]) := by rw [fcells_append, fcells_one]
  have e2 : e.hist.length + 1 = (e.hist ++ [o]).length := by simp
  rw [e1, e2] at h5
  refine .sep_intro (.pur_intro hp (S.engG_join hp2 (h5.conv ?_)))
  simp only [all]
  show sep (cells b 14 [k.txv, .int .i64 e.count, .map (some k.wb), v']) _ = _
  ac_rfl
/-- .. and what is to be told. -/
def hiV (b : Nat) (bs : List Nat) (k : EngV) (e : Eng) (T vb : Nat) (x y : Int) : HProp := sep (hiX b bs k e) (blk vb T [.int .i64 x, .int .i64 y])
/-- Who wrote, by the time of the commit. -/
theorem eng_wrput (h : S w0 w (engO b bs k e :: L)) (at_ n : Int) : ∃ w', (Instr.mapUpdate 57 (.map (some k.wb)) (.int .i64 at_) (.int .i64 n)).run Tryz.prog w = .ok () w' ∧ S w0 w' (engO b bs k { e with wr := mput e.wr at_ n } :: L) := by
  have h1 : S w0 w (mp encI (fun _ => True) k.wb (ienc e.wr) :: pur (k.tv.length = e.txs.length) :: pur (bs.length = e.txs.length ∧ (txPs bs k.tv e.txs).length = e.txs.length ∧ bs.Nodup) :: shp b 94 18 :: cells b 14 [k.txv, .int .i64 e.count, .map (some k.wb), k.hv] :: sl 75 1 k.txv e.txs.length (ptrs bs (List.range e.txs.length)) :: sl 59 4 k.hv e.hist.length (fcells opc e.hist) :: all (txPs bs k.tv e.txs) :: L) :=
    h.conv (by simp only [all, engO, engG]; ac_rfl)
  obtain ⟨w', hr, h2⟩ := h1.put Tryz.keyInt Tryz.underlying57 at_ trivial (.int .i64 n)
  refine ⟨w', hr, ?_⟩
  have e1 : mput (ienc e.wr) at_ (.int .i64 n) = ienc (mput e.wr at_ n) := ienc_put _ _ _
  rw [e1] at h2
  refine h2.conv ?_
  simp only [all, engO, engG]
  ac_rfl
end
theorem one_op (o : Op1) : ∀ u ∈ opc o, u.oneCell' = true := by
  intro u hu
  simp [opc] at hu
  rcases hu with rfl | rfl | rfl | rfl <;> rfl
theorem Tryz.infoE59 : (Tryz.prog.info? 59).map (fun i => (i.zero, i.size, i.bytes)) = some (some (.agg #[.int .i64 0, .int .i64 0, .bool false, .int .i64 0]), 4, 32) := by kernel_rfl
section
variable {e : Eng} {N : Nat} {U : List Task} {i : Nat}
theorem hold_few (h : OkT N e U) : e.t.hold.length ≤ 1000000 := by
  obtain ⟨Q, hQ⟩ := h.tab
  have := Sep.few (S := [0, 1, 2, 3, 4, 5, 6, 7, 8, 9]) hQ.hold (fun kk hk => by
    obtain ⟨p, hp, rfl⟩ := List.mem_map.1 hk
    have h1 := mget_mem hQ.hold (show (p.1, p.2) ∈ e.t.hold from hp)
    rw [hQ.tab.hold] at h1
    cases hq : Q p.1 with
    | nil => rw [hq] at h1; simp at h1
    | cons a l => have := (hQ.key p.1 a (by rw [hq]; simp)).1; unfold keyOk at this; simp; omega)
  simp at this
  omega
theorem hands_few {l : List (Int × Int)} (h : OkT N e (l.map .hand)) : l.length ≤ 1000000 := by
  have h3 : (l.map (·.2)).length ≤ e.txs.length := by
    have hap := h.apart
    have := Sep.few (S := (List.range e.txs.length).map fun m : Nat => (m : Int) + 1) (l := (l.map (·.2))) (by
      rw [List.map_map] at hap
      exact List.pairwise_map.2 ((List.pairwise_map.1 hap).imp fun h e1 => h (by simp only [Function.comp, Task.who]; rw [e1]))) (fun x hx => by
      obtain ⟨p, hp, rfl⟩ := List.mem_map.1 hx
      have h4 := h.ok (.hand p) (List.mem_map_of_mem hp)
      have h5 := h4.lt
      have h6 := (h4.hand p rfl).1
      simp only [Task.who] at h5
      simp only [List.mem_map, List.mem_range]
      exact ⟨p.2.toNat - 1, h5, by omega⟩)
    simpa using this
  have := h.few
  rw [List.length_map] at h3; omega
end
theorem bad_none : ∀ {l : Vers} {m : Nat}, (∀ p ∈ l, keyOk p.1 ∧ valOk p.2) → badAt m l = none
  | [], _, _ => rfl
  | p :: l, m, h => by
    have h1 := h p (by simp)
    unfold badAt
    rw [if_neg (by simpa using h1.1), if_neg (by simpa using h1.2)]
    exact bad_none fun q hq => h q (by simp [hq])
theorem written_ok {e : Eng} {N : Nat} {U : List Task} {i : Nat} (h : OkT N e U) (hi : i < e.txs.length) : ∀ p ∈ (e.tx i).written, keyOk p.1 ∧ valOk p.2 := by
  intro p hp
  unfold Tx.written at hp
  obtain ⟨k, hk, rfl⟩ := List.mem_map.1 hp
  rw [sortI_mem] at hk
  obtain ⟨q, hq, rfl⟩ := List.mem_map.1 hk
  have h1 := h.at hi
  have h2 := mget_mem h1.keys (show (q.1, q.2) ∈ (e.tx i).writes from hq)
  have h3 := h1.own q hq
  refine ⟨h3.1, ?_⟩
  show valOk ((mget (e.tx i).writes q.1).getD 0)
  rw [h2]; exact h3.2
set_option linter.unusedSimpArgs false in
set_option maxRecDepth 100000 in
set_option maxHeartbeats 16000000 in
theorem ecommit_any (w0 w : World) (b : Nat) (bs : List Nat) (e : Eng) (n : Int) (L : List HProp) (N : Nat) (hE : ErrT w0) (hok : OkT N e []) (hN : N ≤ 90000000) (hs : S w0 w (engP b bs e :: L)) :
    Calls Tryz.prog 18 #[.pointer (some ⟨b, 0, none⟩), .int .i64 n] w fun r w' => r = .returned (errV (e.commit n).2) ∧ S w0 w' (engP b bs (e.commit n).1 :: L) := by
  have HS := hid hs
  obtain ⟨k, hs⟩ := hs.eng_open
  have hO : S w0 w (engO b bs k e :: storeP 105 b 0 e.V e.last :: tabP 3 b 11 e.t :: L) := hs.conv (by simp only [all]; ac_rfl)
  have hrd := ready_any w0 w b bs k e n _ N [] hok hO
  by_cases h0 : e.ready n = 0
  · obtain ⟨i, rfl, hi, hst⟩ := ready_at h0
    have hcq := commit_eq e i h0
    rw [h0, errV_0] at hrd
    have hn1 : ((i : Int) + 1) - 1 = i := by omega
    have hfew := hok.few
    have hc := hO.eng_c.2
    have c14 := hc.txs
    obtain ⟨a, cap, hv, hle, hcap, hrow⟩ := hc.row
    obtain ⟨g, o, rfl, ci⟩ := hrow i hi
    rw [hv] at c14
    unfold maxLen at hcap
    unfold ptr at ci
    have hwr := ewrites_any w0 w b bs e ((i : Int) + 1) L N [] hok HS.out
    have hwf : e.writes ((i : Int) + 1) = ((e.tx i).written, 0) := by
      unfold Eng.writes
      have : e.err ((i : Int) + 1) false = 0 := by unfold Eng.err; rw [if_neg (by omega), if_neg (by simp)]
      rw [if_neg (by rw [this]; decide), show ((i : Int) + 1).toNat - 1 = i by omega]
    rw [hwf, errV_0] at hwr
    have hrdn := hok.reads _ (Eng.tx_mem hi)
    have hwl := written_len (e.tx i)
    have hof := own_few hok hi
    have hwok := written_ok hok hi
    have hcnt := hok.cnt
    have hhist := hok.hist
    have hrowle := hok.row_le
    have hlast := hok.last
    obtain ⟨hov, hovo⟩ := hok.over2 hi (by simp [Tx.alive, hst])
    have hlines := hok.lines
    have hhold := hold_few hok
    have hheirs := hands_few hov
    rw [over2_heirs] at hheirs
    have hhb : (e.hist.length : Int) ≤ 400 * 90000010 := by
      have h1 : e.count * ((N : Int) + 10) ≤ 400 * ((N : Int) + 10) := Int.mul_le_mul_of_nonneg_right (by omega) (by omega)
      omega
    obtain ⟨wl, hwle⟩ : ∃ wl, (e.tx i).written = wl := ⟨_, rfl⟩
    obtain ⟨rl, hrle⟩ : ∃ rl, (e.tx i).reads = rl := ⟨_, rfl⟩
    have htold : toldL ((i : Int) + 1) (e.tx i) = (rl.map fun r => (⟨(i : Int) + 1, r.1, false, r.2⟩ : Op1)) ++ wl.map fun w => (⟨(i : Int) + 1, w.1, true, 0⟩ : Op1) := by unfold toldL; rw [hwle, hrle]
    rw [hwle] at hwr hwl hwok
    have hwln : wl.length ≤ 10 := by omega
    clear hwl
    have HRD := hid hrd; have HWR := hid hwr; have HCQ := hid hcq
    have hst0i := hid hst
    clear hs hO hrd hc hv hrow hwr hwf hcq hst h0
    go_enter Tryz.func18, Tryz.ntmps18
    go_wp2_with fail
    with_reducible refine HRD.out.mono ?_
    rintro r w1 ⟨rfl, rfl⟩
    go_wp2_with fail
    with_reducible refine HWR.out.mono ?_
    rintro r w2 ⟨lv, rfl, hs2⟩
    obtain ⟨al, cl, rfl, hcl, hcl2, _⟩ := hs2.sl_val
    unfold maxLen at hcl2
    obtain ⟨k2, hs3⟩ := hs2.swap.eng_open
    obtain ⟨LL, hLL⟩ : ∃ LL, LL = sl 44 2 (.slice al wl.length cl) wl.length (pcells wl) :: storeP 105 b 0 e.V e.last :: tabP 3 b 11 e.t :: L := ⟨_, rfl⟩
    have hs4 : S w0 w2 (engO b bs { k2 with hv := k2.hv } { e with hist := e.hist ++ ((rl.take 0).map fun r => (⟨(i : Int) + 1, r.1, false, r.2⟩ : Op1)) } :: LL) := by
      rw [List.take_zero, List.map_nil, List.append_nil, hLL]
      exact hs3.conv (by simp only [all]; ac_rfl)
    have hrs : ∀ W hv' H, S w0 W (engO b bs { k2 with hv := hv' } { e with hist := H } :: LL) → ∃ a cap, (k2.v i).rv = .slice a rl.length cap ∧ rl.length ≤ cap ∧ cap ≤ maxLen ∧ ∀ j p, rl[j]? = some p → ∃ g o, a = some ⟨g, o, none⟩ ∧ W.cell? ⟨g, o + j * 2, none⟩ = some (.int .i64 p.1) ∧ W.cell? ⟨g, o + j * 2 + 1, none⟩ = some (.int .i64 p.2) := fun W hv' H h => by
      have := (h.eng_txc (i := i) hi).2.rs
      rw [show (({ e with hist := H } : Eng).tx i).reads = rl from hrle] at this
      exact this
    obtain ⟨ar, cr, hrv, hcr, hcr2, _⟩ := hrs _ _ _ hs4
    unfold maxLen at hcr2
    have c5 := (hs4.eng_txc (i := i) hi).2.reads
    have e5 : (({ k2 with hv := k2.hv } : EngV).v i).rv = .slice ar rl.length cr := hrv
    rw [e5] at c5
    clear e5
    have hrs2 : ∀ W hv' H, S w0 W (engO b bs { k2 with hv := hv' } { e with hist := H } :: LL) → ∀ j p, rl[j]? = some p → ∃ g o, ar = some ⟨g, o, none⟩ ∧ W.cell? ⟨g, o + j * 2, none⟩ = some (.int .i64 p.1) ∧ W.cell? ⟨g, o + j * 2 + 1, none⟩ = some (.int .i64 p.2) := fun W hv' H h j p hj => by
      obtain ⟨a', c', h1, _, _, h4⟩ := hrs W hv' H h
      rw [hrv] at h1
      simp only [Value.slice.injEq] at h1
      obtain ⟨rfl, _, _⟩ := h1
      exact h4 j p hj
    have HRS := hid hrs2; have H4 := hid hs4; have HLL := hid hLL
    rw [hrle] at hrdn
    clear HRD HWR hs2 hs3 hs4 hLL hrs hrs2 hrv
    obtain ⟨i0, hi0, hz0, hz1, hz2⟩ := info_parts Tryz.infoE59
    go_wp2_with fail
    clear c5
    go_loopw [45] (fun c wr => ∃ j : Nat, j ≤ rl.length ∧ c = .int .i64 j ∧ ∃ hv', S w0 wr (engO b bs { k2 with hv := hv' } { e with hist := e.hist ++ ((rl.take j).map fun r => (⟨(i : Int) + 1, r.1, false, r.2⟩ : Op1)) } :: LL)) (fun c _ => rl.length - (intOf c).toNat)
    case atStart => exact ⟨0, Nat.zero_le _, rfl, _, H4.out⟩
    case round =>
      rename World => wr
      obtain ⟨j, hj, rfl, hv', hsr⟩ := hrel
      clear H4
      by_cases hlt : j < rl.length
      · have hp : rl[j]? = some rl[j] := by simp [hlt]
        generalize rl[j] = p at hp
        obtain ⟨gr, gro, rfl, d0, d1⟩ := HRS.out _ _ _ hsr j p hp
        obtain ⟨px, py⟩ := p
        simp only at d0 d1
        have htk : (rl.take (j + 1)).map (fun r => (⟨(i : Int) + 1, r.1, false, r.2⟩ : Op1)) = (rl.take j).map (fun r => (⟨(i : Int) + 1, r.1, false, r.2⟩ : Op1)) ++ [⟨(i : Int) + 1, px, false, py⟩] := by rw [take_succ_get hp, List.map_append]; rfl
        have hhl : ((rl.take j).map fun r => (⟨(i : Int) + 1, r.1, false, r.2⟩ : Op1)).length ≤ N := by rw [List.length_map, List.length_take]; omega
        have hsv := (hsr.alloc #[.int .i64 px, .int .i64 py] 98)
        obtain ⟨EE, hEE⟩ : ∃ E : Eng, E = { e with hist := e.hist ++ ((rl.take j).map fun r => (⟨(i : Int) + 1, r.1, false, r.2⟩ : Op1)) } := ⟨_, rfl⟩
        obtain ⟨Ek, hEk⟩ : ∃ K : EngV, K = { k2 with hv := hv' } := ⟨_, rfl⟩
        obtain ⟨Eh, hEh⟩ : ∃ H, H = EE.hist := ⟨_, rfl⟩
        obtain ⟨En, hEn⟩ : ∃ m, m = Eh.length := ⟨_, rfl⟩
        have hbnd : En + 1 ≤ 1000000000000 := by
          rw [hEn, hEh, hEE]
          show (e.hist ++ _).length + 1 ≤ _
          rw [List.length_append]; omega
        rw [← hEE, ← hEk] at hsv
        have hst0 : S w0 (wr.alloc (.cells #[.int .i64 px, .int .i64 py] 98)) (sl 59 4 Ek.hv En (fcells opc Eh) :: hiV b bs Ek EE 98 wr.heap.size px py :: LL) := by
          rw [hEn, hEh]
          refine (S.hi_open hsv.swap).conv ?_
          simp only [all, hiV]; ac_rfl
        obtain ⟨ah, ch, hhv, _, _, _⟩ := hst0.sl_val
        have hq : ∀ W {M : List HProp}, S w0 W (hiV b bs Ek EE 98 wr.heap.size px py :: M) → W.cell? ⟨b, 17, none⟩ = some (.slice ah En ch) ∧ W.cell? ⟨wr.heap.size, 0, none⟩ = some (.int .i64 px) ∧ W.cell? ⟨wr.heap.size, 1, none⟩ = some (.int .i64 py) := fun W M h => by
          have h1 := h.sep_elim
          exact ⟨by rw [h1.hi_see.1, hhv], h1.swap.blk_cell 0 rfl, h1.swap.blk_cell 1 rfl⟩
        have hf : ∀ W {M : List HProp}, S w0 W (hiV b bs Ek EE 98 wr.heap.size px py :: M) → W.frozen? ⟨b, 17, none⟩ = false := fun W M h => h.sep_elim.hi_see.2
        have hcl9 : ∀ W v' (Y : HProp), S w0 W (sl 59 4 v' (En + 1) (fcells opc Eh ++ opc ⟨(i : Int) + 1, px, false, py⟩) :: hiV b bs Ek EE 98 wr.heap.size px py :: Y :: LL) → S w0 (W.setCell ⟨b, 17, none⟩ v') (engO b bs { Ek with hv := v' } { EE with hist := Eh ++ [⟨(i : Int) + 1, px, false, py⟩] } :: LL) := fun W v' Y h => by
          rw [hEn, hEh] at h
          have h1 : S w0 W (sl 59 4 v' (EE.hist.length + 1) (fcells opc EE.hist ++ opc ⟨(i : Int) + 1, px, false, py⟩) :: hiX b bs Ek EE :: blk wr.heap.size 98 [.int .i64 px, .int .i64 py] :: Y :: LL) := h.conv (by simp only [all, hiV]; ac_rfl)
          have h2 := h1.hi_close
          rw [← hEh] at h2
          exact (h2.conv (M := blk wr.heap.size 98 [.int .i64 px, .int .i64 py] :: Y :: engO b bs { Ek with hv := v' } { EE with hist := Eh ++ [⟨(i : Int) + 1, px, false, py⟩] } :: LL) (by simp only [all]; ac_rfl)).tail.tail
        have hfin : ∀ W v', S w0 W (engO b bs { Ek with hv := v' } { EE with hist := Eh ++ [⟨(i : Int) + 1, px, false, py⟩] } :: LL) → S w0 W (engO b bs { k2 with hv := v' } { e with hist := e.hist ++ ((rl.take (j + 1)).map fun r => (⟨(i : Int) + 1, r.1, false, r.2⟩ : Op1)) } :: LL) := fun W v' h => by
          rw [htk, ← List.append_assoc]
          rw [hEh, hEE, hEk] at h
          exact h
        rw [hhv] at hst0
        have b0 := (hsv.drew).blk_cell 0 rfl
        have HS0 := hid hst0; have HQ := hid hq; have HF := hid hf; have HCL := hid hcl9; have HST := hid hfin; have HA := hid hbnd
        clear b0
        clear hsr hp htk hhl hsv hEE hEk hEh hEn hbnd hst0 hhv hq hf hcl9 hfin
        go_upto_region 11 with fail
        refine region_U (S := fun w' => w'.cell? ⟨b, 17, none⟩ = some (.slice ah En ch) ∧ w'.cell? ⟨wr.heap.size, 0, none⟩ = some (.int .i64 px) ∧ w'.cell? ⟨wr.heap.size, 1, none⟩ = some (.int .i64 py)) (u := 15) (by kernel_rfl) (HQ.out _ (HS0.out.drew.nth 1 rfl)) (fun hHeld => ?_)
        refine anyU_take (i := 0) (v := ?_) rfl (by kernel_rfl) (fun _ _ _ h => h) (Or.inl ⟨by rfl, ?_⟩) hHeld ?_
        rotate_left
        · (intro w hSw; (try dsimp only at hSw); go_simp) <;> with_reducible rfl
        try simp only [Act.put, List.setIfInBounds_toArray, List.getElem_toArray, List.getElem_cons_zero, List.getElem_cons_succ, List.set_cons_zero, List.set_cons_succ]
        refine anyU_take (i := 1) (v := ?_) rfl (by kernel_rfl) (fun _ _ _ h => h) (Or.inl ⟨by rfl, ?_⟩) hHeld ?_
        rotate_left
        · (intro w hSw; (try dsimp only at hSw); go_simp) <;> with_reducible rfl
        try simp only [Act.put, List.setIfInBounds_toArray, List.getElem_toArray, List.getElem_cons_zero, List.getElem_cons_succ, List.set_cons_zero, List.set_cons_succ]
        refine anyU_take (i := 2) (v := ?_) rfl (by kernel_rfl) (fun _ _ _ h => h) (Or.inl ⟨by rfl, ?_⟩) hHeld ?_
        rotate_left
        · (intro w hSw; (try dsimp only at hSw); go_simp) <;> with_reducible rfl
        try simp only [Act.put, List.setIfInBounds_toArray, List.getElem_toArray, List.getElem_cons_zero, List.getElem_cons_succ, List.set_cons_zero, List.set_cons_succ]
        refine anyU_take (i := 3) (v := ?_) rfl (by kernel_rfl) (fun _ _ _ h => h) (Or.inl ⟨by rfl, ?_⟩) hHeld ?_
        rotate_left
        · (intro w hSw; (try dsimp only at hSw); go_simp) <;> with_reducible rfl
        try simp only [Act.put, List.setIfInBounds_toArray, List.getElem_toArray, List.getElem_cons_zero, List.getElem_cons_succ, List.set_cons_zero, List.set_cons_succ]
        refine anyU_take (i := 4) (v := ?_) rfl (by kernel_rfl) (fun _ _ _ h => h) (Or.inl ⟨by rfl, ?_⟩) hHeld ?_
        rotate_left
        · (intro w hSw; (try dsimp only at hSw); go_simp) <;> with_reducible rfl
        try simp only [Act.put, List.setIfInBounds_toArray, List.getElem_toArray, List.getElem_cons_zero, List.getElem_cons_succ, List.set_cons_zero, List.set_cons_succ]
        refine anyU_take (i := 5) (v := ?_) rfl (by kernel_rfl) (fun _ _ _ h => h) (Or.inl ⟨by rfl, ?_⟩) hHeld ?_
        rotate_left
        · (intro w hSw; (try dsimp only at hSw); go_simp) <;> with_reducible rfl
        try simp only [Act.put, List.setIfInBounds_toArray, List.getElem_toArray, List.getElem_cons_zero, List.getElem_cons_succ, List.set_cons_zero, List.set_cons_succ]
        refine anyU_take (i := 6) (v := ?_) rfl (by kernel_rfl) (fun _ _ _ h => h) (Or.inl ⟨by rfl, ?_⟩) hHeld ?_
        rotate_left
        · (intro w hSw; (try dsimp only at hSw); go_simp) <;> with_reducible rfl
        try simp only [Act.put, List.setIfInBounds_toArray, List.getElem_toArray, List.getElem_cons_zero, List.getElem_cons_succ, List.set_cons_zero, List.set_cons_succ]
        refine anyU_take (i := 7) (v := ?_) rfl (by kernel_rfl) (fun _ _ _ h => h) (Or.inl ⟨by rfl, ?_⟩) hHeld ?_
        rotate_left
        · (intro w hSw; (try dsimp only at hSw); go_simp) <;> with_reducible rfl
        try simp only [Act.put, List.setIfInBounds_toArray, List.getElem_toArray, List.getElem_cons_zero, List.getElem_cons_succ, List.set_cons_zero, List.set_cons_succ]
        refine anyU_take (i := 8) (v := ?_) rfl (by kernel_rfl) (fun _ _ _ h => h) (Or.inl ⟨by rfl, ?_⟩) hHeld ?_
        rotate_left
        · (intro w hSw; (try dsimp only at hSw); go_simp) <;> with_reducible rfl
        try simp only [Act.put, List.setIfInBounds_toArray, List.getElem_toArray, List.getElem_cons_zero, List.getElem_cons_succ, List.set_cons_zero, List.set_cons_succ]
        refine anyU_take (i := 9) (v := ?_) rfl (by kernel_rfl) (fun _ _ _ h => h) (Or.inl ⟨by rfl, ?_⟩) hHeld ?_
        rotate_left
        · (intro w hSw; (try dsimp only at hSw); go_simp) <;> with_reducible rfl
        try simp only [Act.put, List.setIfInBounds_toArray, List.getElem_toArray, List.getElem_cons_zero, List.getElem_cons_succ, List.set_cons_zero, List.set_cons_succ]
        refine anyU_take (i := 10) (v := ?_) rfl (by kernel_rfl) (fun _ _ _ h => h) (Or.inl ⟨by rfl, ?_⟩) hHeld ?_
        rotate_left
        · (intro w hSw; (try dsimp only at hSw); go_simp) <;> with_reducible rfl
        try simp only [Act.put, List.setIfInBounds_toArray, List.getElem_toArray, List.getElem_cons_zero, List.getElem_cons_succ, List.set_cons_zero, List.set_cons_succ]
        have HS := hid HS0.out.drew
        clear hHeld
        refine anyU_world (fun w => Hid (S w0 w _)) HS (fun w1 HS => ?_)
        clear HS0
        refine anyU_next (rs := [11]) (by kernel_rfl) (by simp) ?_
        refine NextU.cons rfl (fun K hK => ?_) ?_
        · go_simp
          replace HS := hid (HS.out.alloc_slU (e := 59) (size := 4) (opc ⟨(i : Int) + 1, px, false, py⟩) 1 rfl (by unfold maxLen; omega))
          generalize w1.heap.size = b11 at HS ⊢
          refine act_any (fun w => Hid (S w0 w _)) HS (fun w2 HS => ?_)
          refine hK.out _ _ (fun _ => (HQ.out _ (HS.out.nth 2 rfl))) ?_
          clear hK K
          refine anyU_next (rs := [12]) (by kernel_rfl) (by simp) ?_
          refine NextU.cons rfl (fun K hK => ?_) ?_
          · refine step_appU rfl (.tmp 53) (.tmp 60) 55 rfl 59 i0 _ 4 32 Tryz.underlying55 hi0 hz0 hz1 hz2 rfl (by decide) HS.out 1 (by rfl) (by rfl) _ 1 1 (opc ⟨(i : Int) + 1, px, false, py⟩) (by rfl) rfl (HS.out.news_slK 0 (by rfl)) (one_op _) HA.out (by decide) ?_
            intro v12 w3 hs
            replace HS := hid hs
            clear hs
            obtain ⟨p12, c12, rfl, _, _, _⟩ := HS.out.sl_val
            refine hK.out _ _ (fun _ => (HQ.out _ (HS.out.nth 2 rfl))) ?_
            clear hK K
            try simp only [Act.put, List.setIfInBounds_toArray, List.getElem_toArray, List.getElem_cons_zero, List.getElem_cons_succ, List.set_cons_zero, List.set_cons_succ]
            refine anyU_pure (i := 13) (v := ?_) rfl (by kernel_rfl) (fun _ _ _ h => h) (Or.inl ⟨by rfl, ?_⟩) (fun _ => (HQ.out _ (HS.out.nth 2 rfl))) ?_
            rotate_left
            · (intro w _; go_simp) <;> with_reducible rfl
            try simp only [Act.put, List.setIfInBounds_toArray, List.getElem_toArray, List.getElem_cons_zero, List.getElem_cons_succ, List.set_cons_zero, List.set_cons_succ]
            refine anyU_take (i := 14) (v := ?_) rfl (by kernel_rfl) (fun _ _ _ h => h) (Or.inl ⟨by rfl, ?_⟩) (HQ.out _ (HS.out.nth 2 rfl)) ?_
            rotate_left
            · (intro w hSw; (try dsimp only at hSw); go_simp) <;> with_reducible rfl
            try simp only [Act.put, List.setIfInBounds_toArray, List.getElem_toArray, List.getElem_cons_zero, List.getElem_cons_succ, List.set_cons_zero, List.set_cons_succ]
            refine anyU_next (rs := [15]) (by kernel_rfl) (by simp) ?_
            refine NextU.cons rfl (fun K hK => ?_) ?_
            · have q1 := (HQ.out _ (HS.out.nth 2 rfl)).1
              have q2 := HF.out _ (HS.out.nth 2 rfl)
              go_simp
              refine hK.out _ _ (fun h => Bool.noConfusion (show true = false from h)) ?_
              clear hK K q1 q2
              refine anyU_done (by kernel_rfl) ?_ _
              have HZ := HS.out
              simp only [List.eraseIdx_cons_succ, List.eraseIdx_cons_zero] at HZ
              have h5 := HCL.out _ _ _ (HZ.conv (M := sl 59 4 (.slice p12 (En + 1) c12) (En + 1) (fcells opc Eh ++ opc ⟨(i : Int) + 1, px, false, py⟩) :: hiV b bs Ek EE 98 wr.heap.size px py :: sl 59 4 (.slice (some ⟨b11, 0, none⟩) 1 1) 1 (opc ⟨(i : Int) + 1, px, false, py⟩) :: LL) (by simp only [all]; ac_rfl))
              have H5 := hid h5
              clear HZ h5 HS HQ HF HCL
              go_wp2_with fail
              go_roundw
              case rel => exact ⟨j + 1, by omega, by go_num, _, HST.out _ _ H5.out⟩
              case measure => simp [intOf]; omega
            exact NextU.nil
          exact NextU.nil
        exact NextU.nil
      · obtain rfl : j = rl.length := by omega
        rw [List.take_length] at hsr
        obtain ⟨H1, hH1⟩ : ∃ H, H = e.hist ++ rl.map (fun r => (⟨(i : Int) + 1, r.1, false, r.2⟩ : Op1)) := ⟨_, rfl⟩
        rw [← hH1] at hsr
        have hs5 : S w0 wr (engO b bs { k2 with hv := hv' } { e with hist := H1 ++ ((wl.take 0).map fun r => (⟨(i : Int) + 1, r.1, true, 0⟩ : Op1)) } :: LL) := by
          rw [List.take_zero, List.map_nil, List.append_nil]; exact hsr
        have h1len : H1.length ≤ e.hist.length + N := by rw [hH1, List.length_append, List.length_map]; omega
        have hH2 : H1 ++ wl.map (fun r => (⟨(i : Int) + 1, r.1, true, 0⟩ : Op1)) = e.hist ++ toldL ((i : Int) + 1) (e.tx i) := by rw [hH1, htold, List.append_assoc]
        have H5 := hid hs5; have HH2 := hid hH2
        clear hsr hs5 hH1 hH2
        go_wp2_with fail
        go_loopw [67] (fun c wr => ∃ j : Nat, j ≤ wl.length ∧ c = .int .i64 j ∧ ∃ hv', S w0 wr (engO b bs { k2 with hv := hv' } { e with hist := H1 ++ ((wl.take j).map fun r => (⟨(i : Int) + 1, r.1, true, 0⟩ : Op1)) } :: LL)) (fun c _ => wl.length - (intOf c).toNat)
        case atStart => exact ⟨0, Nat.zero_le _, rfl, _, H5.out⟩
        case round =>
          rename World => wr
          obtain ⟨j, hj, rfl, hv', hsr⟩ := hrel
          clear H5
          by_cases hlt : j < wl.length
          · have hp : wl[j]? = some wl[j] := by simp [hlt]
            generalize wl[j] = p at hp
            have hsl := hsr
            rw [HLL.out] at hsl
            obtain ⟨gr, gro, rfl, _, d0, d1⟩ := hsl.tail.sl_pair hp
            clear hsl
            obtain ⟨px, py⟩ := p
            simp only at d0 d1
            have htk : (wl.take (j + 1)).map (fun r => (⟨(i : Int) + 1, r.1, true, 0⟩ : Op1)) = (wl.take j).map (fun r => (⟨(i : Int) + 1, r.1, true, 0⟩ : Op1)) ++ [⟨(i : Int) + 1, px, true, 0⟩] := by rw [take_succ_get hp, List.map_append]; rfl
            have hhl : ((wl.take j).map fun r => (⟨(i : Int) + 1, r.1, true, 0⟩ : Op1)).length ≤ 10 := by rw [List.length_map, List.length_take]; omega
            have hsv := (hsr.alloc #[.int .i64 px, .int .i64 py] 44)
            obtain ⟨EE, hEE⟩ : ∃ E : Eng, E = { e with hist := H1 ++ ((wl.take j).map fun r => (⟨(i : Int) + 1, r.1, true, 0⟩ : Op1)) } := ⟨_, rfl⟩
            obtain ⟨Ek, hEk⟩ : ∃ K : EngV, K = { k2 with hv := hv' } := ⟨_, rfl⟩
            obtain ⟨Eh, hEh⟩ : ∃ H, H = EE.hist := ⟨_, rfl⟩
            obtain ⟨En, hEn⟩ : ∃ m, m = Eh.length := ⟨_, rfl⟩
            have hbnd : En + 1 ≤ 1000000000000 := by
              rw [hEn, hEh, hEE]
              show (H1 ++ _).length + 1 ≤ _
              rw [List.length_append]; omega
            rw [← hEE, ← hEk] at hsv
            have hst0 : S w0 (wr.alloc (.cells #[.int .i64 px, .int .i64 py] 44)) (sl 59 4 Ek.hv En (fcells opc Eh) :: hiV b bs Ek EE 44 wr.heap.size px py :: LL) := by
              rw [hEn, hEh]
              refine (S.hi_open hsv.swap).conv ?_
              simp only [all, hiV]; ac_rfl
            obtain ⟨ah, ch, hhv, _, _, _⟩ := hst0.sl_val
            have hq : ∀ W {M : List HProp}, S w0 W (hiV b bs Ek EE 44 wr.heap.size px py :: M) → W.cell? ⟨b, 17, none⟩ = some (.slice ah En ch) ∧ W.cell? ⟨wr.heap.size, 0, none⟩ = some (.int .i64 px) ∧ W.cell? ⟨wr.heap.size, 1, none⟩ = some (.int .i64 py) := fun W M h => by
              have h1 := h.sep_elim
              exact ⟨by rw [h1.hi_see.1, hhv], h1.swap.blk_cell 0 rfl, h1.swap.blk_cell 1 rfl⟩
            have hf : ∀ W {M : List HProp}, S w0 W (hiV b bs Ek EE 44 wr.heap.size px py :: M) → W.frozen? ⟨b, 17, none⟩ = false := fun W M h => h.sep_elim.hi_see.2
            have hcl9 : ∀ W v' (Y : HProp), S w0 W (sl 59 4 v' (En + 1) (fcells opc Eh ++ opc ⟨(i : Int) + 1, px, true, 0⟩) :: hiV b bs Ek EE 44 wr.heap.size px py :: Y :: LL) → S w0 (W.setCell ⟨b, 17, none⟩ v') (engO b bs { Ek with hv := v' } { EE with hist := Eh ++ [⟨(i : Int) + 1, px, true, 0⟩] } :: LL) := fun W v' Y h => by
              rw [hEn, hEh] at h
              have h1 : S w0 W (sl 59 4 v' (EE.hist.length + 1) (fcells opc EE.hist ++ opc ⟨(i : Int) + 1, px, true, 0⟩) :: hiX b bs Ek EE :: blk wr.heap.size 44 [.int .i64 px, .int .i64 py] :: Y :: LL) := h.conv (by simp only [all, hiV]; ac_rfl)
              have h2 := h1.hi_close
              rw [← hEh] at h2
              exact (h2.conv (M := blk wr.heap.size 44 [.int .i64 px, .int .i64 py] :: Y :: engO b bs { Ek with hv := v' } { EE with hist := Eh ++ [⟨(i : Int) + 1, px, true, 0⟩] } :: LL) (by simp only [all]; ac_rfl)).tail.tail
            have hfin : ∀ W v', S w0 W (engO b bs { Ek with hv := v' } { EE with hist := Eh ++ [⟨(i : Int) + 1, px, true, 0⟩] } :: LL) → S w0 W (engO b bs { k2 with hv := v' } { e with hist := H1 ++ ((wl.take (j + 1)).map fun r => (⟨(i : Int) + 1, r.1, true, 0⟩ : Op1)) } :: LL) := fun W v' h => by
              rw [htk, ← List.append_assoc]
              rw [hEh, hEE, hEk] at h
              exact h
            rw [hhv] at hst0
            have b0 := (hsv.drew).blk_cell 0 rfl
            have HS0 := hid hst0; have HQ := hid hq; have HF := hid hf; have HCL := hid hcl9; have HST := hid hfin; have HA := hid hbnd
            clear b0
            clear hsr hp htk hhl hsv hEE hEk hEh hEn hbnd hst0 hhv hq hf hcl9 hfin
            go_upto_region 16 with fail
            refine region_U (S := fun w' => w'.cell? ⟨b, 17, none⟩ = some (.slice ah En ch) ∧ w'.cell? ⟨wr.heap.size, 0, none⟩ = some (.int .i64 px) ∧ w'.cell? ⟨wr.heap.size, 1, none⟩ = some (.int .i64 py)) (u := 13) (by kernel_rfl) (HQ.out _ (HS0.out.drew.nth 1 rfl)) (fun hHeld => ?_)
            refine anyU_take (i := 0) (v := ?_) rfl (by kernel_rfl) (fun _ _ _ h => h) (Or.inl ⟨by rfl, ?_⟩) hHeld ?_
            rotate_left
            · (intro w hSw; (try dsimp only at hSw); go_simp) <;> with_reducible rfl
            try simp only [Act.put, List.setIfInBounds_toArray, List.getElem_toArray, List.getElem_cons_zero, List.getElem_cons_succ, List.set_cons_zero, List.set_cons_succ]
            refine anyU_take (i := 1) (v := ?_) rfl (by kernel_rfl) (fun _ _ _ h => h) (Or.inl ⟨by rfl, ?_⟩) hHeld ?_
            rotate_left
            · (intro w hSw; (try dsimp only at hSw); go_simp) <;> with_reducible rfl
            try simp only [Act.put, List.setIfInBounds_toArray, List.getElem_toArray, List.getElem_cons_zero, List.getElem_cons_succ, List.set_cons_zero, List.set_cons_succ]
            refine anyU_take (i := 2) (v := ?_) rfl (by kernel_rfl) (fun _ _ _ h => h) (Or.inl ⟨by rfl, ?_⟩) hHeld ?_
            rotate_left
            · (intro w hSw; (try dsimp only at hSw); go_simp) <;> with_reducible rfl
            try simp only [Act.put, List.setIfInBounds_toArray, List.getElem_toArray, List.getElem_cons_zero, List.getElem_cons_succ, List.set_cons_zero, List.set_cons_succ]
            refine anyU_take (i := 3) (v := ?_) rfl (by kernel_rfl) (fun _ _ _ h => h) (Or.inl ⟨by rfl, ?_⟩) hHeld ?_
            rotate_left
            · (intro w hSw; (try dsimp only at hSw); go_simp) <;> with_reducible rfl
            try simp only [Act.put, List.setIfInBounds_toArray, List.getElem_toArray, List.getElem_cons_zero, List.getElem_cons_succ, List.set_cons_zero, List.set_cons_succ]
            refine anyU_take (i := 4) (v := ?_) rfl (by kernel_rfl) (fun _ _ _ h => h) (Or.inl ⟨by rfl, ?_⟩) hHeld ?_
            rotate_left
            · (intro w hSw; (try dsimp only at hSw); go_simp) <;> with_reducible rfl
            try simp only [Act.put, List.setIfInBounds_toArray, List.getElem_toArray, List.getElem_cons_zero, List.getElem_cons_succ, List.set_cons_zero, List.set_cons_succ]
            refine anyU_take (i := 5) (v := ?_) rfl (by kernel_rfl) (fun _ _ _ h => h) (Or.inl ⟨by rfl, ?_⟩) hHeld ?_
            rotate_left
            · (intro w hSw; (try dsimp only at hSw); go_simp) <;> with_reducible rfl
            try simp only [Act.put, List.setIfInBounds_toArray, List.getElem_toArray, List.getElem_cons_zero, List.getElem_cons_succ, List.set_cons_zero, List.set_cons_succ]
            refine anyU_take (i := 6) (v := ?_) rfl (by kernel_rfl) (fun _ _ _ h => h) (Or.inl ⟨by rfl, ?_⟩) hHeld ?_
            rotate_left
            · (intro w hSw; (try dsimp only at hSw); go_simp) <;> with_reducible rfl
            try simp only [Act.put, List.setIfInBounds_toArray, List.getElem_toArray, List.getElem_cons_zero, List.getElem_cons_succ, List.set_cons_zero, List.set_cons_succ]
            refine anyU_take (i := 7) (v := ?_) rfl (by kernel_rfl) (fun _ _ _ h => h) (Or.inl ⟨by rfl, ?_⟩) hHeld ?_
            rotate_left
            · (intro w hSw; (try dsimp only at hSw); go_simp) <;> with_reducible rfl
            try simp only [Act.put, List.setIfInBounds_toArray, List.getElem_toArray, List.getElem_cons_zero, List.getElem_cons_succ, List.set_cons_zero, List.set_cons_succ]
            refine anyU_take (i := 8) (v := ?_) rfl (by kernel_rfl) (fun _ _ _ h => h) (Or.inl ⟨by rfl, ?_⟩) hHeld ?_
            rotate_left
            · (intro w hSw; (try dsimp only at hSw); go_simp) <;> with_reducible rfl
            try simp only [Act.put, List.setIfInBounds_toArray, List.getElem_toArray, List.getElem_cons_zero, List.getElem_cons_succ, List.set_cons_zero, List.set_cons_succ]
            have HS := hid HS0.out.drew
            clear hHeld
            refine anyU_world (fun w => Hid (S w0 w _)) HS (fun w1 HS => ?_)
            clear HS0
            refine anyU_next (rs := [9]) (by kernel_rfl) (by simp) ?_
            refine NextU.cons rfl (fun K hK => ?_) ?_
            · go_simp
              replace HS := hid (HS.out.alloc_slU (e := 59) (size := 4) (opc ⟨(i : Int) + 1, px, true, 0⟩) 1 rfl (by unfold maxLen; omega))
              generalize w1.heap.size = b9 at HS ⊢
              refine act_any (fun w => Hid (S w0 w _)) HS (fun w2 HS => ?_)
              refine hK.out _ _ (fun _ => (HQ.out _ (HS.out.nth 2 rfl))) ?_
              clear hK K
              refine anyU_next (rs := [10]) (by kernel_rfl) (by simp) ?_
              refine NextU.cons rfl (fun K hK => ?_) ?_
              · refine step_appU rfl (.tmp 75) (.tmp 80) 55 rfl 59 i0 _ 4 32 Tryz.underlying55 hi0 hz0 hz1 hz2 rfl (by decide) HS.out 1 (by rfl) (by rfl) _ 1 1 (opc ⟨(i : Int) + 1, px, true, 0⟩) (by rfl) rfl (HS.out.news_slK 0 (by rfl)) (one_op _) HA.out (by decide) ?_
                intro v10 w3 hs
                replace HS := hid hs
                clear hs
                obtain ⟨p10, c10, rfl, _, _, _⟩ := HS.out.sl_val
                refine hK.out _ _ (fun _ => (HQ.out _ (HS.out.nth 2 rfl))) ?_
                clear hK K
                try simp only [Act.put, List.setIfInBounds_toArray, List.getElem_toArray, List.getElem_cons_zero, List.getElem_cons_succ, List.set_cons_zero, List.set_cons_succ]
                refine anyU_pure (i := 11) (v := ?_) rfl (by kernel_rfl) (fun _ _ _ h => h) (Or.inl ⟨by rfl, ?_⟩) (fun _ => (HQ.out _ (HS.out.nth 2 rfl))) ?_
                rotate_left
                · (intro w _; go_simp) <;> with_reducible rfl
                try simp only [Act.put, List.setIfInBounds_toArray, List.getElem_toArray, List.getElem_cons_zero, List.getElem_cons_succ, List.set_cons_zero, List.set_cons_succ]
                refine anyU_take (i := 12) (v := ?_) rfl (by kernel_rfl) (fun _ _ _ h => h) (Or.inl ⟨by rfl, ?_⟩) (HQ.out _ (HS.out.nth 2 rfl)) ?_
                rotate_left
                · (intro w hSw; (try dsimp only at hSw); go_simp) <;> with_reducible rfl
                try simp only [Act.put, List.setIfInBounds_toArray, List.getElem_toArray, List.getElem_cons_zero, List.getElem_cons_succ, List.set_cons_zero, List.set_cons_succ]
                refine anyU_next (rs := [13]) (by kernel_rfl) (by simp) ?_
                refine NextU.cons rfl (fun K hK => ?_) ?_
                · have q1 := (HQ.out _ (HS.out.nth 2 rfl)).1
                  have q2 := HF.out _ (HS.out.nth 2 rfl)
                  go_simp
                  refine hK.out _ _ (fun h => Bool.noConfusion (show true = false from h)) ?_
                  clear hK K q1 q2
                  refine anyU_done (by kernel_rfl) ?_ _
                  have HZ := HS.out
                  simp only [List.eraseIdx_cons_succ, List.eraseIdx_cons_zero] at HZ
                  have h5 := HCL.out _ _ _ (HZ.conv (M := sl 59 4 (.slice p10 (En + 1) c10) (En + 1) (fcells opc Eh ++ opc ⟨(i : Int) + 1, px, true, 0⟩) :: hiV b bs Ek EE 44 wr.heap.size px py :: sl 59 4 (.slice (some ⟨b9, 0, none⟩) 1 1) 1 (opc ⟨(i : Int) + 1, px, true, 0⟩) :: LL) (by simp only [all]; ac_rfl))
                  have H5 := hid h5
                  clear HZ h5 HS HQ HF HCL
                  go_wp2_with fail
                  go_roundw
                  case rel => exact ⟨j + 1, by omega, by go_num, _, HST.out _ _ H5.out⟩
                  case measure => simp [intOf]; omega
                exact NextU.nil
              exact NextU.nil
            exact NextU.nil
          · obtain rfl : j = wl.length := by omega
            rw [List.take_length, HH2.out, HLL.out] at hsr
            have hal : (e.tx i).alive = true := by simp only [Tx.alive, decide_eq_true_eq]; have := hst0i.out; omega
            have hclose : ∀ W hv' (wr' : List (Int × Int)) (V' : List Vers) (last' : Int) (M : List HProp), e.told i = ({ e with V := V', last := last', wr := wr', hist := e.hist ++ toldL ((i : Int) + 1) (e.tx i) } : Eng) →
                S w0 W (engO b bs { k2 with hv := hv' } { e with hist := e.hist ++ toldL ((i : Int) + 1) (e.tx i), wr := wr' } :: storeP 105 b 0 V' last' :: tabP 3 b 11 e.t :: M) →
                (W.cell? ⟨b, 15, none⟩ = some (.int .i64 e.count) ∧ W.frozen? ⟨b, 15, none⟩ = false ∧ W.cell? ⟨blkOf bs i, 1, none⟩ = some (.int .i64 (e.tx i).state) ∧ W.frozen? ⟨blkOf bs i, 1, none⟩ = false ∧ W.cell? ⟨blkOf bs i, 4, none⟩ = some (.int .i64 (e.tx i).ended) ∧ W.frozen? ⟨blkOf bs i, 4, none⟩ = false ∧ blkOf bs i ≠ b) ∧
                S w0 (((W.setCell ⟨b, 15, none⟩ (.int .i64 (e.count + 1))).setCell ⟨blkOf bs i, 1, none⟩ (.int .i64 2)).setCell ⟨blkOf bs i, 4, none⟩ (.int .i64 (e.count + 1))) (engP b bs (e.over2 i) :: M) := fun W hv' wr' V' last' M ht h => by
              have hc := h.eng_c.2
              have hx := (h.eng_txc (i := i) hi).2
              have hbb := eng_blk_ne (i := i) h hi
              have g1 := h.eng_count (e.count + 1)
              have g2 := g1.eng_set (i := i) (j := 1) (u := .int .i64 2) hi (fun x => { x with state := 2 }) (by decide) rfl rfl rfl rfl rfl
              have g3 := g2.eng_set (i := i) (j := 4) (u := .int .i64 (e.count + 1)) (by rw [Eng.upd_len]; exact hi) (fun x => { x with ended := e.count + 1 }) (by decide) rfl rfl rfl rfl rfl
              refine ⟨⟨hc.count, hc.free 15 (by omega) (by omega), hx.state, hx.free 1, hx.ended, hx.free 4, hbb⟩, ?_⟩
              have he2 : e.over2 i = ((({ ({ e with V := V', last := last', wr := wr', hist := e.hist ++ toldL ((i : Int) + 1) (e.tx i) } : Eng) with count := e.count + 1 } : Eng).upd i fun x => { x with state := 2 }).upd i fun x => { x with ended := e.count + 1 }) := by
                unfold Eng.over2
                rw [ht]
                unfold Eng.upd
                simp only [Eng.mk.injEq, and_true, true_and]
                apply List.ext_getElem?
                intro j
                simp only [List.getElem?_modify]
                by_cases h : i = j
                · subst h; cases e.txs[i]? <;> simp
                · simp [h]
              rw [he2]
              refine S.eng_shut (k := { k2 with hv := hv' }) (g3.conv ?_)
              simp only [all]
              show sep (engO b bs { k2 with hv := hv' } ((({ ({ e with V := V', last := last', wr := wr', hist := e.hist ++ toldL ((i : Int) + 1) (e.tx i) } : Eng) with count := e.count + 1 } : Eng).upd i fun x => { x with state := 2 }).upd i fun x => { x with ended := e.count + 1 })) (sep (storeP _ b 0 V' last') (sep (tabP _ b 11 e.t) _)) = sep (storeP _ b 0 V' last') (sep (tabP _ b 11 e.t) (sep _ _))
              ac_rfl
            have hfree : ∀ W M, S w0 W (engP b bs (e.over2 i) :: M) → Calls Tryz.prog 39 #[.pointer (some ⟨b, 0, none⟩), .int .i64 ((i : Int) + 1)] W fun r w' => r = .returned (.tuple #[]) ∧ S w0 w' (engP b bs ((e.over2 i).frees i) :: M) := fun W M h =>
              frees_any (e.over2 i).open_ w0 W b bs (e.over2 i) i M N [] (by rw [List.append_nil]; exact hov) (Nat.le_refl _) (by omega) (fun k => by have := hlines k; rw [show (e.over2 i).t = e.t from (told_txs e i).2.1]; exact this) (by rw [show (e.over2 i).t = e.t from (told_txs e i).2.1]; exact hhold) (by rw [over2_heirs]; exact hheirs) h
            have hc1 := hcnt.1
            have hc2 := hcnt.2
            have HCLO := hid hclose; have HFR := hid hfree
            clear hclose hfree
            by_cases hw0 : wl = []
            · have ht : e.told i = ({ e with V := e.V, last := e.last, wr := e.wr, hist := e.hist ++ toldL ((i : Int) + 1) (e.tx i) } : Eng) := by unfold Eng.told Eng.installed; rw [if_pos (by rw [hwle]; exact hw0)]
              obtain ⟨⟨c15, f15, x1, fx1, x4, fx4, hbb⟩, hs9⟩ := HCLO.out wr hv' e.wr e.V e.last (sl 44 2 (.slice al wl.length cl) wl.length (pcells wl) :: L) ht (hsr.conv (by simp only [all]; ac_rfl))
              have hwl0 : wl.length = 0 := by rw [hw0]; rfl
              have hbb' := Ne.symm hbb
              have HFC := hid (HFR.out _ _ hs9)
              clear hsr hs9 HCLO HFR ht hw0 hov hovo hlines hhold hheirs hwok htold HRS
              go_wp2_with fail
              with_reducible refine HFC.out.mono ?_
              rintro r w9 ⟨rfl, hs9⟩
              have H9 := hid hs9
              clear hs9 HFC
              go_wp2_with fail
              go_ret
              exact ⟨by rw [HCQ.out]; rfl, by rw [HCQ.out]; exact H9.out.swap.tail⟩
            · have hwpos : 0 < wl.length := List.length_pos_iff.2 hw0
              have hla : ∀ W (M : List HProp), S w0 W (engO b bs { k2 with hv := hv' } { e with hist := e.hist ++ toldL ((i : Int) + 1) (e.tx i) } :: sl 44 2 (.slice al wl.length cl) wl.length (pcells wl) :: storeP 105 b 0 e.V e.last :: M) → Calls Tryz.prog 37 #[.pointer (some ⟨b, 0, none⟩)] W fun r w' => r = .returned (.int .i64 e.last) ∧ W = w' := fun W M h => last_any b 0 e.last W h.tail.tail.store_last.1
              have hins : ∀ W, S w0 W (engO b bs { k2 with hv := hv' } { e with hist := e.hist ++ toldL ((i : Int) + 1) (e.tx i) } :: sl 44 2 (.slice al wl.length cl) wl.length (pcells wl) :: storeP 105 b 0 e.V e.last :: tabP 3 b 11 e.t :: L) →
                  Calls Tryz.prog 38 #[.pointer (some ⟨b, 0, none⟩), .int .i64 (e.last + 1), .slice al wl.length cl] W fun r w' => ∃ v, r = .returned v ∧ S w0 w' (engO b bs { k2 with hv := hv' } { e with hist := e.hist ++ toldL ((i : Int) + 1) (e.tx i) } :: storeP 105 b 0 (e.told i).V (e.told i).last :: tabP 3 b 11 e.t :: sl 44 2 (.slice al wl.length cl) wl.length (pcells wl) :: L) := fun W h => by
                have h1 : S w0 W (storeP 105 b 0 e.V e.last :: sl 44 2 (.slice al wl.length cl) wl.length (pcells wl) :: engO b bs { k2 with hv := hv' } { e with hist := e.hist ++ toldL ((i : Int) + 1) (e.tx i) } :: tabP 3 b 11 e.t :: L) := h.conv (by simp only [all]; ac_rfl)
                have hI := install_any w0 W b 0 e.V e.last (e.last + 1) (.slice al wl.length cl) wl _ 401 h1 RdK.own hrowle (by omega)
                have hbn := bad_none (m := 0) hwok
                have hti : e.told i = if instOk' e.last (e.last + 1) wl then ({ e with hist := e.hist ++ toldL ((i : Int) + 1) (e.tx i), V := putAll (e.last + 1) e.V wl, last := e.last + 1, wr := mput e.wr (e.last + 1) ((i : Int) + 1) } : Eng) else ({ e with hist := e.hist ++ toldL ((i : Int) + 1) (e.tx i), wr := mput e.wr (e.last + 1) ((i : Int) + 1) } : Eng) := by
                  unfold Eng.told Eng.installed
                  rw [hwle, if_neg hw0]
                refine hI.mono fun r w' h2 => ?_
                unfold InstPost at h2
                rw [hbn] at h2
                by_cases hl : e.last < e.last + 1 ∧ e.last + 1 ≤ 1099511627776
                · rw [if_pos hl] at h2
                  obtain ⟨h3, h4⟩ := h2
                  have hok' : instOk' e.last (e.last + 1) wl = true := by unfold instOk'; rw [hbn]; simp [hl]
                  rw [hok', if_pos rfl] at hti
                  refine ⟨_, h3, ?_⟩
                  rw [hti]
                  exact h4.conv (by simp only [all]; ac_rfl)
                · rw [if_neg hl] at h2
                  obtain ⟨h3, h4⟩ := h2
                  have hok' : instOk' e.last (e.last + 1) wl = false := by
                    unfold instOk'
                    rw [hbn]
                    simp only [Option.isNone_none, Bool.and_true, decide_eq_false_iff_not]
                    exact hl
                  rw [hok', if_neg (by decide)] at hti
                  refine ⟨_, h3, ?_⟩
                  rw [hti]
                  exact h4.conv (by simp only [all]; ac_rfl)
              have ht : e.told i = ({ e with V := (e.told i).V, last := (e.told i).last, wr := mput e.wr (e.last + 1) ((i : Int) + 1), hist := e.hist ++ toldL ((i : Int) + 1) (e.tx i) } : Eng) := by
                unfold Eng.told Eng.installed
                rw [hwle, if_neg hw0]
                split <;> rfl
              have hwp : ∀ W M, S w0 W (engO b bs { k2 with hv := hv' } { e with hist := e.hist ++ toldL ((i : Int) + 1) (e.tx i) } :: M) → W.cell? ⟨b, 16, none⟩ = some (.map (some k2.wb)) ∧ ∃ w', (Instr.mapUpdate 57 (.map (some k2.wb)) (.int .i64 (e.last + 1)) (.int .i64 ((i : Int) + 1))).run Tryz.prog W = .ok () w' ∧ S w0 w' (engO b bs { k2 with hv := hv' } { e with hist := e.hist ++ toldL ((i : Int) + 1) (e.tx i), wr := mput e.wr (e.last + 1) ((i : Int) + 1) } :: M) := fun W M h => ⟨h.eng_c.2.wr, eng_wrput h (e.last + 1) ((i : Int) + 1)⟩
              have hl1 := hlast.1
              have hl2 := hlast.2
              have HS5 := hid hsr; have HLA := hid (hla _ _ hsr); have HIN := hid (hins _ hsr); have HWP := hid hwp; have HT := hid ht
              clear hsr hla hins hwp ht hw0 hov hovo hlines hhold hheirs hwok htold HRS hlast
              go_wp2_with (go_at_call 37; with_reducible refine HLA.out.mono ?_; rintro r w7 ⟨rfl, rfl⟩)
              with_reducible refine HIN.out.mono ?_
              rintro r w7 ⟨vi, rfl, hs7⟩
              obtain ⟨c16, w8, u8, hs8⟩ := HWP.out _ _ hs7
              obtain ⟨⟨c15, f15, x1, fx1, x4, fx4, hbb⟩, hs9⟩ := HCLO.out w8 hv' _ _ _ _ HT.out hs8
              have hbb' := Ne.symm hbb
              have HFC := hid (HFR.out _ _ hs9)
              clear hs7 hs8 hs9 HCLO HFR HT HIN HLA HWP HS5
              go_wp2_with fail
              with_reducible refine HFC.out.mono ?_
              rintro r w9 ⟨rfl, hs9⟩
              have H9 := hid hs9
              clear hs9 HFC
              go_wp2_with fail
              go_ret
              exact ⟨by rw [HCQ.out]; rfl, by rw [HCQ.out]; exact H9.out.swap.tail⟩
  · have h0b : e.ready n ≠ 0 := h0
    rw [errV_ne h0b] at hrd
    have HRD := hid hrd
    by_cases h13 : e.ready n = 13
    · obtain ⟨i, rfl, hi, hst⟩ := ready_13 h13
      have hcq : e.commit ((i : Int) + 1) = (e.goes i 13, 13) := by
        unfold Eng.commit
        rw [if_pos h0b, if_pos h13, h13, show ((i : Int) + 1).toNat - 1 = i by omega]
      have hgo := fun W h => goes_any e.open_ w0 W b bs e i 13 L N [] hok hi (by simp [Tx.alive, hst]) (by simp) (Nat.le_refl _) (by omega) h
      rw [h13] at HRD
      have HCQ := hid hcq; have HG := hid hgo
      clear hs hO hrd h0 h0b h13 hcq hgo hok hst
      go_enter Tryz.func18, Tryz.ntmps18
      go_wp2_with fail
      with_reducible refine HRD.out.mono ?_
      rintro r w1 ⟨rfl, rfl⟩
      go_wp2_with fail
      with_reducible refine (tell_no 13 w0 _ _ hE HS.out).mono ?_
      rintro r w2 ⟨rfl, hs2⟩
      have H2 := hid (HG.out _ hs2)
      clear hs2 HG HRD
      go_wp2_with fail
      with_reducible refine H2.out.mono ?_
      rintro r w3 ⟨rfl, hs3⟩
      have H3 := hid hs3
      clear hs3 H2
      go_wp2_with fail
      go_ret
      exact ⟨by rw [HCQ.out]; rfl, by rw [HCQ.out]; exact H3.out⟩
    · have hcq : e.commit n = (e, e.ready n) := by unfold Eng.commit; rw [if_pos h0b, if_neg h13]
      have hb13 : (e.ready n == 13) = false := by simpa using h13
      have HCQ := hid hcq; have HNE := hid (errV_ne h0b)
      clear hs hO hrd h0 h0b h13 hcq hok
      generalize e.ready n = x at *
      go_enter Tryz.func18, Tryz.ntmps18
      go_wp2_with fail
      with_reducible refine HRD.out.mono ?_
      rintro r w1 ⟨rfl, rfl⟩
      go_wp2_with fail
      with_reducible refine (tell_no x w0 _ _ hE HS.out).mono ?_
      rintro r w2 ⟨rfl, hs2⟩
      have H2 := hid hs2
      clear hs2 HRD
      go_wp2_with fail
      go_ret
      exact ⟨by rw [HCQ.out, HNE.out]; rfl, by rw [HCQ.out]; exact H2.out⟩
end Go.Proofs.YtcbokjocahnlcaaGreatDoor
/- The program's store: All. -/
namespace Go.Sep
open Go Go.RowKit
def allK (f : Int → Option (Int × Int)) (k : Nat) : List (Int × Int) := match f k with | some p => [((k : Int), p.2)] | none => []
/-- What each key has: of the keys below 'n' those that have something. -/
def allL (f : Int → Option (Int × Int)) (n : Nat) : List (Int × Int) := (List.range n).flatMap (allK f)
theorem allL_succ (f : Int → Option (Int × Int)) (n : Nat) : allL f (n + 1) = allL f n ++ allK f n := by simp [allL, List.range_succ, List.flatMap_append]
theorem allK_some {f : Int → Option (Int × Int)} {k : Nat} {p : Int × Int} (h : f k = some p) : allK f k = [((k : Int), p.2)] := by unfold allK; rw [h]
theorem allK_none {f : Int → Option (Int × Int)} {k : Nat} (h : f k = none) : allK f k = [] := by unfold allK; rw [h]
theorem allL_le (f : Int → Option (Int × Int)) : ∀ n, (allL f n).length ≤ n
  | 0 => by simp [allL]
  | n + 1 => by
    rw [allL_succ, List.length_append]
    have := allL_le f n
    have : (allK f n).length ≤ 1 := by unfold allK; split <;> simp
    omega
theorem allL_congr {f g : Int → Option (Int × Int)} {n : Nat} (h : ∀ k < n, f (k : Nat) = g (k : Nat)) : allL f n = allL g n := by
  induction n with
  | zero => rfl
  | succ n ih =>
    rw [allL_succ, allL_succ, ih (fun k hk => h k (by omega))]
    unfold allK
    rw [h n (by omega)]
end Go.Sep
namespace Go.Proofs.YtcbokjocahnlcaaGreatDoor
open Go Go.RowKit Go.Sep

set_option maxRecDepth 40000 in
set_option maxHeartbeats 4000000 in
theorem sall_any (w0 w : World) (b : Nat) (V : List Vers) (last at_ : Int) (L : List HProp) (hs : S w0 w (storeP 105 b 0 V last :: L)) (hb : ∀ vs ∈ V, vs.length ≤ 2000000) :
    Calls Tryz.prog 41 #[.pointer (some ⟨b, 0, none⟩), .int .i64 at_] w fun e w' => ∃ v, e = .returned v ∧ S w0 w' (sl 44 2 v (allL (fun k => readV ((V[k.toNat]?).getD []) at_) 10).length (pcells (allL (fun k => readV ((V[k.toNat]?).getD []) at_) 10)) :: storeP 105 b 0 V last :: L) := by
  have hlen := hs.store_len
  have H2 := hid (hs.sl_nil (e := 44) (size := 2)); have HL := hid hlen; have HB := hid hb
  clear hs hlen hb
  go_enter Tryz.func41, Tryz.ntmps41
  go_wp2_with fail
  go_loopw [5, 9] (fun u cn wr => ∃ n : Nat, n ≤ 10 ∧ cn = .int .i64 n ∧ S w0 wr (sl 44 2 u (allL (fun k => readV ((V[k.toNat]?).getD []) at_) n).length (pcells (allL (fun k => readV ((V[k.toNat]?).getD []) at_) n)) :: storeP 105 b 0 V last :: L)) (fun _ cn _ => 10 - (intOf cn).toNat)
  case atStart => exact ⟨0, Nat.zero_le _, rfl, H2.out⟩
  case round =>
    rename World => wr
    obtain ⟨n, hn, rfl, hsr⟩ := hrel
    clear H2
    by_cases hlt : n < 10
    · obtain ⟨ao, co, rfl, hco, hco2, _⟩ := hsr.sl_val
      unfold maxLen at hco2
      have hle := allL_le (fun k => readV ((V[k.toNat]?).getD []) at_) n
      have hsc := allL_succ (fun k => readV ((V[k.toNat]?).getD []) at_) n
      obtain ⟨vs, hvs⟩ : ∃ vs, V[n]? = some vs := ⟨V[n]'(by rw [HL.out]; exact hlt), by simp⟩
      have hcall := read_any b 0 V last at_ n vs w0 wr _ hlt hsr.swap hvs (HB.out vs (List.mem_of_getElem? hvs))
      obtain ⟨r, hr⟩ : ∃ r, readV vs at_ = r := ⟨_, rfl⟩
      have hr2 : (fun k : Int => readV ((V[k.toNat]?).getD []) at_) (n : Nat) = r := by simp only [Int.toNat_natCast]; rw [hvs]; exact hr
      rw [hr] at hcall
      have HC := hid hcall; have HSC := hid hsc; have HR := hid hr2
      clear hcall hsc hr hr2 hsr hvs
      go_wp2_with fail
      with_reducible refine HC.out.mono ?_
      rintro e w2 ⟨rfl, hs2⟩
      unfold readAns
      cases r with
      | none =>
        have H3 := hid hs2.swap
        have hx := allK_none (f := fun k : Int => readV ((V[k.toNat]?).getD []) at_) (k := n) HR.out
        have HX := hid hx
        clear hs2 hx HC
        go_wp2_with fail
        go_roundw
        case rel => exact ⟨n + 1, by omega, by go_num, by rw [HSC.out, HX.out, List.append_nil]; exact (H3.out.alloc _ _).tail⟩
        case measure => simp [intOf]; omega
      | some p =>
        have hx := allK_some (f := fun k : Int => readV ((V[k.toNat]?).getD []) at_) (k := n) HR.out
        obtain ⟨i0, hi0, hz0, hz1, hz2⟩ := info_parts Tryz.info44
        have hs3 := (hs2.swap.alloc #[.int .i64 p.1, .int .i64 p.2] 105).tail.alloc #[.int .i64 (n : Int), .int .i64 p.2] 44
        have hn1 := news_blk hs3
        rw [World.size_alloc] at hn1
        have HX := hid hx; have HN1 := hid hn1; have H9 := hid hs3.tail
        clear hs2 hs3 hn1 hx HC
        go_wp2_with (at_builtin; refine wpList_append rfl (.tmp 21) (.tmp 26) 37 rfl 44 i0 _ 2 16 Tryz.underlying37 hi0 hz0 hz1 hz2 rfl (by decide) H9.out rfl (some ⟨w2.heap.size + 1, 0, none⟩) 1 1 [.int .i64 (n : Int), .int .i64 p.2] rfl rfl HN1.out (by simp [Value.oneCell']) (by unfold maxLen; omega) (by omega) ?_; intro v1 w5 hs1; have HS := hid hs1; clear hs1)
        go_roundw
        case rel => exact ⟨n + 1, by omega, by go_num, by rw [HSC.out, HX.out, pcells_append, List.length_append, List.length_singleton]; exact HS.out⟩
        case measure => simp [intOf]; omega
    · obtain rfl : n = 10 := by omega
      have H4 := hid hsr
      clear hsr
      go_wp2_with fail
      go_ret
      exact ⟨_, rfl, H4.out⟩
end Go.Proofs.YtcbokjocahnlcaaGreatDoor
/- The program's engine: History, All. -/
namespace Go.Proofs.YtcbokjocahnlcaaGreatDoor
open Go Go.RowKit Go.Sep

theorem opc_length (o : Op1) : (opc o).length = 4 := rfl
set_option maxHeartbeats 1000000 in
set_option maxRecDepth 20000 in
/-- slices.Clone, of what was done. -/
theorem clone_ops (w0 w : World) (v : Value) (l : List Op1) (L : List HProp) (hs : S w0 w L) (hr : RdK w0 L v l.length (fcells opc l)) (hb : l.length ≤ 1000000000000) :
    Calls Tryz.prog 40 #[v] w fun e w' => ∃ v', e = .returned v' ∧ S w0 w' (sl 59 4 v' l.length (fcells opc l) :: L) := by
  obtain ⟨a, cap, rfl, hcap, hcap2, hrd⟩ := hr w hs
  have heq := fun w => Lib.run_eql_slice_nil (P := Tryz.prog) w 55 59 a l.length cap 0 0 Tryz.underlying55
  have hlp := fcells_length opc_length l
  clear hcap2
  cases a with
  | none =>
    have hl0 : l = [] := by
      apply List.eq_nil_of_length_eq_zero
      rcases Nat.eq_zero_or_pos l.length with h | h
      · exact h
      · obtain ⟨b, o, hb, _⟩ := hrd 0 ((fcells opc l)[0]'(by omega)) (by simp)
        cases hb
    subst hl0
    simp only [List.length_nil] at heq
    have hfin : S w0 w (sl 59 4 (.slice none 0 0) 0 [] :: L) := hs.sl_nil
    have HF := hid hfin; clear hfin hs hr hrd hlp
    go_enter Tryz.func40, Tryz.ntmps40
    go_wp2_with fail
    go_ret
    exact ⟨_, rfl, HF.out⟩
  | some a =>
    obtain ⟨i0, hi0, hz0, hz1, hz2⟩ := info_parts Tryz.infoE59
    have hs1 : S w0 (w.alloc (.cells #[] 59)) (sl 59 4 (.slice (some ⟨w.heap.size, 0, none⟩) 0 0) 0 [] :: L) := (hs.alloc #[] 59).sl_blk (n := 0) (by simp) (by simp)
    have hn1 : ∀ j u, (fcells opc l)[j]? = some u → ∃ b, some a = some b ∧ (w.alloc (.cells #[] 59)).cell? (b.add j) = some u := by
      intro j u hj
      obtain ⟨b, o, hb, hc⟩ := hrd j u hj
      cases hb
      refine ⟨_, rfl, ?_⟩
      have e1 : (⟨b, o, none⟩ : Addr).add j = ⟨b, o + j, none⟩ := by unfold Addr.add; split <;> simp_all
      rw [e1, World.cell?_alloc_lt _ _ _ (World.block_lt_of_cell? w _ hc)]; exact hc
    have hone : ∀ u ∈ fcells opc l, u.oneCell' = true := by
      intro u hu
      simp only [fcells, List.mem_flatMap] at hu
      obtain ⟨p, _, hu⟩ := hu
      exact one_op p u hu
    have H1 := hid hs1; have H2 := hid hn1; have H3 := hid hone; have H4 := hid hlp
    clear hs1 hn1 hone hs hr hrd hlp
    go_enter Tryz.func40, Tryz.ntmps40
    go_wp2_with (at_builtin; refine wpList_append rfl (.tmp 5) (.tmp 6) 55 rfl 59 i0 _ 4 32 Tryz.underlying55 hi0 hz0 hz1 hz2 rfl (by decide) H1.out rfl (some a) l.length cap (fcells opc l) rfl H4.out H2.out H3.out (by unfold maxLen; omega) (by omega) ?_; intro v1 w1 hs1; have HS := hid hs1; clear hs1)
    go_ret
    exact ⟨_, rfl, by simpa using HS.out⟩

theorem ehist_any (w0 w : World) (b : Nat) (bs : List Nat) (e : Eng) (L : List HProp) (N : Nat) (U : List Task) (hok : OkT N e U) (hN : N ≤ 90000000) (hs : S w0 w (engP b bs e :: L)) :
    Calls Tryz.prog 19 #[.pointer (some ⟨b, 0, none⟩)] w fun r w' => ∃ v, r = .returned v ∧ S w0 w' (sl 59 4 v e.hist.length (fcells opc e.hist) :: engP b bs e :: L) := by
  have hcnt := hok.cnt
  have hfew := hok.few
  have hhist := hok.hist
  have hhb : (e.hist.length : Int) ≤ 400 * 90000010 := by
    have h1 : e.count * ((N : Int) + 10) ≤ 400 * ((N : Int) + 10) := Int.mul_le_mul_of_nonneg_right (by omega) (by omega)
    omega
  obtain ⟨k, hs⟩ := hs.eng_open
  have hO : S w0 w (engO b bs k e :: storeP 105 b 0 e.V e.last :: tabP 3 b 11 e.t :: L) := hs.conv (by simp only [all]; ac_rfl)
  have c17 := hO.eng_c.2.hist
  have hcl := clone_ops w0 w k.hv e.hist _ hO.hi_open RdK.own (by omega)
  have HCL := hid hcl
  clear hs hO hcl hok hhist
  go_enter Tryz.func19, Tryz.ntmps19
  go_wp2_with fail
  with_reducible refine HCL.out.mono ?_
  rintro r w' ⟨v, rfl, hs'⟩
  have H4 := hid hs'
  clear hs'
  go_wp2_with fail
  go_ret
  refine ⟨_, rfl, ?_⟩
  have h5 : S w0 w' (storeP 105 b 0 e.V e.last :: tabP 3 b 11 e.t :: engO b bs k e :: sl 59 4 v e.hist.length (fcells opc e.hist) :: L) := H4.out.conv (by simp only [all, engO, engG, hiX]; ac_rfl)
  exact (h5.eng_shut).swap
def Eng.allV (e : Eng) : List (Int × Int) := allL (fun k => readV (e.row k) e.last) 10
set_option maxRecDepth 40000 in
theorem eall_any (w0 w : World) (b : Nat) (bs : List Nat) (e : Eng) (L : List HProp) (N : Nat) (U : List Task) (hok : OkT N e U) (hs : S w0 w (engP b bs e :: L)) :
    Calls Tryz.prog 20 #[.pointer (some ⟨b, 0, none⟩)] w fun r w' => ∃ v, r = .returned v ∧ S w0 w' (sl 44 2 v e.allV.length (pcells e.allV) :: engP b bs e :: L) := by
  obtain ⟨k, hs⟩ := hs.eng_open
  have hla := last_any b 0 e.last w.drew hs.drew.store_last.1
  have hal := sall_any w0 w.drew b e.V e.last e.last _ hs.drew (fun vs hv => by have := hok.row_le vs hv; omega)
  have HLA := hid hla; have HAL := hid hal
  clear hs hla hal hok
  go_enter Tryz.func20, Tryz.ntmps20
  go_wp2_with fail
  go_region_with (first | (go_at_call 37; with_reducible refine HLA.out.mono ?_; rintro r w' ⟨rfl, rfl⟩) | (go_at_call 41; with_reducible refine HAL.out.mono ?_; rintro r w' ⟨v, rfl, hs'⟩; have H4 := hid hs'; clear hs'))
  all_goals
    go_wp2_with fail
    go_ret
    refine ⟨_, rfl, ?_⟩
    have h5 := H4.out.conv (M := storeP 105 b 0 e.V e.last :: tabP 3 b 11 e.t :: engO b bs k e :: sl 44 2 _ e.allV.length (pcells e.allV) :: L) (by simp only [all, Eng.allV, Eng.row]; ac_rfl)
    exact (h5.eng_shut).swap
end Go.Proofs.YtcbokjocahnlcaaGreatDoor
/- interleafkeep.pick. -/
namespace Go.Proofs.YtcbokjocahnlcaaGreatDoor
open Go Go.RowKit Go.Sep

def pickN (a : Int) (n : Nat) : Nat := (IntKind.u64.wrap a % n).toNat
theorem u64_wrap (a : Int) : 0 ≤ IntKind.u64.wrap a := by
  simp [IntKind.wrap, IntKind.signed, IntKind.bits]; omega
theorem pickN_lt (a : Int) {n : Nat} (h : 0 < n) : pickN a n < n := by
  unfold pickN
  have h1 := Int.emod_lt_of_pos (IntKind.u64.wrap a) (show (0 : Int) < n by omega)
  have h2 := Int.emod_nonneg (IntKind.u64.wrap a) (show (n : Int) ≠ 0 by omega)
  omega
theorem pick_any (a : Int) (n : Int) (w : World) (hn : 0 < n) (hn2 : n ≤ 1000000) : Calls Tryz.prog 16 #[.int .i64 a, .int .i64 n] w fun e w' => e = .returned (.int .i64 (pickN a n.toNat)) ∧ w = w' := by
  obtain ⟨n, rfl⟩ := Int.eq_ofNat_of_zero_le (Int.le_of_lt hn)
  have h1 := u64_wrap a
  have h2 := Int.emod_lt_of_pos (IntKind.u64.wrap a) hn
  have h3 := Int.emod_nonneg (IntKind.u64.wrap a) (show (n : Int) ≠ 0 by omega)
  have h4 : wrap64 ((IntKind.u64.wrap a).tmod n) = pickN a n := by
    rw [Int.tmod_eq_emod_of_nonneg h1, IntWalk.wrap64_in _ ⟨by omega, by omega⟩]; unfold pickN; omega
  have H4 := hid h4
  clear h1 h2 h3 h4
  go_enter Tryz.func16, Tryz.ntmps16
  go_wp2
  go_ret
  exact ⟨retI H4.out, rfl⟩

end Go.Proofs.YtcbokjocahnlcaaGreatDoor
/- An engine, and what its transactions saw: interleafkeep's tale, in plain words. No walk in sight. -/
namespace Go.Proofs.YtcbokjocahnlcaaGreatDoor
open Go Go.RowKit Go.Sep

/-- What is told of one transaction. -/
structure Rec where
  level : Int
  snap : List (Int × Int)
  own : List (Int × Int)
  reads : List (Int × Int)
  begun : Int
  over : Int
def Rec.zero : Rec := ⟨0, [], [], [], 0, 0⟩
structure Tale where
  e : Eng
  recs : List Rec
  steps : Int
  n : Int
  broken : Bool
/-- One of an engine. -/
structure Act1 where
  what : Int
  level : Int
  tx : Int
  key : Int
def Tale.start : Tale := ⟨Eng.zero, [], 0, 0, false⟩
/-- The value of a key among some; -1: none. -/
def ofL (l : List (Int × Int)) (key : Int) : Int := match l.find? (fun p => decide (p.1 = key)) with | some p => p.2 | none => -1
def Tale.one (t : Tale) (i : Nat) : Rec := (t.recs[i]?).getD .zero
def Tale.updR (t : Tale) (i : Nat) (f : Rec → Rec) : Tale := { t with recs := t.recs.modify i f }
def Tale.marked (t : Tale) (b : Bool) : Tale := { t with broken := t.broken || b }
def Tale.began (t : Tale) (level : Int) : Tale :=
  let r := t.e.begin_ level
  if r.2.2 = 0 then { t.marked (decide (r.2.1 ≠ (t.recs.length : Int) + 1)) with e := r.1, recs := t.recs ++ [⟨level, t.e.allV, [], [], t.steps, 0⟩] } else { t with e := r.1 }
def Tale.read (t : Tale) (x : Nat) (key : Int) : Tale :=
  let r := t.e.read ((x : Int) + 1) key
  let t1 : Tale := { t with e := r.1 }
  if r.2.2 ≠ 0 ∧ r.2.2 ≠ 8 then t1 else
  let v := if r.2.2 = 8 then -1 else r.2.1
  match mget (t.one x).own key with
  | some w => t1.marked (decide (v ≠ w))
  | none =>
    let want := if (t.one x).level = 0 then ofL t.e.allV key else ofL (t.one x).snap key
    (t1.marked (decide (v ≠ want))).updR x fun r => { r with reads := r.reads ++ [(key, v)] }
noncomputable def Tale.write (t : Tale) (x : Nat) (key : Int) : Tale :=
  let s := t.e.state ((x : Int) + 1)
  let r := t.e.write ((x : Int) + 1) key (t.n + 1)
  let t1 : Tale := { t with e := r.1, n := t.n + 1 }
  if s.2.2 = 0 ∧ s.1 = 0 ∧ r.2.2 = 0 then
    (t1.updR x fun q => { q with own := mput q.own key (t.n + 1) }).marked (decide (r.2.1 ≠ decide ((r.1.state ((x : Int) + 1)).1 = 0)))
  else t1
/-- Who is over now. -/
def overStep (e : Eng) (steps : Int) (i : Nat) (r : Rec) : Rec :=
  if r.over = 0 ∧ (e.state ((i : Int) + 1)).2.2 = 0 ∧ 2 ≤ (e.state ((i : Int) + 1)).1 then { r with over := steps } else r
def Tale.overs (t : Tale) : Tale := { t with recs := t.recs.mapIdx (overStep t.e t.steps) }
noncomputable def Tale.act (t : Tale) (what : Int) (x : Nat) (key : Int) : Tale :=
  if what = 1 then t.read x key else if what = 2 then t.write x key
  else if what = 3 then { t with e := (t.e.commit ((x : Int) + 1)).1 } else if what = 4 then { t with e := (t.e.abort ((x : Int) + 1)).1 } else t
noncomputable def Tale.does (t0 : Tale) (a : Act1) (level : Int) : Tale :=
  let t : Tale := { t0 with steps := t0.steps + 1 }
  let key : Int := pickN a.key 4
  if a.what = 0 then t.began (if level < 0 then (pickN a.level 3 : Int) else level)
  else if a.what = 5 then { t with e := t.e.sweep.1 }
  else if t.recs = [] then t
  else (t.act a.what (t.recs.length - pickN a.tx (min 6 t.recs.length) - 1) key).overs
end Go.Proofs.YtcbokjocahnlcaaGreatDoor
/- interleafkeep's tale: its memory. No walk in sight. -/
namespace Go.Proofs.YtcbokjocahnlcaaGreatDoor
open Go Go.RowKit Go.Sep

/-- Where what is told of one transaction lies. -/
structure RecV where
  sv : Value
  mb : Nat
  rv : Value
def RecV.none : RecV := ⟨.slice Option.none 0 0, 0, .slice Option.none 0 0⟩
def recP (v : RecV) (r : Rec) : HProp := sep (sl 44 2 v.sv r.snap.length (pcells r.snap)) (sep (mp encI (fun _ => True) v.mb (ienc r.own)) (sl 67 2 v.rv r.reads.length (pcells r.reads)))
def recPs (vs : List RecV) (rs : List Rec) : List HProp := (List.range rs.length).map fun i => recP ((vs[i]?).getD .none) ((rs[i]?).getD .zero)
/-- Where a tale's parts lie. -/
structure TaleV where
  lv : Value
  sv : Value
  ov : Value
  rv : Value
  bv : Value
  wv : Value
  vs : List RecV
def taleF (be : Nat) (k : TaleV) (t : Tale) : List Value := [.pointer (some ⟨be, 0, none⟩), k.lv, k.sv, k.ov, k.rv, k.bv, k.wv, .int .i64 t.steps, .int .i64 t.n, .bool t.broken]
def mapV (v : RecV) : Value := .map (some v.mb)
/-- A tale without its records' own parts. -/
def taleB (b be : Nat) (k : TaleV) (t : Tale) : HProp :=
  sep (pur (k.vs.length = t.recs.length)) (sep (blk b 35 (taleF be k t)) (sep (sl 3 1 k.lv t.recs.length (icells (t.recs.map (·.level)))) (sep (sl 37 1 k.sv t.recs.length (k.vs.map (·.sv))) (sep (sl 57 1 k.ov t.recs.length (k.vs.map mapV))
    (sep (sl 65 1 k.rv t.recs.length (k.vs.map (·.rv))) (sep (sl 3 1 k.bv t.recs.length (icells (t.recs.map (·.begun)))) (sl 3 1 k.wv t.recs.length (icells (t.recs.map (·.over))))))))))
def taleK (b be : Nat) (k : TaleV) (t : Tale) : HProp := sep (taleB b be k t) (all (recPs k.vs t.recs))
def taleP (b be : Nat) (t : Tale) : HProp := ex fun k => taleK b be k t

variable {w w0 : World} {L : List HProp} {b be : Nat} {k : TaleV} {t : Tale} {i : Nat}
theorem recPs_length (vs : List RecV) (rs : List Rec) : (recPs vs rs).length = rs.length := by simp [recPs]
theorem recPs_get {vs : List RecV} {rs : List Rec} {i : Nat} (h : i < (recPs vs rs).length) : (recPs vs rs)[i] = recP ((vs[i]?).getD .none) ((rs[i]?).getD .zero) := by simp [recPs]
theorem recPs_set {vs : List RecV} {rs : List Rec} {i : Nat} (hi : i < rs.length) (hv : i < vs.length) (v : RecV) (r : Rec) : (recPs vs rs).set i (recP v r) = recPs (vs.set i v) (rs.set i r) := by
  apply List.ext_getElem (by simp [recPs])
  intro j h1 h2
  rw [List.getElem_set]
  simp only [recPs, List.getElem_map, List.getElem_range, List.length_set, List.getElem?_set]
  by_cases h : i = j
  · subst h; simp [hi, hv]
  · simp [h]
theorem recPs_snoc {vs : List RecV} {rs : List Rec} (h : vs.length = rs.length) (v : RecV) (r : Rec) : recPs (vs ++ [v]) (rs ++ [r]) = recPs vs rs ++ [recP v r] := by
  apply List.ext_getElem (by simp [recPs])
  intro j h1 h2
  rw [recPs_length, List.length_append, List.length_singleton] at h1
  simp only [recPs, List.getElem_map, List.getElem_range, List.getElem_append, List.length_map, List.length_range]
  by_cases hj : j < rs.length
  · rw [dif_pos hj, List.getElem?_append_left (by omega), List.getElem?_append_left hj]
  · obtain rfl : j = rs.length := by omega
    rw [dif_neg hj, List.getElem?_append_right (by omega), List.getElem?_append_right (by omega), h]
    simp
def TaleV.v (k : TaleV) (i : Nat) : RecV := (k.vs[i]?).getD .none
theorem _root_.Go.Sep.S.tale_open (h : S w0 w (taleP b be t :: L)) : ∃ k, S w0 w (taleB b be k t :: all (recPs k.vs t.recs) :: L) := by
  obtain ⟨k, h⟩ := h.ex_elim
  exact ⟨k, h.sep_elim⟩
theorem _root_.Go.Sep.S.tale_shut (h : S w0 w (taleB b be k t :: all (recPs k.vs t.recs) :: L)) : S w0 w (taleP b be t :: L) := .ex_intro k (.sep_intro h)
/-- What a reader sees of a tale. -/
structure TaleC (w : World) (b be : Nat) (k : TaleV) (t : Tale) : Prop where
  len : k.vs.length = t.recs.length
  e : w.cell? ⟨b, 0, none⟩ = some (.pointer (some ⟨be, 0, none⟩))
  level : w.cell? ⟨b, 1, none⟩ = some k.lv
  snap : w.cell? ⟨b, 2, none⟩ = some k.sv
  own : w.cell? ⟨b, 3, none⟩ = some k.ov
  reads : w.cell? ⟨b, 4, none⟩ = some k.rv
  begun : w.cell? ⟨b, 5, none⟩ = some k.bv
  over : w.cell? ⟨b, 6, none⟩ = some k.wv
  steps : w.cell? ⟨b, 7, none⟩ = some (.int .i64 t.steps)
  n : w.cell? ⟨b, 8, none⟩ = some (.int .i64 t.n)
  broken : w.cell? ⟨b, 9, none⟩ = some (.bool t.broken)
  free : ∀ j, w.frozen? ⟨b, j, none⟩ = false
/-- A slice, element by element. -/
def RowAt (w : World) (v : Value) (n : Nat) (f : Nat → Value) : Prop := ∃ a cap, v = .slice a n cap ∧ n ≤ cap ∧ cap ≤ maxLen ∧ ∀ i, i < n → ∃ g o, a = some ⟨g, o, none⟩ ∧ w.cell? ⟨g, o + i, none⟩ = some (f i) ∧ w.frozen? ⟨g, o + i, none⟩ = false
theorem row_at {T n : Nat} {v : Value} {xs : List Value} {f : Nat → Value} (h : S w0 w (sl T 1 v n xs :: L)) (hf : ∀ i, i < n → xs[i]? = some (f i)) : RowAt w v n f := by
  obtain ⟨a, cap, h1, h2, h3, h4⟩ := h.sl_val
  exact ⟨a, cap, h1, h2, h3, fun i hi => h4 i _ (hf i hi)⟩
theorem _root_.Go.Sep.S.tale_parts (h : S w0 w (taleB b be k t :: L)) : k.vs.length = t.recs.length ∧ S w0 w (blk b 35 (taleF be k t) :: sl 3 1 k.lv t.recs.length (icells (t.recs.map (·.level))) :: sl 37 1 k.sv t.recs.length (k.vs.map (·.sv)) :: sl 57 1 k.ov t.recs.length (k.vs.map mapV) ::
    sl 65 1 k.rv t.recs.length (k.vs.map (·.rv)) :: sl 3 1 k.bv t.recs.length (icells (t.recs.map (·.begun))) :: sl 3 1 k.wv t.recs.length (icells (t.recs.map (·.over))) :: L) := by
  obtain ⟨h1, h2⟩ := h.sep_elim.pur_elim
  exact ⟨h1, h2.conv (by simp only [all]; ac_rfl)⟩
theorem _root_.Go.Sep.S.tale_join (hl : k.vs.length = t.recs.length) (h : S w0 w (blk b 35 (taleF be k t) :: sl 3 1 k.lv t.recs.length (icells (t.recs.map (·.level))) :: sl 37 1 k.sv t.recs.length (k.vs.map (·.sv)) :: sl 57 1 k.ov t.recs.length (k.vs.map mapV) ::
    sl 65 1 k.rv t.recs.length (k.vs.map (·.rv)) :: sl 3 1 k.bv t.recs.length (icells (t.recs.map (·.begun))) :: sl 3 1 k.wv t.recs.length (icells (t.recs.map (·.over))) :: L)) : S w0 w (taleB b be k t :: L) :=
  .sep_intro (.pur_intro hl (h.conv (by simp only [all]; ac_rfl)))
theorem rec_icell {g : Rec → Int} (hi : i < t.recs.length) : (icells (t.recs.map g))[i]? = some (.int .i64 (g (t.one i))) := by
  unfold Tale.one icells
  simp [hi]
theorem vs_get {α : Type} {g : RecV → α} (hl : k.vs.length = t.recs.length) (hi : i < t.recs.length) : (k.vs.map g)[i]? = some (g (k.v i)) := by
  have : i < k.vs.length := by omega
  unfold TaleV.v
  simp [this]
theorem _root_.Go.Sep.S.tale_see (h : S w0 w (taleB b be k t :: L)) : TaleC w b be k t ∧ RowAt w k.lv t.recs.length (fun i => .int .i64 (t.one i).level) ∧ RowAt w k.sv t.recs.length (fun i => (k.v i).sv) ∧ RowAt w k.ov t.recs.length (fun i => mapV (k.v i)) ∧ RowAt w k.rv t.recs.length (fun i => (k.v i).rv) ∧
    RowAt w k.bv t.recs.length (fun i => .int .i64 (t.one i).begun) ∧ RowAt w k.wv t.recs.length (fun i => .int .i64 (t.one i).over) := by
  obtain ⟨hl, h⟩ := h.tale_parts
  refine ⟨⟨hl, h.blk_cell 0 rfl, h.blk_cell 1 rfl, h.blk_cell 2 rfl, h.blk_cell 3 rfl, h.blk_cell 4 rfl, h.blk_cell 5 rfl, h.blk_cell 6 rfl, h.blk_cell 7 rfl, h.blk_cell 8 rfl, h.blk_cell 9 rfl, fun j => h.blk_free j⟩, ?_, ?_, ?_, ?_, ?_, ?_⟩
  · exact row_at h.tail fun i hi => rec_icell hi
  · exact row_at h.tail.tail fun i hi => vs_get hl hi
  · exact row_at h.tail.tail.tail fun i hi => vs_get hl hi
  · exact row_at h.tail.tail.tail.tail fun i hi => vs_get hl hi
  · exact row_at h.tail.tail.tail.tail.tail fun i hi => rec_icell hi
  · exact row_at h.tail.tail.tail.tail.tail.tail fun i hi => rec_icell hi
/-- A number, or whether it is broken, is set. -/
theorem _root_.Go.Sep.S.tale_set {j : Nat} {u : Value} {t' : Tale} (h : S w0 w (taleB b be k t :: L)) (hr : t'.recs = t.recs) (hj : j < 10) (hF : taleF be k t' = (taleF be k t).set j u) : S w0 (w.setCell ⟨b, j, none⟩ u) (taleB b be k t' :: L) := by
  obtain ⟨hl, h⟩ := h.tale_parts
  have h1 := h.blk_set j (by simpa [taleF] using hj) u
  rw [← hF] at h1
  refine S.tale_join (by rw [hr]; exact hl) ?_
  rw [hr]
  exact h1
/-- One record's own parts, taken out; and put back. -/
theorem _root_.Go.Sep.S.rec_out (h : S w0 w (all (recPs k.vs t.recs) :: L)) (hi : i < t.recs.length) : S w0 w (recP (k.v i) (t.one i) :: all ((recPs k.vs t.recs).set i emp) :: L) := by
  have hl : i < (recPs k.vs t.recs).length := by rw [recPs_length]; exact hi
  refine h.conv ?_
  simp only [all]
  rw [all_set _ i hl emp, emp_sep, all_pick _ i hl, recPs_get hl, sep_assoc]
  rfl
theorem _root_.Go.Sep.S.rec_in {v : RecV} {r : Rec} (hl : k.vs.length = t.recs.length) (hi : i < t.recs.length) (h : S w0 w (recP v r :: all ((recPs k.vs t.recs).set i emp) :: L)) : S w0 w (all (recPs (k.vs.set i v) (t.recs.set i r)) :: L) := by
  have hll : i < (recPs k.vs t.recs).length := by rw [recPs_length]; exact hi
  rw [← recPs_set hi (by omega)]
  refine h.conv ?_
  simp only [all]
  rw [all_set _ i hll (recP v r), all_set _ i hll emp, emp_sep, sep_assoc]
end Go.Proofs.YtcbokjocahnlcaaGreatDoor
namespace Go.Proofs.YtcbokjocahnlcaaGreatDoor
open Go Go.RowKit Go.Sep

theorem ofL_take {l : List (Int × Int)} {key : Int} {j : Nat} {p : Int × Int} (hp : l[j]? = some p) (hno : ∀ m < j, ∀ q, l[m]? = some q → q.1 ≠ key) (hk : p.1 = key) : ofL l key = p.2 := by
  have hl := List.getElem?_eq_some_iff.1 hp
  have h1 : l.find? (fun p => decide (p.1 = key)) = some p := by
    have e1 : l = l.take j ++ p :: l.drop (j + 1) := by
      rw [← hl.2, ← List.drop_eq_getElem_cons hl.1, List.take_append_drop]
    rw [e1, List.find?_append, List.find?_cons]
    have h2 : (l.take j).find? (fun p => decide (p.1 = key)) = none := by
      rw [List.find?_eq_none]
      intro q hq
      obtain ⟨m, hm⟩ := List.getElem?_of_mem hq
      have hml := (List.getElem?_eq_some_iff.1 hm).1
      rw [List.length_take] at hml
      rw [List.getElem?_take_of_lt (by omega)] at hm
      simpa using hno m (by omega) q hm
    rw [h2]
    simp [hk]
  unfold ofL
  rw [h1]
theorem ofL_none {l : List (Int × Int)} {key : Int} (hno : ∀ m < l.length, ∀ q, l[m]? = some q → q.1 ≠ key) : ofL l key = -1 := by
  unfold ofL
  have h2 : l.find? (fun p => decide (p.1 = key)) = none := by
    rw [List.find?_eq_none]
    intro q hq
    obtain ⟨m, hm⟩ := List.getElem?_of_mem hq
    simpa using hno m (List.getElem?_eq_some_iff.1 hm).1 q hm
  rw [h2]
theorem of_any (w0 w : World) (v : Value) (l : List (Int × Int)) (key : Int) (L : List HProp) (hs : S w0 w L) (hr : RdK w0 L v l.length (pcells l)) :
    Calls Tryz.prog 11 #[v, .int .i64 key] w fun r w' => r = .returned (.int .i64 (ofL l key)) ∧ w = w' := by
  obtain ⟨a, cap, rfl, hcap, hcap2, _⟩ := hr w hs
  unfold maxLen at hcap2
  have hp : ∀ j p, l[j]? = some p → ∃ g o, a = some ⟨g, o, none⟩ ∧ w.cell? ⟨g, o + j * 2, none⟩ = some (.int .i64 p.1) ∧ w.cell? ⟨g, o + j * 2 + 1, none⟩ = some (.int .i64 p.2) := fun j p hj => hr.pair hs hj
  have HP := hid hp
  clear hs hr hp
  go_enter Tryz.func11, Tryz.ntmps11
  go_wp2_with fail
  go_loopw [5] (fun c wr => ∃ j : Nat, j ≤ l.length ∧ c = .int .i64 j ∧ Hid (∀ m < j, ∀ q, l[m]? = some q → q.1 ≠ key) ∧ wr = w) (fun c _ => l.length - (intOf c).toNat)
  case atStart => exact ⟨0, Nat.zero_le _, rfl, hid (by omega), rfl⟩
  case round =>
    obtain ⟨j, hj, rfl, hno, rfl⟩ := hrel
    by_cases hlt : j < l.length
    · have hp : l[j]? = some l[j] := by simp [hlt]
      generalize l[j] = p at hp
      obtain ⟨g, o, rfl, c0, c1⟩ := HP.out j p hp
      by_cases hk : p.1 = key
      · have hv := ofL_take hp hno.out hk
        have hb1 : (p.1 == key) = true := by simpa using hk
        have HV := hid hv
        clear hv hno hp hk
        go_wp2_with fail
        go_ret
        exact ⟨by rw [HV.out]; rfl, rfl⟩
      · have hb1 : (p.1 == key) = false := by simpa using hk
        have hno2 : ∀ m < j + 1, ∀ q, l[m]? = some q → q.1 ≠ key := fun m hm q hq => by
          rcases Nat.lt_or_ge m j with h | h
          · exact hno.out m h q hq
          · obtain rfl : m = j := by omega
            rw [hp] at hq; cases hq; exact hk
        have HN := hid hno2
        clear hno2 hno hp hk
        go_wp2_with fail
        go_roundw
        case rel => exact ⟨j + 1, by omega, by go_num, HN, by first | rfl | trivial⟩
        case measure => simp [intOf]; omega
    · obtain rfl : j = l.length := by omega
      have hv := ofL_none hno.out
      have HV := hid hv
      clear hv hno
      go_wp2_with fail
      go_ret
      exact ⟨by rw [HV.out]; rfl, rfl⟩
/-- A tale and its engine. -/
def tale2 (b be : Nat) (t : Tale) : HProp := ex fun bs => sep (taleP b be t) (engP be bs t.e)
variable {w w0 : World} {L : List HProp} {b be : Nat} {t : Tale}
theorem _root_.Go.Sep.S.t2_open (h : S w0 w (tale2 b be t :: L)) : ∃ bs k, S w0 w (taleB b be k t :: all (recPs k.vs t.recs) :: engP be bs t.e :: L) := by
  obtain ⟨bs, h⟩ := h.ex_elim
  obtain ⟨k, h2⟩ := h.sep_elim.tale_open
  exact ⟨bs, k, h2⟩
theorem _root_.Go.Sep.S.t2_shut {bs : List Nat} {k : TaleV} (h : S w0 w (taleB b be k t :: all (recPs k.vs t.recs) :: engP be bs t.e :: L)) : S w0 w (tale2 b be t :: L) := .ex_intro bs (.sep_intro h.tale_shut)
theorem tells_any (w0 w : World) (L : List HProp) (hs : S w0 w L) :
    Calls Tryz.prog 7 #[] w fun r w' => ∃ b be, r = .returned (.pointer (some ⟨b, 0, none⟩)) ∧ S w0 w' (tale2 b be .start :: L) := by
  have hc := new_any w0 w L hs
  have HC := hid hc
  clear hc hs
  go_enter Tryz.func7, Tryz.ntmps7
  go_wp2_with fail
  with_reducible refine HC.out.mono ?_
  rintro r w1 ⟨rfl, hs1⟩
  have h2 := hs1.alloc #[.pointer (some ⟨w.heap.size + 1, 0, none⟩), .slice none 0 0, .slice none 0 0, .slice none 0 0, .slice none 0 0, .slice none 0 0, .slice none 0 0, .int .i64 0, .int .i64 0, .bool false] 35
  have h4 : ∀ W, S w0 W (blk w1.heap.size 35 [.pointer (some ⟨w.heap.size + 1, 0, none⟩), .slice none 0 0, .slice none 0 0, .slice none 0 0, .slice none 0 0, .slice none 0 0, .slice none 0 0, .int .i64 0, .int .i64 0, .bool false] :: engP (w.heap.size + 1) [] Eng.zero :: L) → S w0 W (taleB w1.heap.size (w.heap.size + 1) ⟨.slice none 0 0, .slice none 0 0, .slice none 0 0, .slice none 0 0, .slice none 0 0, .slice none 0 0, []⟩ .start :: engP (w.heap.size + 1) [] Eng.zero :: L) := fun W h2 => by
    have h3 := S.sl_nil (e := 3) (size := 1) (S.sl_nil (e := 3) (size := 1) (S.sl_nil (e := 65) (size := 1) (S.sl_nil (e := 57) (size := 1) (S.sl_nil (e := 37) (size := 1) (S.sl_nil (e := 3) (size := 1) h2)))))
    refine S.tale_join rfl (h3.conv ?_)
    simp only [all]
    show sep (sl 3 1 (.slice none 0 0) 0 []) (sep (sl 3 1 (.slice none 0 0) 0 []) (sep (sl 65 1 (.slice none 0 0) 0 []) (sep (sl 57 1 (.slice none 0 0) 0 []) (sep (sl 37 1 (.slice none 0 0) 0 []) (sep (sl 3 1 (.slice none 0 0) 0 []) _))))) = sep _ (sep (sl 3 1 (.slice none 0 0) 0 []) (sep (sl 37 1 (.slice none 0 0) 0 []) (sep (sl 57 1 (.slice none 0 0) 0 []) (sep (sl 65 1 (.slice none 0 0) 0 []) (sep (sl 3 1 (.slice none 0 0) 0 []) (sep (sl 3 1 (.slice none 0 0) 0 []) _))))))
    ac_rfl
  replace h4 := h4 _ h2
  have h5 := S.t2_shut (bs := []) (h4.conv (M := taleB w1.heap.size (w.heap.size + 1) ⟨.slice none 0 0, .slice none 0 0, .slice none 0 0, .slice none 0 0, .slice none 0 0, .slice none 0 0, []⟩ .start :: all (recPs [] []) :: engP (w.heap.size + 1) [] Eng.zero :: L) (by simp only [all, recPs, List.length_nil, List.range_zero, List.map_nil, emp_sep]))
  have H5 := hid h5
  clear h2 h4 h5 hs1
  go_wp2_with fail
  go_ret
  exact ⟨_, _, rfl, H5.out⟩
def Tale.committed (t : Tale) (i : Nat) : Bool := decide ((t.e.state ((i : Int) + 1)).2.2 = 0) && decide ((t.e.state ((i : Int) + 1)).1 = 2)
/-- State, of an engine whole. -/
theorem state2_any (w0 w : World) (b : Nat) (bs : List Nat) (e : Eng) (n : Int) (L : List HProp) (hs : S w0 w (engP b bs e :: L)) :
    Calls Tryz.prog 14 #[.pointer (some ⟨b, 0, none⟩), .int .i64 n] w fun r w' => r = .returned (.tuple #[.int .i64 (e.state n).1, .int .i64 (e.state n).2.1, errV (e.state n).2.2]) ∧ S w0 w' (engP b bs e :: L) := by
  obtain ⟨k, h⟩ := hs.eng_open
  have hO : S w0 w (engO b bs k e :: storeP 105 b 0 e.V e.last :: tabP 3 b 11 e.t :: L) := h.conv (by simp only [all]; ac_rfl)
  exact (state_any w0 w b bs k e n _ hO).mono fun r w' ⟨h1, h2⟩ => ⟨h1, S.eng_shut (k := k) (h2.conv (by simp only [all]; ac_rfl))⟩
theorem err_cases2 (e : Eng) (n : Int) : (e.state n).2.2 = 0 ∨ (e.state n).2.2 ≠ 0 := Classical.em _
theorem committed_any (w0 w : World) (b be : Nat) (t : Tale) (i : Nat) (L : List HProp) (hi : i ≤ 1000000) (hs : S w0 w (tale2 b be t :: L)) :
    Calls Tryz.prog 9 #[.pointer (some ⟨b, 0, none⟩), .int .i64 i] w fun r w' => r = .returned (.bool (t.committed i)) ∧ S w0 w' (tale2 b be t :: L) := by
  obtain ⟨bs, k, h⟩ := hs.t2_open
  have c0 := h.tale_see.1.e
  have hst := state2_any w0 w be bs t.e ((i : Int) + 1) _ h.rot3
  have hc : t.committed i = (decide ((t.e.state ((i : Int) + 1)).2.2 = 0) && decide ((t.e.state ((i : Int) + 1)).1 = 2)) := rfl
  generalize t.e.state ((i : Int) + 1) = s at *
  have HST := hid hst; have HC := hid hc
  clear hs h hst hc
  go_enter Tryz.func9, Tryz.ntmps9
  go_wp2_with fail
  with_reducible refine HST.out.mono ?_
  rintro r w' ⟨rfl, hs'⟩
  have H1 := hid (S.t2_shut (b := b) (be := be) (t := t) (bs := bs) (k := k) (hs'.conv (by simp only [all]; ac_rfl)))
  clear hs' HST
  by_cases h0 : s.2.2 = 0
  · rw [h0, errV_0]
    by_cases h2 : s.1 = 2
    · have hb2 : (s.1 == 2) = true := by simpa using h2
      have hcc : t.committed i = true := by rw [HC.out]; simp [h0, h2]
      have HCC := hid hcc
      clear h0 h2 hcc HC
      go_wp2_with fail
      go_ret
      exact ⟨by rw [HCC.out]; rfl, H1.out⟩
    · have hb2 : (s.1 == 2) = false := by simpa using h2
      have hcc : t.committed i = false := by rw [HC.out]; simp [h2]
      have HCC := hid hcc
      clear h0 h2 hcc HC
      go_wp2_with fail
      go_ret
      exact ⟨by rw [HCC.out]; rfl, H1.out⟩
  · rw [errV_ne h0]
    have hcc : t.committed i = false := by rw [HC.out]; simp [h0]
    have HCC := hid hcc
    clear h0 hcc HC
    go_wp2_with fail
    go_ret
    exact ⟨by rw [HCC.out]; rfl, H1.out⟩
end Go.Proofs.YtcbokjocahnlcaaGreatDoor
