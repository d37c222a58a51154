/- The reference's engine: Commit. -/
import Derived.Test.YtmfngjclccehaaaGreatDoorZ0
import Derived.Test.YtmfngjclccehaaaGreatDoorZ11
import Derived.Test.YtmfngjclccehaaaGreatDoorZ14
import Derived.Test.YtmfngjclccehaaaGreatDoorZ13
/- The program's engine: Commit. -/
namespace Go.Proofs.YtmfngjclccehaaaGreatDoor
open Go Go.RowKit Go.Sep
section
variable {w w0 : World} {L : List HProp} {b : Nat} {bs : List Nat} {k : EngV} {e : Eng} {i : Nat}
def hiX (b : Nat) (bs : List Nat) (k : EngV) (e : Eng) : HProp :=
 sep (pur (k.tv.length = e.txs.length)) (sep (pur (bs.length = e.txs.length ∧ (txPs bs k.tv e.txs).length = e.txs.length ∧ bs.Nodup)) (sep (shp b 67 18) (sep (cells b 14 [k.txv, .int .i64 e.count, .map (some k.wb), k.hv]) (sep (sl 120 1 k.txv e.txs.length (ptrs bs (List.range e.txs.length))) (sep (mp encI (fun _ => True) k.wb (ienc e.wr)) (all (txPs bs k.tv e.txs)))))))
theorem _root_.Go.Sep.S.hi_open (h : S w0 w (engO b bs k e :: L)) : S w0 w (sl 129 4 k.hv e.hist.length (fcells opc e.hist) :: hiX b bs k e :: L) := by
 refine h.conv ?_
 simp only [all, engO, engG, hiX]
 ac_rfl
theorem _root_.Go.Sep.S.hi_see (h : S w0 w (hiX b bs k e :: L)) : w.cell? ⟨b, 17, none⟩ = some k.hv ∧ w.frozen? ⟨b, 17, none⟩ = false := by
 have h1 := h.sep_elim.pur_elim.2.sep_elim.pur_elim.2
 have h4 : S w0 w (cells b 14 [k.txv, .int .i64 e.count, .map (some k.wb), k.hv] :: shp b 67 18 :: sl 120 1 k.txv e.txs.length (ptrs bs (List.range e.txs.length)) :: mp encI (fun _ => True) k.wb (ienc e.wr) :: all (txPs bs k.tv e.txs) :: L) := h1.conv (by simp only [all]; ac_rfl)
 exact ⟨h4.cells_cell 3 rfl, h4.cells_free 3 (show _ = some k.hv from rfl)⟩
theorem _root_.Go.Sep.S.hi_close {v' : Value} {o : Op1} (h : S w0 w (sl 129 4 v' (e.hist.length + 1) (fcells opc e.hist ++ opc o) :: hiX b bs k e :: L)) :
  S w0 (w.setCell ⟨b, 17, none⟩ v') (engO b bs { k with hv := v' } { e with hist := e.hist ++ [o] } :: L) := by
 obtain ⟨hp, h1⟩ := h.swap.sep_elim.pur_elim
 obtain ⟨hp2, h2⟩ := h1.sep_elim.pur_elim
 have h4 : S w0 w (cells b 14 [k.txv, .int .i64 e.count, .map (some k.wb), k.hv] :: shp b 67 18 :: sl 120 1 k.txv e.txs.length (ptrs bs (List.range e.txs.length)) :: mp encI (fun _ => True) k.wb (ienc e.wr) :: all (txPs bs k.tv e.txs) :: sl 129 4 v' (e.hist.length + 1) (fcells opc e.hist ++ opc o) :: L) := h2.conv (by simp only [all]; ac_rfl)
 have h5 := h4.set 3 (by simp) v'
 have e1 : fcells opc e.hist ++ opc o = fcells opc (e.hist ++ [o]) := by rw [fcells_append, fcells_one]
 have e2 : e.hist.length + 1 = (e.hist ++ [o]).length := by simp
 rw [e1, e2] at h5
 refine .sep_intro (.pur_intro hp (S.engG_join hp2 (h5.conv ?_)))
 simp only [all]
 show sep (cells b 14 [k.txv, .int .i64 e.count, .map (some k.wb), v']) _ = _
 ac_rfl
def hiV (b : Nat) (bs : List Nat) (k : EngV) (e : Eng) (T vb : Nat) (x y : Int) : HProp := sep (hiX b bs k e) (blk vb T [.int .i64 x, .int .i64 y])
theorem eng_wrput (h : S w0 w (engO b bs k e :: L)) (at_ n : Int) : ∃ w', (Instr.mapUpdate 53 (.map (some k.wb)) (.int .i64 at_) (.int .i64 n)).run Tryz.prog w = .ok () w' ∧ S w0 w' (engO b bs k { e with wr := mput e.wr at_ n } :: L) := by
 have h1 : S w0 w (mp encI (fun _ => True) k.wb (ienc e.wr) :: pur (k.tv.length = e.txs.length) :: pur (bs.length = e.txs.length ∧ (txPs bs k.tv e.txs).length = e.txs.length ∧ bs.Nodup) :: shp b 67 18 :: cells b 14 [k.txv, .int .i64 e.count, .map (some k.wb), k.hv] :: sl 120 1 k.txv e.txs.length (ptrs bs (List.range e.txs.length)) :: sl 129 4 k.hv e.hist.length (fcells opc e.hist) :: all (txPs bs k.tv e.txs) :: L) :=
  h.conv (by simp only [all, engO, engG]; ac_rfl)
 obtain ⟨w', hr, h2⟩ := h1.put Tryz.keyInt Tryz.underlying53 at_ trivial (.int .i64 n)
 refine ⟨w', hr, ?_⟩
 have e1 : mput (ienc e.wr) at_ (.int .i64 n) = ienc (mput e.wr at_ n) := ienc_put _ _ _
 rw [e1] at h2
 refine h2.conv ?_
 simp only [all, engO, engG]
 ac_rfl
end
theorem one_op (o : Op1) : ∀ u ∈ opc o, u.oneCell' = true := by
 intro u hu
 simp [opc] at hu
 rcases hu with rfl | rfl | rfl | rfl <;> rfl
theorem Tryz.infoE129 : (Tryz.prog.info? 129).map (fun i => (i.zero, i.size, i.bytes)) = some (some (.agg #[.int .i64 0, .int .i64 0, .bool false, .int .i64 0]), 4, 32) := by kernel_rfl
section
variable {e : Eng} {N : Nat} {U : List Task} {i : Nat}
theorem hold_few (h : OkT N e U) : e.t.hold.length ≤ 1000000 := by
 obtain ⟨Q, hQ⟩ := h.tab
 have := Sep.few (S := [0, 1, 2, 3, 4, 5, 6, 7, 8, 9]) hQ.hold (fun kk hk => by
  obtain ⟨p, hp, rfl⟩ := List.mem_map.1 hk
  have h1 := mget_mem hQ.hold (show (p.1, p.2) ∈ e.t.hold from hp)
  rw [hQ.tab.hold] at h1
  cases hq : Q p.1 with
  | nil => rw [hq] at h1; simp at h1
  | cons a l => have := (hQ.key p.1 a (by rw [hq]; simp)).1; unfold keyOk at this; simp; omega)
 simp at this
 omega
theorem hands_few {l : List (Int × Int)} (h : OkT N e (l.map .hand)) : l.length ≤ 1000000 := by
 have h3 : (l.map (·.2)).length ≤ e.txs.length := by
  have hap := h.apart
  have := Sep.few (S := (List.range e.txs.length).map fun m : Nat => (m : Int) + 1) (l := (l.map (·.2))) (by
   rw [List.map_map] at hap
   exact List.pairwise_map.2 ((List.pairwise_map.1 hap).imp fun h e1 => h (by simp only [Function.comp, Task.who]; rw [e1]))) (fun x hx => by
   obtain ⟨p, hp, rfl⟩ := List.mem_map.1 hx
   have h4 := h.ok (.hand p) (List.mem_map_of_mem hp)
   have h5 := h4.lt
   have h6 := (h4.hand p rfl).1
   simp only [Task.who] at h5
   simp only [List.mem_map, List.mem_range]
   exact ⟨p.2.toNat - 1, h5, by omega⟩)
  simpa using this
 have := h.few
 rw [List.length_map] at h3; omega
end
theorem bad_none : ∀ {l : Vers} {m : Nat}, (∀ p ∈ l, keyOk p.1 ∧ valOk p.2) → badAt m l = none
 | [], _, _ => rfl
 | p :: l, m, h => by
  have h1 := h p (by simp)
  unfold badAt
  rw [if_neg (by simpa using h1.1), if_neg (by simpa using h1.2)]
  exact bad_none fun q hq => h q (by simp [hq])
theorem written_ok {e : Eng} {N : Nat} {U : List Task} {i : Nat} (h : OkT N e U) (hi : i < e.txs.length) : ∀ p ∈ (e.tx i).written, keyOk p.1 ∧ valOk p.2 := by
 intro p hp
 unfold Tx.written at hp
 obtain ⟨k, hk, rfl⟩ := List.mem_map.1 hp
 rw [sortI_mem] at hk
 obtain ⟨q, hq, rfl⟩ := List.mem_map.1 hk
 have h1 := h.at hi
 have h2 := mget_mem h1.keys (show (q.1, q.2) ∈ (e.tx i).writes from hq)
 have h3 := h1.own q hq
 refine ⟨h3.1, ?_⟩
 show valOk ((mget (e.tx i).writes q.1).getD 0)
 rw [h2]; exact h3.2
set_option linter.unusedSimpArgs false in
set_option maxRecDepth 100000 in
set_option maxHeartbeats 16000000 in
theorem ecommit_any (w0 w : World) (b : Nat) (bs : List Nat) (e : Eng) (n : Int) (L : List HProp) (N : Nat) (hE : ErrT w0) (hok : OkT N e []) (hN : N ≤ 90000000) (hs : S w0 w (engP b bs e :: L)) :
  Calls Tryz.prog 22 #[.pointer (some ⟨b, 0, none⟩), .int .i64 n] w fun r w' => r = .returned (errV (e.commit n).2) ∧ S w0 w' (engP b bs (e.commit n).1 :: L) := by
 have HS := hid hs
 obtain ⟨k, hs⟩ := hs.eng_open
 have hO : S w0 w (engO b bs k e :: storeP 107 b 0 e.V e.last :: tabP 3 b 11 e.t :: L) := hs.conv (by simp only [all]; ac_rfl)
 have hrd := ready_any w0 w b bs k e n _ N [] hok hO
 by_cases h0 : e.ready n = 0
 ·obtain ⟨i, rfl, hi, hst⟩ := ready_at h0
  have hcq := commit_eq e i h0
  rw [h0, errV_0] at hrd
  have hn1 : ((i : Int) + 1) - 1 = i := by omega
  have hfew := hok.few
  have hc := hO.eng_c.2
  have c14 := hc.txs
  obtain ⟨a, cap, hv, hle, hcap, hrow⟩ := hc.row
  obtain ⟨g, o, rfl, ci⟩ := hrow i hi
  rw [hv] at c14
  unfold maxLen at hcap
  unfold ptr at ci
  have hwr := ewrites_any w0 w b bs e ((i : Int) + 1) L N [] hok HS.out
  have hwf : e.writes ((i : Int) + 1) = ((e.tx i).written, 0) := by
   unfold Eng.writes
   have : e.err ((i : Int) + 1) false = 0 := by unfold Eng.err; rw [if_neg (by omega), if_neg (by simp)]
   rw [if_neg (by rw [this]; decide), show ((i : Int) + 1).toNat - 1 = i by omega]
  rw [hwf, errV_0] at hwr
  have hrdn := hok.reads _ (Eng.tx_mem hi)
  have hwl := written_len (e.tx i)
  have hof := own_few hok hi
  have hwok := written_ok hok hi
  have hcnt := hok.cnt
  have hhist := hok.hist
  have hrowle := hok.row_le
  have hlast := hok.last
  obtain ⟨hov, hovo⟩ := hok.over2 hi (by simp [Tx.alive, hst])
  have hlines := hok.lines
  have hhold := hold_few hok
  have hheirs := hands_few hov
  rw [over2_heirs] at hheirs
  have hhb : (e.hist.length : Int) ≤ 400 * 90000010 := by
   have h1 : e.count * ((N : Int) + 10) ≤ 400 * ((N : Int) + 10) := Int.mul_le_mul_of_nonneg_right (by omega) (by omega)
   omega
  obtain ⟨wl, hwle⟩ : ∃ wl, (e.tx i).written = wl := ⟨_, rfl⟩
  obtain ⟨rl, hrle⟩ : ∃ rl, (e.tx i).reads = rl := ⟨_, rfl⟩
  have htold : toldL ((i : Int) + 1) (e.tx i) = (rl.map fun r => (⟨(i : Int) + 1, r.1, false, r.2⟩ : Op1)) ++ wl.map fun w => (⟨(i : Int) + 1, w.1, true, 0⟩ : Op1) := by unfold toldL; rw [hwle, hrle]
  rw [hwle] at hwr hwl hwok
  have hwln : wl.length ≤ 10 := by omega
  clear hwl
  have HRD := hid hrd; have HWR := hid hwr; have HCQ := hid hcq
  have hst0i := hid hst
  clear hs hO hrd hc hv hrow hwr hwf hcq hst h0
  go_enter Tryz.func22, Tryz.ntmps22
  go_wp2_with fail
  with_reducible refine HRD.out.mono ?_
  rintro r w1 ⟨rfl, rfl⟩
  go_wp2_with fail
  with_reducible refine HWR.out.mono ?_
  rintro r w2 ⟨lv, rfl, hs2⟩
  obtain ⟨al, cl, rfl, hcl, hcl2, _⟩ := hs2.sl_val
  unfold maxLen at hcl2
  obtain ⟨k2, hs3⟩ := hs2.swap.eng_open
  obtain ⟨LL, hLL⟩ : ∃ LL, LL = sl 101 2 (.slice al wl.length cl) wl.length (pcells wl) :: storeP 107 b 0 e.V e.last :: tabP 3 b 11 e.t :: L := ⟨_, rfl⟩
  have hs4 : S w0 w2 (engO b bs { k2 with hv := k2.hv } { e with hist := e.hist ++ ((rl.take 0).map fun r => (⟨(i : Int) + 1, r.1, false, r.2⟩ : Op1)) } :: LL) := by
   rw [List.take_zero, List.map_nil, List.append_nil, hLL]
   exact hs3.conv (by simp only [all]; ac_rfl)
  have hrs : ∀ W hv' H, S w0 W (engO b bs { k2 with hv := hv' } { e with hist := H } :: LL) → ∃ a cap, (k2.v i).rv = .slice a rl.length cap ∧ rl.length ≤ cap ∧ cap ≤ maxLen ∧ ∀ j p, rl[j]? = some p → ∃ g o, a = some ⟨g, o, none⟩ ∧ W.cell? ⟨g, o + j * 2, none⟩ = some (.int .i64 p.1) ∧ W.cell? ⟨g, o + j * 2 + 1, none⟩ = some (.int .i64 p.2) := fun W hv' H h => by
   have := (h.eng_txc (i := i) hi).2.rs
   rw [show (({ e with hist := H } : Eng).tx i).reads = rl from hrle] at this
   exact this
  obtain ⟨ar, cr, hrv, hcr, hcr2, _⟩ := hrs _ _ _ hs4
  unfold maxLen at hcr2
  have c5 := (hs4.eng_txc (i := i) hi).2.reads
  have e5 : (({ k2 with hv := k2.hv } : EngV).v i).rv = .slice ar rl.length cr := hrv
  rw [e5] at c5
  clear e5
  have hrs2 : ∀ W hv' H, S w0 W (engO b bs { k2 with hv := hv' } { e with hist := H } :: LL) → ∀ j p, rl[j]? = some p → ∃ g o, ar = some ⟨g, o, none⟩ ∧ W.cell? ⟨g, o + j * 2, none⟩ = some (.int .i64 p.1) ∧ W.cell? ⟨g, o + j * 2 + 1, none⟩ = some (.int .i64 p.2) := fun W hv' H h j p hj => by
   obtain ⟨a', c', h1, _, _, h4⟩ := hrs W hv' H h
   rw [hrv] at h1
   simp only [Value.slice.injEq] at h1
   obtain ⟨rfl, _, _⟩ := h1
   exact h4 j p hj
  have HRS := hid hrs2; have H4 := hid hs4; have HLL := hid hLL
  rw [hrle] at hrdn
  clear HRD HWR hs2 hs3 hs4 hLL hrs hrs2 hrv
  obtain ⟨i0, hi0, hz0, hz1, hz2⟩ := info_parts Tryz.infoE129
  go_wp2_with fail
  clear c5
  go_loopw [45] (fun c wr => ∃ j : Nat, j ≤ rl.length ∧ c = .int .i64 j ∧ ∃ hv', S w0 wr (engO b bs { k2 with hv := hv' } { e with hist := e.hist ++ ((rl.take j).map fun r => (⟨(i : Int) + 1, r.1, false, r.2⟩ : Op1)) } :: LL)) (fun c _ => rl.length - (intOf c).toNat)
  case atStart => exact ⟨0, Nat.zero_le _, rfl, _, H4.out⟩
  case round =>
   rename World => wr
   obtain ⟨j, hj, rfl, hv', hsr⟩ := hrel
   clear H4
   by_cases hlt : j < rl.length
   ·have hp : rl[j]? = some rl[j] := by simp [hlt]
    generalize rl[j] = p at hp
    obtain ⟨gr, gro, rfl, d0, d1⟩ := HRS.out _ _ _ hsr j p hp
    obtain ⟨px, py⟩ := p
    simp only at d0 d1
    have htk : (rl.take (j + 1)).map (fun r => (⟨(i : Int) + 1, r.1, false, r.2⟩ : Op1)) = (rl.take j).map (fun r => (⟨(i : Int) + 1, r.1, false, r.2⟩ : Op1)) ++ [⟨(i : Int) + 1, px, false, py⟩] := by rw [take_succ_get hp, List.map_append]; rfl
    have hhl : ((rl.take j).map fun r => (⟨(i : Int) + 1, r.1, false, r.2⟩ : Op1)).length ≤ N := by rw [List.length_map, List.length_take]; omega
    have hsv := (hsr.alloc #[.int .i64 px, .int .i64 py] 139)
    obtain ⟨EE, hEE⟩ : ∃ E : Eng, E = { e with hist := e.hist ++ ((rl.take j).map fun r => (⟨(i : Int) + 1, r.1, false, r.2⟩ : Op1)) } := ⟨_, rfl⟩
    obtain ⟨Ek, hEk⟩ : ∃ K : EngV, K = { k2 with hv := hv' } := ⟨_, rfl⟩
    obtain ⟨Eh, hEh⟩ : ∃ H, H = EE.hist := ⟨_, rfl⟩
    obtain ⟨En, hEn⟩ : ∃ m, m = Eh.length := ⟨_, rfl⟩
    have hbnd : En + 1 ≤ 1000000000000 := by
     rw [hEn, hEh, hEE]
     show (e.hist ++ _).length + 1 ≤ _
     rw [List.length_append]; omega
    rw [← hEE, ← hEk] at hsv
    have hst0 : S w0 (wr.alloc (.cells #[.int .i64 px, .int .i64 py] 139)) (sl 129 4 Ek.hv En (fcells opc Eh) :: hiV b bs Ek EE 139 wr.heap.size px py :: LL) := by
     rw [hEn, hEh]
     refine (S.hi_open hsv.swap).conv ?_
     simp only [all, hiV]; ac_rfl
    obtain ⟨ah, ch, hhv, _, _, _⟩ := hst0.sl_val
    have hq : ∀ W {M : List HProp}, S w0 W (hiV b bs Ek EE 139 wr.heap.size px py :: M) → W.cell? ⟨b, 17, none⟩ = some (.slice ah En ch) ∧ W.cell? ⟨wr.heap.size, 0, none⟩ = some (.int .i64 px) ∧ W.cell? ⟨wr.heap.size, 1, none⟩ = some (.int .i64 py) := fun W M h => by
     have h1 := h.sep_elim
     exact ⟨by rw [h1.hi_see.1, hhv], h1.swap.blk_cell 0 rfl, h1.swap.blk_cell 1 rfl⟩
    have hf : ∀ W {M : List HProp}, S w0 W (hiV b bs Ek EE 139 wr.heap.size px py :: M) → W.frozen? ⟨b, 17, none⟩ = false := fun W M h => h.sep_elim.hi_see.2
    have hcl9 : ∀ W v' (Y : HProp), S w0 W (sl 129 4 v' (En + 1) (fcells opc Eh ++ opc ⟨(i : Int) + 1, px, false, py⟩) :: hiV b bs Ek EE 139 wr.heap.size px py :: Y :: LL) → S w0 (W.setCell ⟨b, 17, none⟩ v') (engO b bs { Ek with hv := v' } { EE with hist := Eh ++ [⟨(i : Int) + 1, px, false, py⟩] } :: LL) := fun W v' Y h => by
     rw [hEn, hEh] at h
     have h1 : S w0 W (sl 129 4 v' (EE.hist.length + 1) (fcells opc EE.hist ++ opc ⟨(i : Int) + 1, px, false, py⟩) :: hiX b bs Ek EE :: blk wr.heap.size 139 [.int .i64 px, .int .i64 py] :: Y :: LL) := h.conv (by simp only [all, hiV]; ac_rfl)
     have h2 := h1.hi_close
     rw [← hEh] at h2
     exact (h2.conv (M := blk wr.heap.size 139 [.int .i64 px, .int .i64 py] :: Y :: engO b bs { Ek with hv := v' } { EE with hist := Eh ++ [⟨(i : Int) + 1, px, false, py⟩] } :: LL) (by simp only [all]; ac_rfl)).tail.tail
    have hfin : ∀ W v', S w0 W (engO b bs { Ek with hv := v' } { EE with hist := Eh ++ [⟨(i : Int) + 1, px, false, py⟩] } :: LL) → S w0 W (engO b bs { k2 with hv := v' } { e with hist := e.hist ++ ((rl.take (j + 1)).map fun r => (⟨(i : Int) + 1, r.1, false, r.2⟩ : Op1)) } :: LL) := fun W v' h => by
     rw [htk, ← List.append_assoc]
     rw [hEh, hEE, hEk] at h
     exact h
    rw [hhv] at hst0
    have b0 := (hsv.drew).blk_cell 0 rfl
    have HS0 := hid hst0; have HQ := hid hq; have HF := hid hf; have HCL := hid hcl9; have HST := hid hfin; have HA := hid hbnd
    clear b0
    clear hsr hp htk hhl hsv hEE hEk hEh hEn hbnd hst0 hhv hq hf hcl9 hfin
    go_upto_region 11 with fail
    refine region_U (S := fun w' => w'.cell? ⟨b, 17, none⟩ = some (.slice ah En ch) ∧ w'.cell? ⟨wr.heap.size, 0, none⟩ = some (.int .i64 px) ∧ w'.cell? ⟨wr.heap.size, 1, none⟩ = some (.int .i64 py)) (u := 15) (by kernel_rfl) (HQ.out _ (HS0.out.drew.nth 1 rfl)) (fun hHeld => ?_)
    refine anyU_take (i := 0) (v := ?_) rfl (by kernel_rfl) (fun _ _ _ h => h) (Or.inl ⟨by rfl, ?_⟩) hHeld ?_
    rotate_left
    ·(intro w hSw; (try dsimp only at hSw); go_simp) <;> with_reducible rfl
    try simp only [putU]
    refine anyU_take (i := 1) (v := ?_) rfl (by kernel_rfl) (fun _ _ _ h => h) (Or.inl ⟨by rfl, ?_⟩) hHeld ?_
    rotate_left
    ·(intro w hSw; (try dsimp only at hSw); go_simp) <;> with_reducible rfl
    try simp only [putU]
    refine anyU_take (i := 2) (v := ?_) rfl (by kernel_rfl) (fun _ _ _ h => h) (Or.inl ⟨by rfl, ?_⟩) hHeld ?_
    rotate_left
    ·(intro w hSw; (try dsimp only at hSw); go_simp) <;> with_reducible rfl
    try simp only [putU]
    refine anyU_take (i := 3) (v := ?_) rfl (by kernel_rfl) (fun _ _ _ h => h) (Or.inl ⟨by rfl, ?_⟩) hHeld ?_
    rotate_left
    ·(intro w hSw; (try dsimp only at hSw); go_simp) <;> with_reducible rfl
    try simp only [putU]
    refine anyU_take (i := 4) (v := ?_) rfl (by kernel_rfl) (fun _ _ _ h => h) (Or.inl ⟨by rfl, ?_⟩) hHeld ?_
    rotate_left
    ·(intro w hSw; (try dsimp only at hSw); go_simp) <;> with_reducible rfl
    try simp only [putU]
    refine anyU_take (i := 5) (v := ?_) rfl (by kernel_rfl) (fun _ _ _ h => h) (Or.inl ⟨by rfl, ?_⟩) hHeld ?_
    rotate_left
    ·(intro w hSw; (try dsimp only at hSw); go_simp) <;> with_reducible rfl
    try simp only [putU]
    refine anyU_take (i := 6) (v := ?_) rfl (by kernel_rfl) (fun _ _ _ h => h) (Or.inl ⟨by rfl, ?_⟩) hHeld ?_
    rotate_left
    ·(intro w hSw; (try dsimp only at hSw); go_simp) <;> with_reducible rfl
    try simp only [putU]
    refine anyU_take (i := 7) (v := ?_) rfl (by kernel_rfl) (fun _ _ _ h => h) (Or.inl ⟨by rfl, ?_⟩) hHeld ?_
    rotate_left
    ·(intro w hSw; (try dsimp only at hSw); go_simp) <;> with_reducible rfl
    try simp only [putU]
    refine anyU_take (i := 8) (v := ?_) rfl (by kernel_rfl) (fun _ _ _ h => h) (Or.inl ⟨by rfl, ?_⟩) hHeld ?_
    rotate_left
    ·(intro w hSw; (try dsimp only at hSw); go_simp) <;> with_reducible rfl
    try simp only [putU]
    refine anyU_take (i := 9) (v := ?_) rfl (by kernel_rfl) (fun _ _ _ h => h) (Or.inl ⟨by rfl, ?_⟩) hHeld ?_
    rotate_left
    ·(intro w hSw; (try dsimp only at hSw); go_simp) <;> with_reducible rfl
    try simp only [putU]
    refine anyU_take (i := 10) (v := ?_) rfl (by kernel_rfl) (fun _ _ _ h => h) (Or.inl ⟨by rfl, ?_⟩) hHeld ?_
    rotate_left
    ·(intro w hSw; (try dsimp only at hSw); go_simp) <;> with_reducible rfl
    try simp only [putU]
    have HS := hid HS0.out.drew
    clear hHeld
    refine anyU_world (fun w => Hid (S w0 w _)) HS (fun w1 HS => ?_)
    clear HS0
    refine anyU_next (rs := [11]) (by kernel_rfl) (by simp) ?_
    refine NextU.cons rfl (fun K hK => ?_) ?_
    ·go_simp
     replace HS := hid (HS.out.alloc_slU (e := 129) (size := 4) (opc ⟨(i : Int) + 1, px, false, py⟩) 1 rfl (by unfold maxLen; omega))
     generalize w1.heap.size = b11 at HS ⊢
     refine act_any (fun w => Hid (S w0 w _)) HS (fun w2 HS => ?_)
     refine hK.out _ _ (fun _ => (HQ.out _ (HS.out.nth 2 rfl))) ?_
     clear hK K
     refine anyU_next (rs := [12]) (by kernel_rfl) (by simp) ?_
     refine NextU.cons rfl (fun K hK => ?_) ?_
     ·refine step_appU rfl (.tmp 53) (.tmp 60) 54 rfl 129 i0 _ 4 32 Tryz.underlying54 hi0 hz0 hz1 hz2 rfl (by decide) HS.out 1 (by rfl) (by rfl) _ 1 1 (opc ⟨(i : Int) + 1, px, false, py⟩) (by rfl) rfl (HS.out.news_slK 0 (by rfl)) (one_op _) HA.out (by decide) ?_
      intro v12 w3 hs
      replace HS := hid hs
      clear hs
      obtain ⟨p12, c12, rfl, _, _, _⟩ := HS.out.sl_val
      refine hK.out _ _ (fun _ => (HQ.out _ (HS.out.nth 2 rfl))) ?_
      clear hK K
      try simp only [putU]
      refine anyU_pure (i := 13) (v := ?_) rfl (by kernel_rfl) (fun _ _ _ h => h) (Or.inl ⟨by rfl, ?_⟩) (fun _ => (HQ.out _ (HS.out.nth 2 rfl))) ?_
      rotate_left
      ·(intro w _; go_simp) <;> with_reducible rfl
      try simp only [putU]
      refine anyU_take (i := 14) (v := ?_) rfl (by kernel_rfl) (fun _ _ _ h => h) (Or.inl ⟨by rfl, ?_⟩) (HQ.out _ (HS.out.nth 2 rfl)) ?_
      rotate_left
      ·(intro w hSw; (try dsimp only at hSw); go_simp) <;> with_reducible rfl
      try simp only [putU]
      refine anyU_next (rs := [15]) (by kernel_rfl) (by simp) ?_
      refine NextU.cons rfl (fun K hK => ?_) ?_
      ·have q1 := (HQ.out _ (HS.out.nth 2 rfl)).1
       have q2 := HF.out _ (HS.out.nth 2 rfl)
       go_simp
       refine hK.out _ _ (fun h => Bool.noConfusion (show true = false from h)) ?_
       clear hK K q1 q2
       refine anyU_done (by kernel_rfl) ?_ _
       have HZ := HS.out
       simp only [List.eraseIdx_cons_succ, List.eraseIdx_cons_zero] at HZ
       have h5 := HCL.out _ _ _ (HZ.conv (M := sl 129 4 (.slice p12 (En + 1) c12) (En + 1) (fcells opc Eh ++ opc ⟨(i : Int) + 1, px, false, py⟩) :: hiV b bs Ek EE 139 wr.heap.size px py :: sl 129 4 (.slice (some ⟨b11, 0, none⟩) 1 1) 1 (opc ⟨(i : Int) + 1, px, false, py⟩) :: LL) (by simp only [all]; ac_rfl))
       have H5 := hid h5
       clear HZ h5 HS HQ HF HCL
       go_wp2_with fail
       go_roundw
       case rel => exact ⟨j + 1, by omega, by go_num, _, HST.out _ _ H5.out⟩
       case measure => simp [intOf]; omega
      exact NextU.nil
     exact NextU.nil
    exact NextU.nil
   ·obtain rfl : j = rl.length := by omega
    rw [List.take_length] at hsr
    obtain ⟨H1, hH1⟩ : ∃ H, H = e.hist ++ rl.map (fun r => (⟨(i : Int) + 1, r.1, false, r.2⟩ : Op1)) := ⟨_, rfl⟩
    rw [← hH1] at hsr
    have hs5 : S w0 wr (engO b bs { k2 with hv := hv' } { e with hist := H1 ++ ((wl.take 0).map fun r => (⟨(i : Int) + 1, r.1, true, 0⟩ : Op1)) } :: LL) := by
     rw [List.take_zero, List.map_nil, List.append_nil]; exact hsr
    have h1len : H1.length ≤ e.hist.length + N := by rw [hH1, List.length_append, List.length_map]; omega
    have hH2 : H1 ++ wl.map (fun r => (⟨(i : Int) + 1, r.1, true, 0⟩ : Op1)) = e.hist ++ toldL ((i : Int) + 1) (e.tx i) := by rw [hH1, htold, List.append_assoc]
    have H5 := hid hs5; have HH2 := hid hH2
    clear hsr hs5 hH1 hH2
    go_wp2_with fail
    go_loopw [67] (fun c wr => ∃ j : Nat, j ≤ wl.length ∧ c = .int .i64 j ∧ ∃ hv', S w0 wr (engO b bs { k2 with hv := hv' } { e with hist := H1 ++ ((wl.take j).map fun r => (⟨(i : Int) + 1, r.1, true, 0⟩ : Op1)) } :: LL)) (fun c _ => wl.length - (intOf c).toNat)
    case atStart => exact ⟨0, Nat.zero_le _, rfl, _, H5.out⟩
    case round =>
     rename World => wr
     obtain ⟨j, hj, rfl, hv', hsr⟩ := hrel
     clear H5
     by_cases hlt : j < wl.length
     ·have hp : wl[j]? = some wl[j] := by simp [hlt]
      generalize wl[j] = p at hp
      have hsl := hsr
      rw [HLL.out] at hsl
      obtain ⟨gr, gro, rfl, _, d0, d1⟩ := hsl.tail.sl_pair hp
      clear hsl
      obtain ⟨px, py⟩ := p
      simp only at d0 d1
      have htk : (wl.take (j + 1)).map (fun r => (⟨(i : Int) + 1, r.1, true, 0⟩ : Op1)) = (wl.take j).map (fun r => (⟨(i : Int) + 1, r.1, true, 0⟩ : Op1)) ++ [⟨(i : Int) + 1, px, true, 0⟩] := by rw [take_succ_get hp, List.map_append]; rfl
      have hhl : ((wl.take j).map fun r => (⟨(i : Int) + 1, r.1, true, 0⟩ : Op1)).length ≤ 10 := by rw [List.length_map, List.length_take]; omega
      have hsv := (hsr.alloc #[.int .i64 px, .int .i64 py] 101)
      obtain ⟨EE, hEE⟩ : ∃ E : Eng, E = { e with hist := H1 ++ ((wl.take j).map fun r => (⟨(i : Int) + 1, r.1, true, 0⟩ : Op1)) } := ⟨_, rfl⟩
      obtain ⟨Ek, hEk⟩ : ∃ K : EngV, K = { k2 with hv := hv' } := ⟨_, rfl⟩
      obtain ⟨Eh, hEh⟩ : ∃ H, H = EE.hist := ⟨_, rfl⟩
      obtain ⟨En, hEn⟩ : ∃ m, m = Eh.length := ⟨_, rfl⟩
      have hbnd : En + 1 ≤ 1000000000000 := by
       rw [hEn, hEh, hEE]
       show (H1 ++ _).length + 1 ≤ _
       rw [List.length_append]; omega
      rw [← hEE, ← hEk] at hsv
      have hst0 : S w0 (wr.alloc (.cells #[.int .i64 px, .int .i64 py] 101)) (sl 129 4 Ek.hv En (fcells opc Eh) :: hiV b bs Ek EE 101 wr.heap.size px py :: LL) := by
       rw [hEn, hEh]
       refine (S.hi_open hsv.swap).conv ?_
       simp only [all, hiV]; ac_rfl
      obtain ⟨ah, ch, hhv, _, _, _⟩ := hst0.sl_val
      have hq : ∀ W {M : List HProp}, S w0 W (hiV b bs Ek EE 101 wr.heap.size px py :: M) → W.cell? ⟨b, 17, none⟩ = some (.slice ah En ch) ∧ W.cell? ⟨wr.heap.size, 0, none⟩ = some (.int .i64 px) ∧ W.cell? ⟨wr.heap.size, 1, none⟩ = some (.int .i64 py) := fun W M h => by
       have h1 := h.sep_elim
       exact ⟨by rw [h1.hi_see.1, hhv], h1.swap.blk_cell 0 rfl, h1.swap.blk_cell 1 rfl⟩
      have hf : ∀ W {M : List HProp}, S w0 W (hiV b bs Ek EE 101 wr.heap.size px py :: M) → W.frozen? ⟨b, 17, none⟩ = false := fun W M h => h.sep_elim.hi_see.2
      have hcl9 : ∀ W v' (Y : HProp), S w0 W (sl 129 4 v' (En + 1) (fcells opc Eh ++ opc ⟨(i : Int) + 1, px, true, 0⟩) :: hiV b bs Ek EE 101 wr.heap.size px py :: Y :: LL) → S w0 (W.setCell ⟨b, 17, none⟩ v') (engO b bs { Ek with hv := v' } { EE with hist := Eh ++ [⟨(i : Int) + 1, px, true, 0⟩] } :: LL) := fun W v' Y h => by
       rw [hEn, hEh] at h
       have h1 : S w0 W (sl 129 4 v' (EE.hist.length + 1) (fcells opc EE.hist ++ opc ⟨(i : Int) + 1, px, true, 0⟩) :: hiX b bs Ek EE :: blk wr.heap.size 101 [.int .i64 px, .int .i64 py] :: Y :: LL) := h.conv (by simp only [all, hiV]; ac_rfl)
       have h2 := h1.hi_close
       rw [← hEh] at h2
       exact (h2.conv (M := blk wr.heap.size 101 [.int .i64 px, .int .i64 py] :: Y :: engO b bs { Ek with hv := v' } { EE with hist := Eh ++ [⟨(i : Int) + 1, px, true, 0⟩] } :: LL) (by simp only [all]; ac_rfl)).tail.tail
      have hfin : ∀ W v', S w0 W (engO b bs { Ek with hv := v' } { EE with hist := Eh ++ [⟨(i : Int) + 1, px, true, 0⟩] } :: LL) → S w0 W (engO b bs { k2 with hv := v' } { e with hist := H1 ++ ((wl.take (j + 1)).map fun r => (⟨(i : Int) + 1, r.1, true, 0⟩ : Op1)) } :: LL) := fun W v' h => by
       rw [htk, ← List.append_assoc]
       rw [hEh, hEE, hEk] at h
       exact h
      rw [hhv] at hst0
      have b0 := (hsv.drew).blk_cell 0 rfl
      have HS0 := hid hst0; have HQ := hid hq; have HF := hid hf; have HCL := hid hcl9; have HST := hid hfin; have HA := hid hbnd
      clear b0
      clear hsr hp htk hhl hsv hEE hEk hEh hEn hbnd hst0 hhv hq hf hcl9 hfin
      go_upto_region 16 with fail
      refine region_U (S := fun w' => w'.cell? ⟨b, 17, none⟩ = some (.slice ah En ch) ∧ w'.cell? ⟨wr.heap.size, 0, none⟩ = some (.int .i64 px) ∧ w'.cell? ⟨wr.heap.size, 1, none⟩ = some (.int .i64 py)) (u := 13) (by kernel_rfl) (HQ.out _ (HS0.out.drew.nth 1 rfl)) (fun hHeld => ?_)
      refine anyU_take (i := 0) (v := ?_) rfl (by kernel_rfl) (fun _ _ _ h => h) (Or.inl ⟨by rfl, ?_⟩) hHeld ?_
      rotate_left
      ·(intro w hSw; (try dsimp only at hSw); go_simp) <;> with_reducible rfl
      try simp only [putU]
      refine anyU_take (i := 1) (v := ?_) rfl (by kernel_rfl) (fun _ _ _ h => h) (Or.inl ⟨by rfl, ?_⟩) hHeld ?_
      rotate_left
      ·(intro w hSw; (try dsimp only at hSw); go_simp) <;> with_reducible rfl
      try simp only [putU]
      refine anyU_take (i := 2) (v := ?_) rfl (by kernel_rfl) (fun _ _ _ h => h) (Or.inl ⟨by rfl, ?_⟩) hHeld ?_
      rotate_left
      ·(intro w hSw; (try dsimp only at hSw); go_simp) <;> with_reducible rfl
      try simp only [putU]
      refine anyU_take (i := 3) (v := ?_) rfl (by kernel_rfl) (fun _ _ _ h => h) (Or.inl ⟨by rfl, ?_⟩) hHeld ?_
      rotate_left
      ·(intro w hSw; (try dsimp only at hSw); go_simp) <;> with_reducible rfl
      try simp only [putU]
      refine anyU_take (i := 4) (v := ?_) rfl (by kernel_rfl) (fun _ _ _ h => h) (Or.inl ⟨by rfl, ?_⟩) hHeld ?_
      rotate_left
      ·(intro w hSw; (try dsimp only at hSw); go_simp) <;> with_reducible rfl
      try simp only [putU]
      refine anyU_take (i := 5) (v := ?_) rfl (by kernel_rfl) (fun _ _ _ h => h) (Or.inl ⟨by rfl, ?_⟩) hHeld ?_
      rotate_left
      ·(intro w hSw; (try dsimp only at hSw); go_simp) <;> with_reducible rfl
      try simp only [putU]
      refine anyU_take (i := 6) (v := ?_) rfl (by kernel_rfl) (fun _ _ _ h => h) (Or.inl ⟨by rfl, ?_⟩) hHeld ?_
      rotate_left
      ·(intro w hSw; (try dsimp only at hSw); go_simp) <;> with_reducible rfl
      try simp only [putU]
      refine anyU_take (i := 7) (v := ?_) rfl (by kernel_rfl) (fun _ _ _ h => h) (Or.inl ⟨by rfl, ?_⟩) hHeld ?_
      rotate_left
      ·(intro w hSw; (try dsimp only at hSw); go_simp) <;> with_reducible rfl
      try simp only [putU]
      refine anyU_take (i := 8) (v := ?_) rfl (by kernel_rfl) (fun _ _ _ h => h) (Or.inl ⟨by rfl, ?_⟩) hHeld ?_
      rotate_left
      ·(intro w hSw; (try dsimp only at hSw); go_simp) <;> with_reducible rfl
      try simp only [putU]
      have HS := hid HS0.out.drew
      clear hHeld
      refine anyU_world (fun w => Hid (S w0 w _)) HS (fun w1 HS => ?_)
      clear HS0
      refine anyU_next (rs := [9]) (by kernel_rfl) (by simp) ?_
      refine NextU.cons rfl (fun K hK => ?_) ?_
      ·go_simp
       replace HS := hid (HS.out.alloc_slU (e := 129) (size := 4) (opc ⟨(i : Int) + 1, px, true, 0⟩) 1 rfl (by unfold maxLen; omega))
       generalize w1.heap.size = b9 at HS ⊢
       refine act_any (fun w => Hid (S w0 w _)) HS (fun w2 HS => ?_)
       refine hK.out _ _ (fun _ => (HQ.out _ (HS.out.nth 2 rfl))) ?_
       clear hK K
       refine anyU_next (rs := [10]) (by kernel_rfl) (by simp) ?_
       refine NextU.cons rfl (fun K hK => ?_) ?_
       ·refine step_appU rfl (.tmp 75) (.tmp 80) 54 rfl 129 i0 _ 4 32 Tryz.underlying54 hi0 hz0 hz1 hz2 rfl (by decide) HS.out 1 (by rfl) (by rfl) _ 1 1 (opc ⟨(i : Int) + 1, px, true, 0⟩) (by rfl) rfl (HS.out.news_slK 0 (by rfl)) (one_op _) HA.out (by decide) ?_
        intro v10 w3 hs
        replace HS := hid hs
        clear hs
        obtain ⟨p10, c10, rfl, _, _, _⟩ := HS.out.sl_val
        refine hK.out _ _ (fun _ => (HQ.out _ (HS.out.nth 2 rfl))) ?_
        clear hK K
        try simp only [putU]
        refine anyU_pure (i := 11) (v := ?_) rfl (by kernel_rfl) (fun _ _ _ h => h) (Or.inl ⟨by rfl, ?_⟩) (fun _ => (HQ.out _ (HS.out.nth 2 rfl))) ?_
        rotate_left
        ·(intro w _; go_simp) <;> with_reducible rfl
        try simp only [putU]
        refine anyU_take (i := 12) (v := ?_) rfl (by kernel_rfl) (fun _ _ _ h => h) (Or.inl ⟨by rfl, ?_⟩) (HQ.out _ (HS.out.nth 2 rfl)) ?_
        rotate_left
        ·(intro w hSw; (try dsimp only at hSw); go_simp) <;> with_reducible rfl
        try simp only [putU]
        refine anyU_next (rs := [13]) (by kernel_rfl) (by simp) ?_
        refine NextU.cons rfl (fun K hK => ?_) ?_
        ·have q1 := (HQ.out _ (HS.out.nth 2 rfl)).1
         have q2 := HF.out _ (HS.out.nth 2 rfl)
         go_simp
         refine hK.out _ _ (fun h => Bool.noConfusion (show true = false from h)) ?_
         clear hK K q1 q2
         refine anyU_done (by kernel_rfl) ?_ _
         have HZ := HS.out
         simp only [List.eraseIdx_cons_succ, List.eraseIdx_cons_zero] at HZ
         have h5 := HCL.out _ _ _ (HZ.conv (M := sl 129 4 (.slice p10 (En + 1) c10) (En + 1) (fcells opc Eh ++ opc ⟨(i : Int) + 1, px, true, 0⟩) :: hiV b bs Ek EE 101 wr.heap.size px py :: sl 129 4 (.slice (some ⟨b9, 0, none⟩) 1 1) 1 (opc ⟨(i : Int) + 1, px, true, 0⟩) :: LL) (by simp only [all]; ac_rfl))
         have H5 := hid h5
         clear HZ h5 HS HQ HF HCL
         go_wp2_with fail
         go_roundw
         case rel => exact ⟨j + 1, by omega, by go_num, _, HST.out _ _ H5.out⟩
         case measure => simp [intOf]; omega
        exact NextU.nil
       exact NextU.nil
      exact NextU.nil
     ·obtain rfl : j = wl.length := by omega
      rw [List.take_length, HH2.out, HLL.out] at hsr
      have hal : (e.tx i).alive = true := by simp only [Tx.alive, decide_eq_true_eq]; have := hst0i.out; omega
      have hclose : ∀ W hv' (wr' : List (Int × Int)) (V' : List Vers) (last' : Int) (M : List HProp), e.told i = ({ e with V := V', last := last', wr := wr', hist := e.hist ++ toldL ((i : Int) + 1) (e.tx i) } : Eng) →
        S w0 W (engO b bs { k2 with hv := hv' } { e with hist := e.hist ++ toldL ((i : Int) + 1) (e.tx i), wr := wr' } :: storeP 107 b 0 V' last' :: tabP 3 b 11 e.t :: M) →
        (W.cell? ⟨b, 15, none⟩ = some (.int .i64 e.count) ∧ W.frozen? ⟨b, 15, none⟩ = false ∧ W.cell? ⟨blkOf bs i, 1, none⟩ = some (.int .i64 (e.tx i).state) ∧ W.frozen? ⟨blkOf bs i, 1, none⟩ = false ∧ W.cell? ⟨blkOf bs i, 4, none⟩ = some (.int .i64 (e.tx i).ended) ∧ W.frozen? ⟨blkOf bs i, 4, none⟩ = false ∧ blkOf bs i ≠ b) ∧
        S w0 (((W.setCell ⟨b, 15, none⟩ (.int .i64 (e.count + 1))).setCell ⟨blkOf bs i, 1, none⟩ (.int .i64 2)).setCell ⟨blkOf bs i, 4, none⟩ (.int .i64 (e.count + 1))) (engP b bs (e.over2 i) :: M) := fun W hv' wr' V' last' M ht h => by
       have hc := h.eng_c.2
       have hx := (h.eng_txc (i := i) hi).2
       have hbb := eng_blk_ne (i := i) h hi
       have g1 := h.eng_count (e.count + 1)
       have g2 := g1.eng_set (i := i) (j := 1) (u := .int .i64 2) hi (fun x => { x with state := 2 }) (by decide) rfl rfl rfl rfl rfl
       have g3 := g2.eng_set (i := i) (j := 4) (u := .int .i64 (e.count + 1)) (by rw [Eng.upd_len]; exact hi) (fun x => { x with ended := e.count + 1 }) (by decide) rfl rfl rfl rfl rfl
       refine ⟨⟨hc.count, hc.free 15 (by omega) (by omega), hx.state, hx.free 1, hx.ended, hx.free 4, hbb⟩, ?_⟩
       have he2 : e.over2 i = ((({ ({ e with V := V', last := last', wr := wr', hist := e.hist ++ toldL ((i : Int) + 1) (e.tx i) } : Eng) with count := e.count + 1 } : Eng).upd i fun x => { x with state := 2 }).upd i fun x => { x with ended := e.count + 1 }) := by
        unfold Eng.over2
        rw [ht]
        unfold Eng.upd
        simp only [Eng.mk.injEq, and_true, true_and]
        apply List.ext_getElem?
        intro j
        simp only [List.getElem?_modify]
        by_cases h : i = j
        ·subst h; cases e.txs[i]? <;> simp
        ·simp [h]
       rw [he2]
       refine S.eng_shut (k := { k2 with hv := hv' }) (g3.conv ?_)
       simp only [all]
       show sep (engO b bs { k2 with hv := hv' } ((({ ({ e with V := V', last := last', wr := wr', hist := e.hist ++ toldL ((i : Int) + 1) (e.tx i) } : Eng) with count := e.count + 1 } : Eng).upd i fun x => { x with state := 2 }).upd i fun x => { x with ended := e.count + 1 })) (sep (storeP _ b 0 V' last') (sep (tabP _ b 11 e.t) _)) = sep (storeP _ b 0 V' last') (sep (tabP _ b 11 e.t) (sep _ _))
       ac_rfl
      have hfree : ∀ W M, S w0 W (engP b bs (e.over2 i) :: M) → Calls Tryz.prog 63 #[.pointer (some ⟨b, 0, none⟩), .int .i64 ((i : Int) + 1)] W fun r w' => r = .returned (.tuple #[]) ∧ S w0 w' (engP b bs ((e.over2 i).frees i) :: M) := fun W M h =>
       frees_any (e.over2 i).open_ w0 W b bs (e.over2 i) i M N [] (by rw [List.append_nil]; exact hov) (Nat.le_refl _) (by omega) (fun k => by have := hlines k; rw [show (e.over2 i).t = e.t from (told_txs e i).2.1]; exact this) (by rw [show (e.over2 i).t = e.t from (told_txs e i).2.1]; exact hhold) (by rw [over2_heirs]; exact hheirs) h
      have hc1 := hcnt.1
      have hc2 := hcnt.2
      have HCLO := hid hclose; have HFR := hid hfree
      clear hclose hfree
      by_cases hw0 : wl = []
      ·have ht : e.told i = ({ e with V := e.V, last := e.last, wr := e.wr, hist := e.hist ++ toldL ((i : Int) + 1) (e.tx i) } : Eng) := by unfold Eng.told Eng.installed; rw [if_pos (by rw [hwle]; exact hw0)]
       obtain ⟨⟨c15, f15, x1, fx1, x4, fx4, hbb⟩, hs9⟩ := HCLO.out wr hv' e.wr e.V e.last (sl 101 2 (.slice al wl.length cl) wl.length (pcells wl) :: L) ht (hsr.conv (by simp only [all]; ac_rfl))
       have hwl0 : wl.length = 0 := by rw [hw0]; rfl
       have hbb' := Ne.symm hbb
       have HFC := hid (HFR.out _ _ hs9)
       clear hsr hs9 HCLO HFR ht hw0 hov hovo hlines hhold hheirs hwok htold HRS
       go_wp2_with fail
       with_reducible refine HFC.out.mono ?_
       rintro r w9 ⟨rfl, hs9⟩
       have H9 := hid hs9
       clear hs9 HFC
       go_wp2_with fail
       go_ret
       exact ⟨by rw [HCQ.out]; rfl, by rw [HCQ.out]; exact H9.out.swap.tail⟩
      ·have hwpos : 0 < wl.length := List.length_pos_iff.2 hw0
       have hla : ∀ W (M : List HProp), S w0 W (engO b bs { k2 with hv := hv' } { e with hist := e.hist ++ toldL ((i : Int) + 1) (e.tx i) } :: sl 101 2 (.slice al wl.length cl) wl.length (pcells wl) :: storeP 107 b 0 e.V e.last :: M) → Calls Tryz.prog 48 #[.pointer (some ⟨b, 0, none⟩)] W fun r w' => r = .returned (.int .i64 e.last) ∧ W = w' := fun W M h => last_any b 0 e.last W h.tail.tail.store_last.1
       have hins : ∀ W, S w0 W (engO b bs { k2 with hv := hv' } { e with hist := e.hist ++ toldL ((i : Int) + 1) (e.tx i) } :: sl 101 2 (.slice al wl.length cl) wl.length (pcells wl) :: storeP 107 b 0 e.V e.last :: tabP 3 b 11 e.t :: L) →
         Calls Tryz.prog 13 #[.pointer (some ⟨b, 0, none⟩), .int .i64 (e.last + 1), .slice al wl.length cl] W fun r w' => ∃ v, r = .returned v ∧ S w0 w' (engO b bs { k2 with hv := hv' } { e with hist := e.hist ++ toldL ((i : Int) + 1) (e.tx i) } :: storeP 107 b 0 (e.told i).V (e.told i).last :: tabP 3 b 11 e.t :: sl 101 2 (.slice al wl.length cl) wl.length (pcells wl) :: L) := fun W h => by
        have h1 : S w0 W (storeP 107 b 0 e.V e.last :: sl 101 2 (.slice al wl.length cl) wl.length (pcells wl) :: engO b bs { k2 with hv := hv' } { e with hist := e.hist ++ toldL ((i : Int) + 1) (e.tx i) } :: tabP 3 b 11 e.t :: L) := h.conv (by simp only [all]; ac_rfl)
        have hI := install_any w0 W b 0 e.V e.last (e.last + 1) (.slice al wl.length cl) wl _ 401 h1 RdK.own hrowle (by omega)
        have hbn := bad_none (m := 0) hwok
        have hti : e.told i = if instOk' e.last (e.last + 1) wl then ({ e with hist := e.hist ++ toldL ((i : Int) + 1) (e.tx i), V := putAll (e.last + 1) e.V wl, last := e.last + 1, wr := mput e.wr (e.last + 1) ((i : Int) + 1) } : Eng) else ({ e with hist := e.hist ++ toldL ((i : Int) + 1) (e.tx i), wr := mput e.wr (e.last + 1) ((i : Int) + 1) } : Eng) := by
         unfold Eng.told Eng.installed
         rw [hwle, if_neg hw0]
        refine hI.mono fun r w' h2 => ?_
        unfold InstPost at h2
        rw [hbn] at h2
        by_cases hl : e.last < e.last + 1 ∧ e.last + 1 ≤ 1099511627776
        ·rw [if_pos hl] at h2
         obtain ⟨h3, h4⟩ := h2
         have hok' : instOk' e.last (e.last + 1) wl = true := by unfold instOk'; rw [hbn]; simp [hl]
         rw [hok', if_pos rfl] at hti
         refine ⟨_, h3, ?_⟩
         rw [hti]
         exact h4.conv (by simp only [all]; ac_rfl)
        ·rw [if_neg hl] at h2
         obtain ⟨h3, h4⟩ := h2
         have hok' : instOk' e.last (e.last + 1) wl = false := by
          unfold instOk'
          rw [hbn]
          simp only [Option.isNone_none, Bool.and_true, decide_eq_false_iff_not]
          exact hl
         rw [hok', if_neg (by decide)] at hti
         refine ⟨_, h3, ?_⟩
         rw [hti]
         exact h4.conv (by simp only [all]; ac_rfl)
       have ht : e.told i = ({ e with V := (e.told i).V, last := (e.told i).last, wr := mput e.wr (e.last + 1) ((i : Int) + 1), hist := e.hist ++ toldL ((i : Int) + 1) (e.tx i) } : Eng) := by
        unfold Eng.told Eng.installed
        rw [hwle, if_neg hw0]
        split <;> rfl
       have hwp : ∀ W M, S w0 W (engO b bs { k2 with hv := hv' } { e with hist := e.hist ++ toldL ((i : Int) + 1) (e.tx i) } :: M) → W.cell? ⟨b, 16, none⟩ = some (.map (some k2.wb)) ∧ ∃ w', (Instr.mapUpdate 53 (.map (some k2.wb)) (.int .i64 (e.last + 1)) (.int .i64 ((i : Int) + 1))).run Tryz.prog W = .ok () w' ∧ S w0 w' (engO b bs { k2 with hv := hv' } { e with hist := e.hist ++ toldL ((i : Int) + 1) (e.tx i), wr := mput e.wr (e.last + 1) ((i : Int) + 1) } :: M) := fun W M h => ⟨h.eng_c.2.wr, eng_wrput h (e.last + 1) ((i : Int) + 1)⟩
       have hl1 := hlast.1
       have hl2 := hlast.2
       have HS5 := hid hsr; have HLA := hid (hla _ _ hsr); have HIN := hid (hins _ hsr); have HWP := hid hwp; have HT := hid ht
       clear hsr hla hins hwp ht hw0 hov hovo hlines hhold hheirs hwok htold HRS hlast
       go_wp2_with (go_at_call 48; with_reducible refine HLA.out.mono ?_; rintro r w7 ⟨rfl, rfl⟩)
       with_reducible refine HIN.out.mono ?_
       rintro r w7 ⟨vi, rfl, hs7⟩
       obtain ⟨c16, w8, u8, hs8⟩ := HWP.out _ _ hs7
       obtain ⟨⟨c15, f15, x1, fx1, x4, fx4, hbb⟩, hs9⟩ := HCLO.out w8 hv' _ _ _ _ HT.out hs8
       have hbb' := Ne.symm hbb
       have HFC := hid (HFR.out _ _ hs9)
       clear hs7 hs8 hs9 HCLO HFR HT HIN HLA HWP HS5
       go_wp2_with fail
       with_reducible refine HFC.out.mono ?_
       rintro r w9 ⟨rfl, hs9⟩
       have H9 := hid hs9
       clear hs9 HFC
       go_wp2_with fail
       go_ret
       exact ⟨by rw [HCQ.out]; rfl, by rw [HCQ.out]; exact H9.out.swap.tail⟩
 ·have h0b : e.ready n ≠ 0 := h0
  rw [errV_ne h0b] at hrd
  have HRD := hid hrd
  by_cases h13 : e.ready n = 13
  ·obtain ⟨i, rfl, hi, hst⟩ := ready_13 h13
   have hcq : e.commit ((i : Int) + 1) = (e.goes i 13, 13) := by
    unfold Eng.commit
    rw [if_pos h0b, if_pos h13, h13, show ((i : Int) + 1).toNat - 1 = i by omega]
   have hgo := fun W h => goes_any e.open_ w0 W b bs e i 13 L N [] hok hi (by simp [Tx.alive, hst]) (by simp) (Nat.le_refl _) (by omega) h
   rw [h13] at HRD
   have HCQ := hid hcq; have HG := hid hgo
   clear hs hO hrd h0 h0b h13 hcq hgo hok hst
   go_enter Tryz.func22, Tryz.ntmps22
   go_wp2_with fail
   with_reducible refine HRD.out.mono ?_
   rintro r w1 ⟨rfl, rfl⟩
   go_wp2_with fail
   with_reducible refine (tell_no 13 w0 _ _ hE HS.out).mono ?_
   rintro r w2 ⟨rfl, hs2⟩
   have H2 := hid (HG.out _ hs2)
   clear hs2 HG HRD
   go_wp2_with fail
   with_reducible refine H2.out.mono ?_
   rintro r w3 ⟨rfl, hs3⟩
   have H3 := hid hs3
   clear hs3 H2
   go_wp2_with fail
   go_ret
   exact ⟨by rw [HCQ.out]; rfl, by rw [HCQ.out]; exact H3.out⟩
  ·have hcq : e.commit n = (e, e.ready n) := by unfold Eng.commit; rw [if_pos h0b, if_neg h13]
   have hb13 : (e.ready n == 13) = false := by simpa using h13
   have HCQ := hid hcq; have HNE := hid (errV_ne h0b)
   clear hs hO hrd h0 h0b h13 hcq hok
   generalize e.ready n = x at *
   go_enter Tryz.func22, Tryz.ntmps22
   go_wp2_with fail
   with_reducible refine HRD.out.mono ?_
   rintro r w1 ⟨rfl, rfl⟩
   go_wp2_with fail
   with_reducible refine (tell_no x w0 _ _ hE HS.out).mono ?_
   rintro r w2 ⟨rfl, hs2⟩
   have H2 := hid hs2
   clear hs2 HRD
   go_wp2_with fail
   go_ret
   exact ⟨by rw [HCQ.out, HNE.out]; rfl, by rw [HCQ.out]; exact H2.out⟩
end Go.Proofs.YtmfngjclccehaaaGreatDoor
namespace Go.Proofs.YtmfngjclccehaaaGreatDoor
open Go Go.RowKit Go.Sep
section
variable {w w0 : World} {L : List HProp} {b : Nat} {bs : List Nat} {k : RenV} {e : Eng} {i : Nat}
def hjX (b : Nat) (bs : List Nat) (k : RenV) (e : Eng) : HProp :=
 sep (pur (k.tv.length = e.txs.length)) (sep (pur (bs.length = e.txs.length ∧ (rtxPs bs k.tv e.txs).length = e.txs.length ∧ bs.Nodup)) (sep (shp b 56 16) (sep (cells b 12 [k.txv, .int .i64 e.count, .map (some k.wb), k.hv]) (sep (sl 90 1 k.txv e.txs.length (ptrs bs (List.range e.txs.length))) (sep (mp encI (fun _ => True) k.wb (ienc e.wr)) (all (rtxPs bs k.tv e.txs)))))))
theorem _root_.Go.Sep.S.hj_open (h : S w0 w (renO b bs k e :: L)) : S w0 w (sl 129 4 k.hv e.hist.length (fcells opc e.hist) :: hjX b bs k e :: L) := by
 refine h.conv ?_
 simp only [all, renO, renG, hjX]
 ac_rfl
theorem _root_.Go.Sep.S.hj_see (h : S w0 w (hjX b bs k e :: L)) : w.cell? ⟨b, 15, none⟩ = some k.hv ∧ w.frozen? ⟨b, 15, none⟩ = false := by
 have h1 := h.sep_elim.pur_elim.2.sep_elim.pur_elim.2
 have h4 : S w0 w (cells b 12 [k.txv, .int .i64 e.count, .map (some k.wb), k.hv] :: shp b 56 16 :: sl 90 1 k.txv e.txs.length (ptrs bs (List.range e.txs.length)) :: mp encI (fun _ => True) k.wb (ienc e.wr) :: all (rtxPs bs k.tv e.txs) :: L) := h1.conv (by simp only [all]; ac_rfl)
 exact ⟨h4.cells_cell 3 rfl, h4.cells_free 3 (show _ = some k.hv from rfl)⟩
theorem _root_.Go.Sep.S.hj_close {v' : Value} {H : List Op1} {m : Nat} {xs : List Value} (hm : m = H.length) (hx : xs = fcells opc H) (h : S w0 w (sl 129 4 v' m xs :: hjX b bs k e :: L)) :
  S w0 (w.setCell ⟨b, 15, none⟩ v') (renO b bs { k with hv := v' } { e with hist := H } :: L) := by
 subst hm hx
 obtain ⟨hp, h1⟩ := h.swap.sep_elim.pur_elim
 obtain ⟨hp2, h2⟩ := h1.sep_elim.pur_elim
 have h4 : S w0 w (cells b 12 [k.txv, .int .i64 e.count, .map (some k.wb), k.hv] :: shp b 56 16 :: sl 90 1 k.txv e.txs.length (ptrs bs (List.range e.txs.length)) :: mp encI (fun _ => True) k.wb (ienc e.wr) :: all (rtxPs bs k.tv e.txs) :: sl 129 4 v' H.length (fcells opc H) :: L) := h2.conv (by simp only [all]; ac_rfl)
 have h5 := h4.set 3 (by simp) v'
 refine .sep_intro (.pur_intro hp (S.renG_join hp2 (h5.conv ?_)))
 simp only [all]
 show sep (cells b 12 [k.txv, .int .i64 e.count, .map (some k.wb), v']) _ = _
 ac_rfl
theorem _root_.Go.Sep.S.ren_hist {v' : Value} {H : List Op1} {m : Nat} {xs : List Value} (hm : m = H.length) (hx : xs = fcells opc H) (h : S w0 w (sl 129 4 v' m xs :: renO b bs k e :: L)) :
  S w0 (w.setCell ⟨b, 15, none⟩ v') (renO b bs { k with hv := v' } { e with hist := H } :: L) :=
 S.hj_close hm hx (S.tail ((S.hj_open h.swap).conv (M := sl 129 4 k.hv e.hist.length (fcells opc e.hist) :: sl 129 4 v' m xs :: hjX b bs k e :: L) (by simp only [all]; ac_rfl)))
theorem hist_news {a : Option Addr} {c : Nat} (h : S w0 w (renO b bs k e :: L)) (hv : k.hv = .slice a e.hist.length c) : ∀ j u, (fcells opc e.hist)[j]? = some u → ∃ b, a = some b ∧ w.cell? (b.add j) = some u := by
 have h1 := h.hj_open
 rw [hv] at h1
 exact h1.news_slK 0 rfl
theorem reads_news {a : Option Addr} {c : Nat} (h : S w0 w (renO b bs k e :: L)) (hi : i < e.txs.length) (hv : (k.v i).rv = .slice a (e.tx i).reads.length c) : ∀ j u, (fcells opc (readOps ((i : Int) + 1) (e.tx i).reads))[j]? = some u → ∃ b, a = some b ∧ w.cell? (b.add j) = some u := by
 have h1 := h.rr_open hi
 rw [hv] at h1
 exact h1.news_slK 0 rfl
def hjV (b : Nat) (bs : List Nat) (k : RenV) (e : Eng) (vb : Nat) (x y : Int) : HProp := sep (hjX b bs k e) (blk vb 101 [.int .i64 x, .int .i64 y])
theorem ren_wrput (h : S w0 w (renO b bs k e :: L)) (at_ n : Int) : ∃ w', (Instr.mapUpdate 53 (.map (some k.wb)) (.int .i64 at_) (.int .i64 n)).run Tryz.prog w = .ok () w' ∧ S w0 w' (renO b bs k { e with wr := mput e.wr at_ n } :: L) := by
 have h1 : S w0 w (mp encI (fun _ => True) k.wb (ienc e.wr) :: pur (k.tv.length = e.txs.length) :: pur (bs.length = e.txs.length ∧ (rtxPs bs k.tv e.txs).length = e.txs.length ∧ bs.Nodup) :: shp b 56 16 :: cells b 12 [k.txv, .int .i64 e.count, .map (some k.wb), k.hv] :: sl 90 1 k.txv e.txs.length (ptrs bs (List.range e.txs.length)) :: sl 129 4 k.hv e.hist.length (fcells opc e.hist) :: all (rtxPs bs k.tv e.txs) :: L) :=
  h.conv (by simp only [all, renO, renG]; ac_rfl)
 obtain ⟨w', hr, h2⟩ := h1.put Tryz.keyInt Tryz.underlying53 at_ trivial (.int .i64 n)
 refine ⟨w', hr, ?_⟩
 have e1 : mput (ienc e.wr) at_ (.int .i64 n) = ienc (mput e.wr at_ n) := ienc_put _ _ _
 rw [e1] at h2
 refine h2.conv ?_
 simp only [all, renO, renG]
 ac_rfl
theorem one_ops (l : List Op1) : ∀ u ∈ fcells opc l, u.oneCell' = true := by
 intro u hu
 unfold fcells at hu
 rw [List.mem_flatMap] at hu
 obtain ⟨o, _, ho⟩ := hu
 exact one_opR o u ho
theorem readOps_len (n : Int) (l : List (Int × Int)) : (readOps n l).length = l.length := by simp [readOps]
theorem told_rd (e : Eng) (i : Nat) : toldL ((i : Int) + 1) (e.tx i) = readOps ((i : Int) + 1) (e.tx i).reads ++ (e.tx i).written.map fun w => ⟨(i : Int) + 1, w.1, true, 0⟩ := rfl
theorem told_eq {e : Eng} {i : Nat} (hw : (e.tx i).written ≠ []) : e.told i = { e with V := if instOk e.last (e.last + 1) (e.tx i).written then putAll (e.last + 1) e.V (e.tx i).written else e.V, last := if instOk e.last (e.last + 1) (e.tx i).written then e.last + 1 else e.last, wr := mput e.wr (e.last + 1) ((i : Int) + 1), hist := e.hist ++ toldL ((i : Int) + 1) (e.tx i) } := by
 unfold Eng.told Eng.installed
 rw [if_neg hw]
 have : instOk' e.last (e.last + 1) (e.tx i).written = instOk e.last (e.last + 1) (e.tx i).written := rfl
 simp only [this]
 by_cases h : instOk e.last (e.last + 1) (e.tx i).written = true
 ·simp [h]
 ·simp [h]
theorem told_none {e : Eng} {i : Nat} (hw : (e.tx i).written = []) : e.told i = { e with hist := e.hist ++ toldL ((i : Int) + 1) (e.tx i) } := by
 unfold Eng.told Eng.installed
 rw [if_pos hw]
end
section
variable {w w0 : World} {L : List HProp} {b : Nat} {bs : List Nat} {e : Eng} {n : Int} {N M : Nat}
set_option maxRecDepth 40000 in
theorem rcommit_no (hok : OkT N e []) (hti : Times e) (hN : N ≤ 90000000) (hM : M ≤ 1000000) (h0b : e.ready n ≠ 0) (hs : S w0 w (renP M [] b bs e :: L)) :
  Calls Tryz.prog 23 #[.pointer (some ⟨b, 0, none⟩), .int .i64 n] w fun r w' => r = .returned (.int .i64 (e.commit n).2) ∧ S w0 w' (renP M [] b bs (e.commit n).1 :: L) := by
 have HS := hid hs
 obtain ⟨k, K, Qs, _, hs⟩ := hs.ren_open
 have hrd := rready_any w0 w b bs k e n _ N [] hok hs.ren_o
 have HRD := hid hrd
 by_cases h13 : e.ready n = 13
 ·obtain ⟨i, rfl, hi, hst⟩ := ready_13 h13
  have hcq : e.commit ((i : Int) + 1) = (e.goes i 13, 13) := by
   unfold Eng.commit
   rw [if_pos h0b, if_pos h13, h13, show ((i : Int) + 1).toNat - 1 = i by omega]
  have hgo := rgoes_any e.open_ w0 w b bs e i 13 L N [] M hok hti hi (by simp [Tx.alive, hst]) (by simp) (Nat.le_refl _) (by omega) hM HS.out
  rw [h13] at HRD
  have HCQ := hid hcq; have HG := hid hgo
  clear hs hrd h0b h13 hcq hgo hok hst hti
  go_enter Tryz.func23, Tryz.ntmps23
  go_wp2_with fail
  with_reducible refine HRD.out.mono ?_
  rintro r w1 ⟨rfl, rfl⟩
  go_wp2_with fail
  with_reducible refine HG.out.mono ?_
  rintro r w3 ⟨rfl, hs3⟩
  have H3 := hid hs3
  clear hs3 HG
  go_wp2_with fail
  go_ret
  exact ⟨by rw [HCQ.out]; rfl, by rw [HCQ.out]; exact H3.out⟩
 ·have hcq : e.commit n = (e, e.ready n) := by unfold Eng.commit; rw [if_pos h0b, if_neg h13]
  have hb13 : (e.ready n == 13) = false := by simpa using h13
  have hb0 : (e.ready n != 0) = true := by simpa using h0b
  have HCQ := hid hcq
  clear hs hrd h0b h13 hcq hok hti
  generalize e.ready n = x at *
  go_enter Tryz.func23, Tryz.ntmps23
  go_wp2_with fail
  with_reducible refine HRD.out.mono ?_
  rintro r w1 ⟨rfl, rfl⟩
  go_wp2_with fail
  go_ret
  exact ⟨by rw [HCQ.out]; rfl, by rw [HCQ.out]; exact HS.out⟩
end
set_option linter.unusedSimpArgs false in
set_option maxRecDepth 100000 in
set_option maxHeartbeats 16000000 in
theorem rcommit_any (w0 w : World) (b : Nat) (bs : List Nat) (e : Eng) (n : Int) (L : List HProp) (N M : Nat) (hok : OkT N e []) (hti : Times e) (hN : N ≤ 90000000) (hM : M ≤ 1000000) (hs : S w0 w (renP M [] b bs e :: L)) :
  Calls Tryz.prog 23 #[.pointer (some ⟨b, 0, none⟩), .int .i64 n] w fun r w' => r = .returned (.int .i64 (e.commit n).2) ∧ S w0 w' (renP M [] b bs (e.commit n).1 :: L) := by
 by_cases h0 : e.ready n ≠ 0
 ·exact rcommit_no hok hti hN hM h0 hs
 have h0 := Decidable.not_not.1 h0
 obtain ⟨i, rfl, hi, hst⟩ := ready_at h0
 obtain ⟨k, K, Qs, ⟨hS, hST, hRm⟩, hs⟩ := hs.ren_open
 have hO := hs.ren_o
 have hrd := rready_any w0 w b bs k e ((i : Int) + 1) _ N [] hok hO
 rw [h0] at hrd
 have hcq := commit_eq e i h0
 have hfew := hok.few
 have hc := hO.ren_c.2
 have c12 := hc.txs
 obtain ⟨a, cap, hv, hle, hcap, hrow⟩ := hc.row
 obtain ⟨g, o, rfl, ci⟩ := hrow i hi
 rw [hv] at c12
 unfold maxLen at hcap
 unfold ptr at ci
 have hwr := rwrites_any w0 w b bs k e ((i : Int) + 1) _ N [] hok hO
 have hwf : e.writes ((i : Int) + 1) = ((e.tx i).written, 0) := by
  unfold Eng.writes
  have : e.err ((i : Int) + 1) false = 0 := by unfold Eng.err; rw [if_neg (by omega), if_neg (by simp)]
  rw [if_neg (by rw [this]; decide), show ((i : Int) + 1).toNat - 1 = i by omega]
 rw [hwf] at hwr
 have hrdn := hok.reads _ (Eng.tx_mem hi)
 have hwl := written_len (e.tx i)
 have hof := own_few hok hi
 have hwok := written_ok hok hi
 have hcnt := hok.cnt
 have hhist := hok.hist
 have hlast := hok.last
 obtain ⟨hov, hovo⟩ := hok.over2 hi (by simp [Tx.alive, hst])
 have hKl := hS.few hok
 obtain ⟨Q, hQ⟩ := hok.tab
 have hlen : ∀ kk, (lineAt e.t kk).length ≤ 800000 := by
  intro kk
  unfold lineAt
  rw [hQ.tab.line kk]
  have := few (S := (List.range e.txs.length).map fun m : Nat => (m : Int) + 1) (hQ.tab.nod kk) (fun x hx => by
   have := hQ.key kk x hx
   simp only [List.mem_map, List.mem_range]
   exact ⟨(x - 1).toNat, by omega, by omega⟩)
  simp only [List.length_map, List.length_range] at this
  rw [List.length_tail]; omega
 have hhold := hQ.hold
 have hhb : (e.hist.length : Int) ≤ 400 * 90000010 := by
  have h1 : e.count * ((N : Int) + 10) ≤ 400 * ((N : Int) + 10) := Int.mul_le_mul_of_nonneg_right (by omega) (by omega)
  omega
 obtain ⟨wl, hwle⟩ : ∃ wl, (e.tx i).written = wl := ⟨_, rfl⟩
 rw [hwle] at hwr hwl hwok
 have hwln : wl.length ≤ 10 := by omega
 have htold : toldL ((i : Int) + 1) (e.tx i) = readOps ((i : Int) + 1) (e.tx i).reads ++ wl.map fun w => (⟨(i : Int) + 1, w.1, true, 0⟩ : Op1) := by rw [told_rd, hwle]
 have HRD := hid hrd; have HWR := hid hwr; have HCQ := hid hcq; have HTOLD := hid htold; have HSM := hid (And.intro hS (And.intro hST hRm)); have HOV := hid hov; have HLEN := hid hlen; have HHOLD := hid hhold; have HWOK := hid hwok; have HTI := hid hti; have HI := hid hi; have HST0 := hid hst; have HWLE := hid hwle; have HKL := hid hKl
 clear hs hO hrd hc hv hrow hwr hwf hcq htold hS hST hRm hov hovo hlen hhold hwok hti hst hwle hKl hQ h0 hhist hwl hof hok
 go_enter Tryz.func23, Tryz.ntmps23
 go_wp2_with fail
 with_reducible refine HRD.out.mono ?_
 rintro r w1 ⟨rfl, rfl⟩
 go_wp2_with fail
 with_reducible refine HWR.out.mono ?_
 rintro r w2 ⟨lv, rfl, hs2⟩
 obtain ⟨al, cl, rfl, hcl, hcl2, _⟩ := hs2.sl_val
 unfold maxLen at hcl2
 obtain ⟨LL, hLL⟩ : ∃ LL, LL = sl 101 2 (.slice al wl.length cl) wl.length (pcells wl) :: refP 47 109 b K e.last :: rtabP 3 b 2 Qs :: L := ⟨_, rfl⟩
 have hs4 : S w0 w2 (renO b bs k e :: LL) := by rw [hLL]; exact hs2.conv (by simp only [all]; ac_rfl)
 have h5 := hs4.hj_open
 obtain ⟨ah, ch, hhv, hch1, hch2, _⟩ := h5.sl_val
 have h6 := hs4.rr_open HI.out
 obtain ⟨ar, cr, hrv, hcr1, hcr2, _⟩ := h6.sl_val
 unfold maxLen at hch2 hcr2
 have hq8 : ∀ W M', S w0 W (renO b bs k e :: M') → W.cell? ⟨b, 15, none⟩ = some (.slice ah e.hist.length ch) ∧ W.cell? ⟨blkOf bs i, 6, none⟩ = some (.slice ar (e.tx i).reads.length cr) := fun W M' h => ⟨by rw [← hhv]; exact h.ren_c.2.hist, by rw [← hrv]; exact (h.ren_txc HI.out).2.reads⟩
 have hf8 : ∀ W M', S w0 W (renO b bs k e :: M') → W.frozen? ⟨b, 15, none⟩ = false := fun W M' h => h.ren_c.2.free 15 (by omega) (by omega)
 have hnh : ∀ W M', S w0 W (renO b bs k e :: M') → ∀ j u, (fcells opc e.hist)[j]? = some u → ∃ b, ah = some b ∧ W.cell? (b.add j) = some u := fun W M' h => hist_news h hhv
 have hnr : ∀ W M', S w0 W (renO b bs k e :: M') → ∀ j u, (fcells opc (readOps ((i : Int) + 1) (e.tx i).reads))[j]? = some u → ∃ b, ar = some b ∧ W.cell? (b.add j) = some u := fun W M' h => reads_news h HI.out hrv
 have hcl8 : ∀ W v' M', S w0 W (sl 129 4 v' (e.hist.length + (e.tx i).reads.length) (fcells opc e.hist ++ fcells opc (readOps ((i : Int) + 1) (e.tx i).reads)) :: renO b bs k e :: M') → S w0 (W.setCell ⟨b, 15, none⟩ v') (renO b bs { k with hv := v' } { e with hist := e.hist ++ readOps ((i : Int) + 1) (e.tx i).reads } :: M') := fun W v' M' h => S.ren_hist (by simp [readOps_len]) (fcells_append ..).symm h
 have hl1 : (fcells opc e.hist).length = e.hist.length * 4 := fcells_length opc_length _
 have hl2 : (fcells opc (readOps ((i : Int) + 1) (e.tx i).reads)).length = (e.tx i).reads.length * 4 := by rw [fcells_length opc_length, readOps_len]
 have ho1 := one_ops e.hist
 have ho2 := one_ops (readOps ((i : Int) + 1) (e.tx i).reads)
 have hh1 : e.hist.length ≤ 400 * 90000010 := by omega
 have hh2 : (e.tx i).reads.length ≤ 90000000 := by omega
 have H4 := hid hs4; have HQ8 := hid hq8; have HF8 := hid hf8; have HNH := hid hnh; have HNR := hid hnr; have HCL := hid hcl8; have HLL := hid hLL; have HL1 := hid hl1; have HL2 := hid hl2; have HO1 := hid ho1; have HO2 := hid ho2
 have q0 := hq8 _ _ hs4
 clear hs2 hs4 h5 h6 hhv hrv hq8 hf8 hnh hnr hcl8 hLL hl1 hl2 ho1 ho2 hhb HWR HRD
 generalize hHC : fcells opc e.hist = HC at HNH HCL HL1 HO1
 generalize hRC : fcells opc (readOps ((i : Int) + 1) (e.tx i).reads) = RC at HNR HCL HL2 HO2
 generalize hhn : e.hist.length = hn at *
 generalize hrn : (e.tx i).reads.length = rn at *
 have h63a : 0 + hn ≤ 1000000000000 := by omega
 have h63b : hn + rn ≤ 1000000000000 := by omega
 have H63A := hid h63a; have H63B := hid h63b
 obtain ⟨i0, hi0, hz0, hz1, hz2⟩ := info_parts Tryz.info129
 clear hHC hRC h63a h63b
 go_upto_region 8 with fail
 go_cut [] (fun wx => ∃ v', S w0 wx (renO b bs { k with hv := v' } { e with hist := e.hist ++ readOps ((i : Int) + 1) (e.tx i).reads } :: LL))
 case first =>
  have HS0 := H4
  refine region_U (S := fun w' => w'.cell? ⟨b, 15, none⟩ = some (.slice ah hn ch) ∧ w'.cell? ⟨blkOf bs i, 6, none⟩ = some (.slice ar rn cr)) (u := 14) (by kernel_rfl) (HQ8.out _ _ (HS0.out.drew.nth 0 rfl)) (fun hHeld => ?_)
  refine anyU_take (i := 0) (v := ?_) rfl (by kernel_rfl) (fun _ _ _ h => h) (Or.inl ⟨by rfl, ?_⟩) hHeld ?_
  rotate_left
  ·(intro w hSw; (try dsimp only at hSw); go_simp) <;> with_reducible rfl
  try simp only [putU]
  refine anyU_take (i := 2) (v := ?_) rfl (by kernel_rfl) (fun _ _ _ h => h) (Or.inl ⟨by rfl, ?_⟩) hHeld ?_
  rotate_left
  ·(intro w hSw; (try dsimp only at hSw); go_simp) <;> with_reducible rfl
  try simp only [putU]
  refine anyU_take (i := 3) (v := ?_) rfl (by kernel_rfl) (fun _ _ _ h => h) (Or.inl ⟨by rfl, ?_⟩) hHeld ?_
  rotate_left
  ·(intro w hSw; (try dsimp only at hSw); go_simp) <;> with_reducible rfl
  try simp only [putU]
  refine anyU_take (i := 4) (v := ?_) rfl (by kernel_rfl) (fun _ _ _ h => h) (Or.inl ⟨by rfl, ?_⟩) hHeld ?_
  rotate_left
  ·(intro w hSw; (try dsimp only at hSw); go_simp) <;> with_reducible rfl
  try simp only [putU]
  refine anyU_take (i := 5) (v := ?_) rfl (by kernel_rfl) (fun _ _ _ h => h) (Or.inl ⟨by rfl, ?_⟩) hHeld ?_
  rotate_left
  ·(intro w hSw; (try dsimp only at hSw); go_simp) <;> with_reducible rfl
  try simp only [putU]
  refine anyU_take (i := 7) (v := ?_) rfl (by kernel_rfl) (fun _ _ _ h => h) (Or.inl ⟨by rfl, ?_⟩) hHeld ?_
  rotate_left
  ·(intro w hSw; (try dsimp only at hSw); go_simp) <;> with_reducible rfl
  try simp only [putU]
  refine anyU_take (i := 8) (v := ?_) rfl (by kernel_rfl) (fun _ _ _ h => h) (Or.inl ⟨by rfl, ?_⟩) hHeld ?_
  rotate_left
  ·(intro w hSw; (try dsimp only at hSw); go_simp) <;> with_reducible rfl
  try simp only [putU]
  refine anyU_take (i := 9) (v := ?_) rfl (by kernel_rfl) (fun _ _ _ h => h) (Or.inl ⟨by rfl, ?_⟩) hHeld ?_
  rotate_left
  ·(intro w hSw; (try dsimp only at hSw); go_simp) <;> with_reducible rfl
  try simp only [putU]
  refine anyU_take (i := 10) (v := ?_) rfl (by kernel_rfl) (fun _ _ _ h => h) (Or.inl ⟨by rfl, ?_⟩) hHeld ?_
  rotate_left
  ·(intro w hSw; (try dsimp only at hSw); go_simp) <;> with_reducible rfl
  try simp only [putU]
  have HS := hid HS0.out.drew
  clear hHeld
  refine anyU_world (fun w => Hid (S w0 w _)) HS (fun w1 HS => ?_)
  clear HS0
  refine anyU_next (rs := [1]) (by kernel_rfl) (by simp) ?_
  refine NextU.cons rfl (fun K hK => ?_) ?_
  ·go_simp
   replace HS := hid (HS.out.alloc_slU (e := 129) (size := 4) [] 0 rfl (by unfold maxLen; omega))
   generalize w1.heap.size = b1 at HS ⊢
   refine act_any (fun w => Hid (S w0 w _)) HS (fun w2 HS => ?_)
   refine hK.out _ _ (fun _ => (HQ8.out _ _ (HS.out.nth 1 rfl))) ?_
   clear hK K
   refine anyU_next (rs := [6]) (by kernel_rfl) (by simp) ?_
   refine NextU.cons rfl (fun K hK => ?_) ?_
   ·refine step_appU rfl (.tmp 38) (.tmp 42) 54 rfl 129 i0 _ 4 32 Tryz.underlying54 hi0 hz0 hz1 hz2 rfl (by decide) HS.out 0 (by rfl) (by rfl) ah hn ch HC (by rfl) HL1.out (HNH.out _ _ (HS.out.nth 1 rfl)) HO1.out H63A.out (by decide) ?_
    intro v6 w3 hs
    replace HS := hid hs.norm0K
    clear hs
    obtain ⟨p6, c6, rfl, _, _, _⟩ := HS.out.sl_val
    refine hK.out _ _ (fun _ => (HQ8.out _ _ (HS.out.nth 1 rfl))) ?_
    clear hK K
    try simp only [putU]
    refine anyU_next (rs := [11]) (by kernel_rfl) (by simp) ?_
    refine NextU.cons rfl (fun K hK => ?_) ?_
    ·refine step_appU rfl (.tmp 43) (.tmp 47) 54 rfl 129 i0 _ 4 32 Tryz.underlying54 hi0 hz0 hz1 hz2 rfl (by decide) HS.out 0 (by rfl) (by rfl) ar rn cr RC (by rfl) HL2.out (HNR.out _ _ (HS.out.nth 1 rfl)) HO2.out H63B.out (by decide) ?_
     intro v11 w4 hs
     replace HS := hid hs
     clear hs
     obtain ⟨p11, c11, rfl, _, _, _⟩ := HS.out.sl_val
     refine hK.out _ _ (fun _ => (HQ8.out _ _ (HS.out.nth 1 rfl))) ?_
     clear hK K
     try simp only [putU]
     refine anyU_pure (i := 12) (v := ?_) rfl (by kernel_rfl) (fun _ _ _ h => h) (Or.inl ⟨by rfl, ?_⟩) (fun _ => (HQ8.out _ _ (HS.out.nth 1 rfl))) ?_
     rotate_left
     ·(intro w _; go_simp) <;> with_reducible rfl
     try simp only [putU]
     refine anyU_take (i := 13) (v := ?_) rfl (by kernel_rfl) (fun _ _ _ h => h) (Or.inl ⟨by rfl, ?_⟩) (HQ8.out _ _ (HS.out.nth 1 rfl)) ?_
     rotate_left
     ·(intro w hSw; (try dsimp only at hSw); go_simp) <;> with_reducible rfl
     try simp only [putU]
     refine anyU_next (rs := [14]) (by kernel_rfl) (by simp) ?_
     refine NextU.cons rfl (fun K hK => ?_) ?_
     ·have q1 := (HQ8.out _ _ (HS.out.nth 1 rfl)).1
      have q2 := HF8.out _ _ (HS.out.nth 1 rfl)
      go_simp
      refine hK.out _ _ (fun h => Bool.noConfusion (show true = false from h)) ?_
      clear hK K q1 q2
      refine anyU_done (by kernel_rfl) ?_ _
      have HZ := HS.out
      simp only [List.eraseIdx_cons_succ, List.eraseIdx_cons_zero] at HZ
      have h5 := HCL.out _ _ _ HZ
      have H5 := hid h5
      clear HZ h5 HS
      go_wp2_with fail
      go_meet
      exact ⟨_, H5.out⟩
     exact NextU.nil
    exact NextU.nil
   exact NextU.nil
  exact NextU.nil
 case rest =>
 rename World => w5
 obtain ⟨hv5, hs5⟩ := hcut
 have H5 := hid hs5
 clear hs5 H4 HQ8 HF8 HNH HNR HCL HL1 HL2 HO1 HO2 H63A H63B q0 hch1 hcr1 hch2 hcr2
 obtain ⟨H0, hH0⟩ : ∃ H0, e.hist ++ readOps ((i : Int) + 1) (e.tx i).reads = H0 := ⟨_, rfl⟩
 have hH0l : H0.length = hn + rn := by rw [← hH0, List.length_append, readOps_len, hhn, hrn]
 have hH0t : H0 ++ (wl.map fun w => (⟨(i : Int) + 1, w.1, true, 0⟩ : Op1)) = e.hist ++ toldL ((i : Int) + 1) (e.tx i) := by rw [HTOLD.out, ← hH0, List.append_assoc]
 have H6 : Hid (S w0 w5 (renO b bs { k with hv := hv5 } { e with hist := H0 ++ ((wl.take 0).map fun w => (⟨(i : Int) + 1, w.1, true, 0⟩ : Op1)) } :: LL)) := hid (by rw [List.take_zero, List.map_nil, List.append_nil, ← hH0]; exact H5.out)
 have HH0L := hid hH0l; have HH0T := hid hH0t
 clear H5 hH0 hH0l hH0t hhn hrn HTOLD
 go_wp2_with fail
 go_loopw [53] (fun c wr => ∃ j : Nat, j ≤ wl.length ∧ c = .int .i64 j ∧ ∃ hv', S w0 wr (renO b bs { k with hv := hv' } { e with hist := H0 ++ ((wl.take j).map fun w => (⟨(i : Int) + 1, w.1, true, 0⟩ : Op1)) } :: LL)) (fun c _ => wl.length - (intOf c).toNat)
 case atStart => exact ⟨0, Nat.zero_le _, rfl, _, H6.out⟩
 case round =>
  rename World => wr
  obtain ⟨j, hj, rfl, hv', hsr⟩ := hrel
  clear H6
  by_cases hlt : j < wl.length
  ·have hp : wl[j]? = some wl[j] := by simp [hlt]
   generalize wl[j] = p at hp
   have hwl9 : S w0 wr (sl 101 2 (.slice al wl.length cl) wl.length (pcells wl) :: renO b bs { k with hv := hv' } { e with hist := H0 ++ ((wl.take j).map fun w => (⟨(i : Int) + 1, w.1, true, 0⟩ : Op1)) } :: refP 47 109 b K e.last :: rtabP 3 b 2 Qs :: L) := by
    have h := hsr
    rw [HLL.out] at h
    exact h.swap
   obtain ⟨gr, gro, rfl, _, d0, d1⟩ := hwl9.sl_pair hp
   obtain ⟨px, py⟩ := p
   simp only at d0 d1
   have htk : (wl.take (j + 1)).map (fun w => (⟨(i : Int) + 1, w.1, true, 0⟩ : Op1)) = (wl.take j).map (fun w => (⟨(i : Int) + 1, w.1, true, 0⟩ : Op1)) ++ [⟨(i : Int) + 1, px, true, 0⟩] := by rw [take_succ_get hp, List.map_append]; rfl
   have hhl : ((wl.take j).map fun w => (⟨(i : Int) + 1, w.1, true, 0⟩ : Op1)).length ≤ 10 := by rw [List.length_map, List.length_take]; omega
   have hsv := (hsr.alloc #[.int .i64 px, .int .i64 py] 101)
   obtain ⟨EE, hEE⟩ : ∃ E : Eng, E = { e with hist := H0 ++ ((wl.take j).map fun w => (⟨(i : Int) + 1, w.1, true, 0⟩ : Op1)) } := ⟨_, rfl⟩
   obtain ⟨Ek, hEk⟩ : ∃ K : RenV, K = { k with hv := hv' } := ⟨_, rfl⟩
   obtain ⟨Eh, hEh⟩ : ∃ H, H = EE.hist := ⟨_, rfl⟩
   obtain ⟨En, hEn⟩ : ∃ m, m = Eh.length := ⟨_, rfl⟩
   have hbnd : En + 1 ≤ 1000000000000 := by
    have h1 := HH0L.out
    rw [hEn, hEh, hEE]
    show (H0 ++ _).length + 1 ≤ _
    rw [List.length_append]; omega
   rw [← hEE, ← hEk] at hsv
   have hst0 : S w0 (wr.alloc (.cells #[.int .i64 px, .int .i64 py] 101)) (sl 129 4 Ek.hv En (fcells opc Eh) :: hjV b bs Ek EE wr.heap.size px py :: LL) := by
    rw [hEn, hEh]
    refine (S.hj_open hsv.swap).conv ?_
    simp only [all, hjV]; ac_rfl
   obtain ⟨ah2, ch2, hhv2, _, _, _⟩ := hst0.sl_val
   have hq : ∀ W {M : List HProp}, S w0 W (hjV b bs Ek EE wr.heap.size px py :: M) → W.cell? ⟨b, 15, none⟩ = some (.slice ah2 En ch2) ∧ W.cell? ⟨wr.heap.size, 0, none⟩ = some (.int .i64 px) := fun W M h => by
    have h1 := h.sep_elim
    exact ⟨by rw [h1.hj_see.1, hhv2], h1.swap.blk_cell 0 rfl⟩
   have hf : ∀ W {M : List HProp}, S w0 W (hjV b bs Ek EE wr.heap.size px py :: M) → W.frozen? ⟨b, 15, none⟩ = false := fun W M h => h.sep_elim.hj_see.2
   have hcl9 : ∀ W v' (Y : HProp), S w0 W (sl 129 4 v' (En + 1) (fcells opc Eh ++ opc ⟨(i : Int) + 1, px, true, 0⟩) :: hjV b bs Ek EE wr.heap.size px py :: Y :: LL) → S w0 (W.setCell ⟨b, 15, none⟩ v') (renO b bs { k with hv := v' } { e with hist := H0 ++ ((wl.take (j + 1)).map fun w => (⟨(i : Int) + 1, w.1, true, 0⟩ : Op1)) } :: LL) := fun W v' Y h => by
    have h1 : S w0 W (sl 129 4 v' (En + 1) (fcells opc Eh ++ opc ⟨(i : Int) + 1, px, true, 0⟩) :: hjX b bs Ek EE :: blk wr.heap.size 101 [.int .i64 px, .int .i64 py] :: Y :: LL) := h.conv (by simp only [all, hjV]; ac_rfl)
    have h2 := S.hj_close (H := Eh ++ [⟨(i : Int) + 1, px, true, 0⟩]) (by rw [hEn]; simp) (by rw [fcells_append, fcells_one]) h1
    have h3 := (h2.conv (M := blk wr.heap.size 101 [.int .i64 px, .int .i64 py] :: Y :: renO b bs { Ek with hv := v' } { EE with hist := Eh ++ [⟨(i : Int) + 1, px, true, 0⟩] } :: LL) (by simp only [all]; ac_rfl)).tail.tail
    rw [htk, ← List.append_assoc]
    rw [hEh, hEE, hEk] at h3
    exact h3
   rw [hhv2] at hst0
   have HS0 := hid hst0; have HQ := hid hq; have HF := hid hf; have HCL := hid hcl9; have HA := hid hbnd
   clear hsr hp htk hhl hsv hEE hEk hEh hEn hbnd hst0 hhv2 hq hf hcl9 hwl9
   go_upto_region 12 with fail
   refine region_U (S := fun w' => w'.cell? ⟨b, 15, none⟩ = some (.slice ah2 En ch2) ∧ w'.cell? ⟨wr.heap.size, 0, none⟩ = some (.int .i64 px)) (u := 13) (by kernel_rfl) (HQ.out _ (HS0.out.drew.nth 1 rfl)) (fun hHeld => ?_)
   refine anyU_take (i := 0) (v := ?_) rfl (by kernel_rfl) (fun _ _ _ h => h) (Or.inl ⟨by rfl, ?_⟩) hHeld ?_
   rotate_left
   ·(intro w hSw; (try dsimp only at hSw); go_simp) <;> with_reducible rfl
   try simp only [putU]
   refine anyU_take (i := 1) (v := ?_) rfl (by kernel_rfl) (fun _ _ _ h => h) (Or.inl ⟨by rfl, ?_⟩) hHeld ?_
   rotate_left
   ·(intro w hSw; (try dsimp only at hSw); go_simp) <;> with_reducible rfl
   try simp only [putU]
   refine anyU_take (i := 2) (v := ?_) rfl (by kernel_rfl) (fun _ _ _ h => h) (Or.inl ⟨by rfl, ?_⟩) hHeld ?_
   rotate_left
   ·(intro w hSw; (try dsimp only at hSw); go_simp) <;> with_reducible rfl
   try simp only [putU]
   refine anyU_take (i := 3) (v := ?_) rfl (by kernel_rfl) (fun _ _ _ h => h) (Or.inl ⟨by rfl, ?_⟩) hHeld ?_
   rotate_left
   ·(intro w hSw; (try dsimp only at hSw); go_simp) <;> with_reducible rfl
   try simp only [putU]
   refine anyU_take (i := 4) (v := ?_) rfl (by kernel_rfl) (fun _ _ _ h => h) (Or.inl ⟨by rfl, ?_⟩) hHeld ?_
   rotate_left
   ·(intro w hSw; (try dsimp only at hSw); go_simp) <;> with_reducible rfl
   try simp only [putU]
   refine anyU_take (i := 5) (v := ?_) rfl (by kernel_rfl) (fun _ _ _ h => h) (Or.inl ⟨by rfl, ?_⟩) hHeld ?_
   rotate_left
   ·(intro w hSw; (try dsimp only at hSw); go_simp) <;> with_reducible rfl
   try simp only [putU]
   refine anyU_take (i := 6) (v := ?_) rfl (by kernel_rfl) (fun _ _ _ h => h) (Or.inl ⟨by rfl, ?_⟩) hHeld ?_
   rotate_left
   ·(intro w hSw; (try dsimp only at hSw); go_simp) <;> with_reducible rfl
   try simp only [putU]
   refine anyU_take (i := 7) (v := ?_) rfl (by kernel_rfl) (fun _ _ _ h => h) (Or.inl ⟨by rfl, ?_⟩) hHeld ?_
   rotate_left
   ·(intro w hSw; (try dsimp only at hSw); go_simp) <;> with_reducible rfl
   try simp only [putU]
   refine anyU_take (i := 8) (v := ?_) rfl (by kernel_rfl) (fun _ _ _ h => h) (Or.inl ⟨by rfl, ?_⟩) hHeld ?_
   rotate_left
   ·(intro w hSw; (try dsimp only at hSw); go_simp) <;> with_reducible rfl
   try simp only [putU]
   have HS := hid HS0.out.drew
   clear hHeld
   refine anyU_world (fun w => Hid (S w0 w _)) HS (fun w1 HS => ?_)
   clear HS0
   refine anyU_next (rs := [9]) (by kernel_rfl) (by simp) ?_
   refine NextU.cons rfl (fun K hK => ?_) ?_
   ·go_simp
    replace HS := hid (HS.out.alloc_slU (e := 129) (size := 4) (opc ⟨(i : Int) + 1, px, true, 0⟩) 1 rfl (by unfold maxLen; omega))
    generalize w1.heap.size = b9 at HS ⊢
    refine act_any (fun w => Hid (S w0 w _)) HS (fun w2 HS => ?_)
    refine hK.out _ _ (fun _ => (HQ.out _ (HS.out.nth 2 rfl))) ?_
    clear hK K
    refine anyU_next (rs := [10]) (by kernel_rfl) (by simp) ?_
    refine NextU.cons rfl (fun K hK => ?_) ?_
    ·refine step_appU rfl (.tmp 61) (.tmp 66) 54 rfl 129 i0 _ 4 32 Tryz.underlying54 hi0 hz0 hz1 hz2 rfl (by decide) HS.out 1 (by rfl) (by rfl) _ 1 1 (opc ⟨(i : Int) + 1, px, true, 0⟩) (by rfl) rfl (HS.out.news_slK 0 (by rfl)) (one_opR _) HA.out (by decide) ?_
     intro v10 w3 hs
     replace HS := hid hs
     clear hs
     obtain ⟨p10, c10, rfl, _, _, _⟩ := HS.out.sl_val
     refine hK.out _ _ (fun _ => (HQ.out _ (HS.out.nth 2 rfl))) ?_
     clear hK K
     try simp only [putU]
     refine anyU_pure (i := 11) (v := ?_) rfl (by kernel_rfl) (fun _ _ _ h => h) (Or.inl ⟨by rfl, ?_⟩) (fun _ => (HQ.out _ (HS.out.nth 2 rfl))) ?_
     rotate_left
     ·(intro w _; go_simp) <;> with_reducible rfl
     try simp only [putU]
     refine anyU_take (i := 12) (v := ?_) rfl (by kernel_rfl) (fun _ _ _ h => h) (Or.inl ⟨by rfl, ?_⟩) (HQ.out _ (HS.out.nth 2 rfl)) ?_
     rotate_left
     ·(intro w hSw; (try dsimp only at hSw); go_simp) <;> with_reducible rfl
     try simp only [putU]
     refine anyU_next (rs := [13]) (by kernel_rfl) (by simp) ?_
     refine NextU.cons rfl (fun K hK => ?_) ?_
     ·have q1 := (HQ.out _ (HS.out.nth 2 rfl)).1
      have q2 := HF.out _ (HS.out.nth 2 rfl)
      go_simp
      refine hK.out _ _ (fun h => Bool.noConfusion (show true = false from h)) ?_
      clear hK K q1 q2
      refine anyU_done (by kernel_rfl) ?_ _
      have HZ := HS.out
      simp only [List.eraseIdx_cons_succ, List.eraseIdx_cons_zero] at HZ
      have h5 := HCL.out _ _ _ (HZ.conv (M := sl 129 4 (.slice p10 (En + 1) c10) (En + 1) (fcells opc Eh ++ (opc ⟨(i : Int) + 1, px, true, 0⟩)) :: hjV b bs Ek EE wr.heap.size px py :: sl 129 4 (.slice (some ⟨b9, 0, none⟩) 1 1) 1 (opc ⟨(i : Int) + 1, px, true, 0⟩) :: LL) (by simp only [all]; ac_rfl))
      have H5 := hid h5
      clear HZ h5 HS HQ HF HCL
      go_wp2_with fail
      go_roundw
      case rel => exact ⟨j + 1, by omega, by go_num, _, H5.out⟩
      case measure => simp [intOf]; omega
     exact NextU.nil
    exact NextU.nil
   exact NextU.nil
  ·obtain rfl : j = wl.length := by omega
   rw [List.take_length, HH0T.out, HLL.out] at hsr
   have hsr : S w0 wr (renO b bs { k with hv := hv' } { e with hist := e.hist ++ toldL ((i : Int) + 1) (e.tx i) } :: refP 47 109 b K e.last :: rtabP 3 b 2 Qs :: sl 101 2 (.slice al wl.length cl) wl.length (pcells wl) :: L) := hsr.conv (by simp only [all]; ac_rfl)
   have hroom : ∀ hv', Room M [] { k with hv := hv' } (e.over2 i) := fun hv' j hj => by
    have hl : (e.over2 i).txs.length = e.txs.length := by
     show ((e.told i).upd i _).txs.length = _
     rw [Eng.upd_len, (told_txs e i).1]
    have htx : (e.told i).tx j = e.tx j := by unfold Eng.tx; rw [(told_txs e i).1]
    have h1 := HSM.out.2.2 j (by omega)
    have hs : ((e.over2 i).tx j).state = if i = j ∧ j < (e.told i).txs.length then 2 else (e.tx j).state := by
     show (((e.told i).upd i fun x => { x with state := 2, ended := e.count + 1 }).tx j).state = _
     rw [Eng.upd_tx, ← htx]
     split <;> rfl
    show (k.v j).own.length + _ ≤ M
    rw [hs]
    split
    ·simp; split at h1 <;> omega
    ·exact h1
   have hclose : ∀ W hv' (wr' : List (Int × Int)) (V' : List Vers) (last' : Int) (K' : List Kep) (M' : List HProp), e.told i = ({ e with V := V', last := last', wr := wr', hist := e.hist ++ toldL ((i : Int) + 1) (e.tx i) } : Eng) → Same V' last' K' →
     S w0 W (renO b bs { k with hv := hv' } { e with hist := e.hist ++ toldL ((i : Int) + 1) (e.tx i), wr := wr' } :: refP 47 109 b K' last' :: rtabP 3 b 2 Qs :: M') →
     (W.cell? ⟨b, 13, none⟩ = some (.int .i64 e.count) ∧ W.frozen? ⟨b, 13, none⟩ = false ∧ W.cell? ⟨blkOf bs i, 1, none⟩ = some (.int .i64 (e.tx i).state) ∧ W.frozen? ⟨blkOf bs i, 1, none⟩ = false ∧ W.cell? ⟨blkOf bs i, 5, none⟩ = some (.int .i64 (e.tx i).ended) ∧ W.frozen? ⟨blkOf bs i, 5, none⟩ = false ∧ blkOf bs i ≠ b) ∧
     S w0 (((W.setCell ⟨b, 13, none⟩ (.int .i64 (e.count + 1))).setCell ⟨blkOf bs i, 1, none⟩ (.int .i64 2)).setCell ⟨blkOf bs i, 5, none⟩ (.int .i64 (e.count + 1))) (renP M [] b bs (e.over2 i) :: M') := fun W hv' wr' V' last' K' M' ht hsame h => by
    have hc := h.ren_c.2
    have hx := (h.ren_txc (i := i) HI.out).2
    have hbb := ren_blk_ne (i := i) h HI.out
    have g1 := h.ren_count (e.count + 1)
    have g2 := g1.ren_set (i := i) (j := 1) (u := .int .i64 2) HI.out (fun x => { x with state := 2 }) (by decide) rfl rfl rfl rfl rfl
    have g3 := g2.ren_set (i := i) (j := 5) (u := .int .i64 (e.count + 1)) (by rw [Eng.upd_len]; exact HI.out) (fun x => { x with ended := e.count + 1 }) (by decide) rfl rfl rfl rfl rfl
    refine ⟨⟨hc.count, hc.free 13 (by omega) (by omega), hx.state, hx.free 1, hx.ended, hx.free 5, hbb⟩, ?_⟩
    have he2 : e.over2 i = ((({ ({ e with V := V', last := last', wr := wr', hist := e.hist ++ toldL ((i : Int) + 1) (e.tx i) } : Eng) with count := e.count + 1 } : Eng).upd i fun x => { x with state := 2 }).upd i fun x => { x with ended := e.count + 1 }) := by
     unfold Eng.over2
     rw [ht]
     unfold Eng.upd
     simp only [Eng.mk.injEq, and_true, true_and]
     apply List.ext_getElem?
     intro j
     simp only [List.getElem?_modify]
     by_cases h : i = j
     ·subst h; cases e.txs[i]? <;> simp
     ·simp [h]
    have hrm := hroom hv'
    rw [he2] at hrm ⊢
    refine S.ren_shut (k := { k with hv := hv' }) (K := K') (Qs := Qs) ⟨hsame, HSM.out.2.1, hrm⟩ (g3.conv ?_)
    simp only [all]
    show sep (renO b bs { k with hv := hv' } ((({ ({ e with V := V', last := last', wr := wr', hist := e.hist ++ toldL ((i : Int) + 1) (e.tx i) } : Eng) with count := e.count + 1 } : Eng).upd i fun x => { x with state := 2 }).upd i fun x => { x with ended := e.count + 1 })) (sep (refP _ _ b K' last') (sep (rtabP _ b 2 Qs) _)) = sep (refP _ _ b K' last') (sep (rtabP _ b 2 Qs) (sep _ _))
    ac_rfl
   have hdrop : ∀ W M', S w0 W (renP M [] b bs (e.over2 i) :: M') → Calls Tryz.prog 64 #[.pointer (some ⟨b, 0, none⟩), .int .i64 ((i : Int) + 1)] W fun r w' => r = .returned (.tuple #[]) ∧ S w0 w' (renP M [] b bs ((e.over2 i).frees i) :: M') := fun W M' h =>
    rdrops_any (e.over2 i).open_ w0 W b bs (e.over2 i) i M' N [] M (by rw [List.append_nil]; exact HOV.out) (HTI.out.over2 (i := i)) (Nat.le_refl _) (by omega) hM (fun k => by have := HLEN.out k; rw [show (e.over2 i).t = e.t from (told_txs e i).2.1]; exact this) (by rw [show (e.over2 i).t = e.t from (told_txs e i).2.1]; exact HHOLD.out) h
   have hc1 := hcnt.1
   have hc2 := hcnt.2
   have HCLO := hid hclose; have HDR := hid hdrop
   clear hclose hdrop hroom
   by_cases hw0 : wl = []
   ·have ht : e.told i = ({ e with V := e.V, last := e.last, wr := e.wr, hist := e.hist ++ toldL ((i : Int) + 1) (e.tx i) } : Eng) := told_none (by rw [HWLE.out]; exact hw0)
    obtain ⟨⟨c13, f13, x1, fx1, x5, fx5, hbb⟩, hs9⟩ := HCLO.out wr hv' e.wr e.V e.last K _ ht HSM.out.1 hsr
    have hwl0 : wl.length = 0 := by rw [hw0]; rfl
    have hbb' := Ne.symm hbb
    have HFC := hid (HDR.out _ _ hs9)
    clear hsr hs9 HCLO HDR ht hw0 HWOK HSM HH0L HH0T HLL hlast
    go_wp2_with fail
    with_reducible refine HFC.out.mono ?_
    rintro r w9 ⟨rfl, hs9⟩
    have H9 := hid hs9
    clear hs9 HFC
    go_wp2_with fail
    go_ret
    exact ⟨by rw [HCQ.out]; rfl, by rw [HCQ.out]; exact H9.out.swap.tail⟩
   ·have hwpos : 0 < wl.length := List.length_pos_iff.2 hw0
    have hl1 := hlast.1
    have hl2 := hlast.2
    have hwp1 : IntKind.i64.wrap (e.last + 1) = e.last + 1 := IntWalk.i64_in _ (by omega)
    have hin := HSM.out.1.inst (e.last + 1) wl
    have ht := told_eq (e := e) (i := i) (by rw [HWLE.out]; exact hw0)
    rw [HWLE.out] at ht
    have hri := fun W L' h => rinstall2 w0 W b K e.last (e.last + 1) (.slice al wl.length cl) wl (sl 101 2 (.slice al wl.length cl) wl.length (pcells wl) :: L') h RdK.own (by have := HKL.out; omega)
    generalize (if instOk e.last (e.last + 1) wl then putAll (e.last + 1) e.V wl else e.V) = V' at hin ht hri
    generalize (if instOk e.last (e.last + 1) wl then e.last + 1 else e.last) = la' at hin ht hri
    generalize (if instOk e.last (e.last + 1) wl then K ++ rrows (e.last + 1) wl 10 else K) = K' at hin ht hri
    have hins : ∀ W, S w0 W (renO b bs { k with hv := hv' } { e with hist := e.hist ++ toldL ((i : Int) + 1) (e.tx i), wr := mput e.wr (e.last + 1) ((i : Int) + 1) } :: refP 47 109 b K e.last :: rtabP 3 b 2 Qs :: sl 101 2 (.slice al wl.length cl) wl.length (pcells wl) :: L) →
      Calls Tryz.prog 12 #[.pointer (some ⟨b, 0, none⟩), .int .i64 (e.last + 1), .slice al wl.length cl] W fun r w' => ∃ v, r = .returned v ∧ S w0 w' (renO b bs { k with hv := hv' } { e with hist := e.hist ++ toldL ((i : Int) + 1) (e.tx i), wr := mput e.wr (e.last + 1) ((i : Int) + 1) } :: refP 47 109 b K' la' :: rtabP 3 b 2 Qs :: sl 101 2 (.slice al wl.length cl) wl.length (pcells wl) :: L) := fun W h =>
     (hri W (renO b bs { k with hv := hv' } { e with hist := e.hist ++ toldL ((i : Int) + 1) (e.tx i), wr := mput e.wr (e.last + 1) ((i : Int) + 1) } :: rtabP 3 b 2 Qs :: L) (h.conv (by simp only [all]; ac_rfl))).mono fun r w' ⟨h2, h3⟩ => ⟨_, h2, h3.conv (by simp only [all]; ac_rfl)⟩
    have hup : ∀ W, S w0 W (renO b bs { k with hv := hv' } { e with hist := e.hist ++ toldL ((i : Int) + 1) (e.tx i) } :: refP 47 109 b K e.last :: rtabP 3 b 2 Qs :: sl 101 2 (.slice al wl.length cl) wl.length (pcells wl) :: L) →
      ∃ w', (Instr.mapUpdate 53 (.map (some k.wb)) (.int .i64 (e.last + 1)) (.int .i64 ((i : Int) + 1))).run Tryz.prog W = .ok () w' ∧ S w0 w' (renO b bs { k with hv := hv' } { e with hist := e.hist ++ toldL ((i : Int) + 1) (e.tx i), wr := mput e.wr (e.last + 1) ((i : Int) + 1) } :: refP 47 109 b K e.last :: rtabP 3 b 2 Qs :: sl 101 2 (.slice al wl.length cl) wl.length (pcells wl) :: L) := fun W h => ren_wrput h (e.last + 1) ((i : Int) + 1)
    have hq15 : ∀ W (E : Eng) M', S w0 W (renO b bs { k with hv := hv' } E :: refP 47 109 b K e.last :: M') → W.cell? ⟨b, 14, none⟩ = some (.map (some k.wb)) ∧ W.cell? ⟨b, 1, none⟩ = some (.int .i64 e.last) := fun W E M' h => by
     obtain ⟨v, h3⟩ := h.tail.ref_elim
     exact ⟨h.ren_c.2.wr, h3.c0_cell 1 rfl⟩
    have HS0 := hid hsr; have HIN := hid hins; have HUP := hid hup; have HQ15 := hid hq15; have HT := hid ht; have HSA := hid hin.1
    clear hsr hin ht hri hins hup hq15 hw0 HWOK HSM HH0L HH0T HLL hlast HKL HWLE
    go_upto_region 15 with fail
    go_cut [] (fun wx => S w0 wx (renO b bs { k with hv := hv' } { e with hist := e.hist ++ toldL ((i : Int) + 1) (e.tx i), wr := mput e.wr (e.last + 1) ((i : Int) + 1) } :: refP 47 109 b K e.last :: rtabP 3 b 2 Qs :: sl 101 2 (.slice al wl.length cl) wl.length (pcells wl) :: L))
    case first =>
     refine region_U (S := fun w' => w'.cell? ⟨b, 14, none⟩ = some (.map (some k.wb)) ∧ w'.cell? ⟨b, 1, none⟩ = some (.int .i64 e.last)) (u := 11) (by kernel_rfl) (HQ15.out _ _ _ HS0.out.drew) (fun hHeld => ?_)
     refine anyU_take (i := 0) (v := ?_) rfl (by kernel_rfl) (fun _ _ _ h => h) (Or.inl ⟨by rfl, ?_⟩) hHeld ?_
     rotate_left
     ·(intro w hSw; (try dsimp only at hSw); go_simp) <;> with_reducible rfl
     try simp only [putU]
     refine anyU_take (i := 1) (v := ?_) rfl (by kernel_rfl) (fun _ _ _ h => h) (Or.inl ⟨by rfl, ?_⟩) hHeld ?_
     rotate_left
     ·(intro w hSw; (try dsimp only at hSw); go_simp) <;> with_reducible rfl
     try simp only [putU]
     refine anyU_take (i := 2) (v := ?_) rfl (by kernel_rfl) (fun _ _ _ h => h) (Or.inl ⟨by rfl, ?_⟩) hHeld ?_
     rotate_left
     ·(intro w hSw; (try dsimp only at hSw); go_simp) <;> with_reducible rfl
     try simp only [putU]
     refine anyU_take (i := 3) (v := ?_) rfl (by kernel_rfl) (fun _ _ _ h => h) (Or.inl ⟨by rfl, ?_⟩) hHeld ?_
     rotate_left
     ·(intro w hSw; (try dsimp only at hSw); go_simp) <;> with_reducible rfl
     try simp only [putU]
     refine anyU_take (i := 4) (v := ?_) rfl (by kernel_rfl) (fun _ _ _ h => h) (Or.inl ⟨by rfl, ?_⟩) hHeld ?_
     rotate_left
     ·(intro w hSw; (try dsimp only at hSw); go_simp) <;> with_reducible rfl
     try simp only [putU]
     refine anyU_take (i := 5) (v := ?_) rfl (by kernel_rfl) (fun _ _ _ h => h) (Or.inl ⟨by rfl, ?_⟩) hHeld ?_
     rotate_left
     ·(intro w hSw; (try dsimp only at hSw); go_simp) <;> with_reducible rfl
     try simp only [putU]
     refine anyU_take (i := 6) (v := ?_) rfl (by kernel_rfl) (fun _ _ _ h => h) (Or.inl ⟨by rfl, ?_⟩) hHeld ?_
     rotate_left
     ·(intro w hSw; (try dsimp only at hSw); go_simp) <;> with_reducible rfl
     try simp only [putU]
     refine anyU_take (i := 7) (v := ?_) rfl (by kernel_rfl) (fun _ _ _ h => h) (Or.inl ⟨by rfl, ?_⟩) hHeld ?_
     rotate_left
     ·(intro w hSw; (try dsimp only at hSw); go_simp) <;> with_reducible rfl
     try simp only [putU]
     refine anyU_take (i := 8) (v := ?_) rfl (by kernel_rfl) (fun _ _ _ h => h) (Or.inl ⟨by rfl, ?_⟩) hHeld ?_
     rotate_left
     ·(intro w hSw; (try dsimp only at hSw); go_simp) <;> with_reducible rfl
     try simp only [putU]
     refine anyU_take (i := 9) (v := ?_) rfl (by kernel_rfl) (fun _ _ _ h => h) (Or.inl ⟨by rfl, ?_⟩) hHeld ?_
     rotate_left
     ·(intro w hSw; (try dsimp only at hSw); go_simp) <;> with_reducible rfl
     try simp only [putU]
     refine anyU_take (i := 10) (v := ?_) rfl (by kernel_rfl) (fun _ _ _ h => h) (Or.inl ⟨by rfl, ?_⟩) hHeld ?_
     rotate_left
     ·(intro w hSw; (try dsimp only at hSw); go_simp) <;> with_reducible rfl
     try simp only [putU]
     have HS := hid HS0.out.drew
     clear hHeld
     refine anyU_world (fun w => Hid (S w0 w _)) HS (fun w1 HS => ?_)
     clear HS0
     refine anyU_next (rs := [11]) (by kernel_rfl) (by simp) ?_
     refine NextU.cons rfl (fun K hK => ?_) ?_
     ·refine step_mapuE rfl 53 (.tmp 77) (.tmp 83) (.tmp 84) rfl (by rfl) (by rfl) (by rfl) (HUP.out _ HS.out) ?_
      intro w2 hs2
      have H6 := hid hs2
      clear hs2
      refine hK.out _ _ (fun h => Bool.noConfusion (show true = false from h)) ?_
      clear hK K
      try simp only [putU]
      refine anyU_done (by kernel_rfl) ?_ _
      go_wp2_with fail
      go_meet
      exact H6.out
     exact NextU.nil
    case rest =>
    rename World => w7
    have HS0 := hid hcut
    clear hcut HUP
    go_upto_region 16 with fail
    refine region_U (S := fun w' => w'.cell? ⟨b, 14, none⟩ = some (.map (some k.wb)) ∧ w'.cell? ⟨b, 1, none⟩ = some (.int .i64 e.last)) (u := 10) (by kernel_rfl) (HQ15.out _ _ _ HS0.out.drew) (fun hHeld => ?_)
    refine anyU_pure (i := 0) (v := ?_) rfl (by kernel_rfl) (fun _ _ _ h => h) (Or.inl ⟨by rfl, ?_⟩) (fun _ => hHeld) ?_
    rotate_left
    ·(intro w _; go_simp) <;> with_reducible rfl
    try simp only [putU]
    refine anyU_pure (i := 1) (v := ?_) rfl (by kernel_rfl) (fun _ _ _ h => h) (Or.inl ⟨by rfl, ?_⟩) (fun _ => hHeld) ?_
    rotate_left
    ·(intro w _; go_simp) <;> with_reducible rfl
    try simp only [putU]
    refine anyU_take (i := 2) (v := ?_) rfl (by kernel_rfl) (fun _ _ _ h => h) (Or.inl ⟨by rfl, ?_⟩) hHeld ?_
    rotate_left
    ·(intro w hSw; (try dsimp only at hSw); go_simp) <;> with_reducible rfl
    try simp only [putU]
    refine anyU_pure (i := 3) (v := ?_) rfl (by kernel_rfl) (fun _ _ _ h => h) (Or.inl ⟨by rfl, ?_⟩) (fun _ => hHeld) ?_
    rotate_left
    ·(intro w _; go_simp) <;> with_reducible rfl
    try simp only [putU]
    refine anyU_pure (i := 4) (v := ?_) rfl (by kernel_rfl) (fun _ _ _ h => h) (Or.inl ⟨by rfl, ?_⟩) (fun _ => hHeld) ?_
    rotate_left
    ·(intro w _; go_simp) <;> with_reducible rfl
    try simp only [putU]
    refine anyU_pure (i := 5) (v := ?_) rfl (by kernel_rfl) (fun _ _ _ h => h) (Or.inl ⟨by rfl, ?_⟩) (fun _ => hHeld) ?_
    rotate_left
    ·(intro w _; go_simp) <;> with_reducible rfl
    try simp only [putU]
    refine anyU_pure (i := 6) (v := ?_) rfl (by kernel_rfl) (fun _ _ _ h => h) (Or.inl ⟨by rfl, ?_⟩) (fun _ => hHeld) ?_
    rotate_left
    ·(intro w _; go_simp) <;> with_reducible rfl
    try simp only [putU]
    refine anyU_take (i := 9) (v := ?_) rfl (by kernel_rfl) (fun _ _ _ h => h) (Or.inl ⟨by rfl, ?_⟩) hHeld ?_
    rotate_left
    ·(intro w hSw; (try dsimp only at hSw); go_simp) <;> with_reducible rfl
    try simp only [putU]
    have HS := hid HS0.out.drew
    clear hHeld
    refine anyU_world (fun w => Hid (S w0 w _)) HS (fun w1 HS => ?_)
    clear HS0
    refine anyU_next (rs := [7]) (by kernel_rfl) (by simp) ?_
    refine NextU.cons rfl (fun K hK => ?_) ?_
    ·have q := (HQ15.out _ _ _ HS.out).2
     go_simp
     refine hK.out _ _ (fun _ => (HQ15.out _ _ _ HS.out)) ?_
     clear hK K q
     refine anyU_take (i := 8) (v := ?_) rfl (by kernel_rfl) (fun _ _ _ h => h) (Or.inl ⟨by rfl, ?_⟩) (HQ15.out _ _ _ HS.out) ?_
     rotate_left
     ·(intro w hSw; (try dsimp only at hSw); go_simp) <;> with_reducible rfl
     try simp only [putU]
     refine anyU_next (rs := [10]) (by kernel_rfl) (by simp) ?_
     refine NextU.cons rfl (fun K hK => ?_) ?_
     ·go_simp
      go_wp2_with (go_at_call 12; with_reducible refine (HIN.out _ HS.out).mono ?_; rintro r w8 ⟨vi, rfl, hs8⟩; have H8 := hid hs8; clear hs8)
      refine hK.out _ _ (fun h => Bool.noConfusion (show true = false from h)) ?_
      clear hK K
      refine anyU_done (by kernel_rfl) ?_ _
      obtain ⟨⟨c13, f13, x1, fx1, x5, fx5, hbb⟩, hs9⟩ := HCLO.out _ _ _ _ _ _ _ HT.out HSA.out H8.out
      have hbb' := Ne.symm hbb
      have HFC := hid (HDR.out _ _ hs9)
      clear hs9 HCLO HDR HT HSA HIN HQ15 HS H8
      go_wp2_with fail
      with_reducible refine HFC.out.mono ?_
      rintro r w9 ⟨rfl, hs9⟩
      have H9 := hid hs9
      clear hs9 HFC
      go_wp2_with fail
      go_ret
      exact ⟨by rw [HCQ.out]; rfl, by rw [HCQ.out]; exact H9.out.swap.tail⟩
     exact NextU.nil
    exact NextU.nil
end Go.Proofs.YtmfngjclccehaaaGreatDoor
