/- The reference's store: Sweep. -/
import Derived.Test.YtmfngjclccehaaaGreatDoorZ0
import Derived.Test.YtmfngjclccehaaaGreatDoorZ5
import Derived.Deep.DeepCutAuto
import Derived.Deep.CutBlock
import Derived.Test.YtmfngjclccehaaaGreatDoorZ4
import Derived.BigQuiet
import Derived.Test.YtmfngjclccehaaaGreatDoorZ3
import Derived.Test.YtmfngjclccehaaaGreatDoorZ1
/- The reference's engine: one transaction is noted to be ahead of another one. -/
namespace Go.Proofs.YtmfngjclccehaaaGreatDoor
open Go Go.RowKit Go.Sep
theorem Tryz.info90 : (Tryz.prog.info? 90).map (fun i => (i.zero, i.size, i.bytes)) = some (some (.pointer none), 1, 8) := by kernel_rfl
theorem RenV.set_own (k : RenV) (i : Nat) {v : RtxV} (hv : v.own = (k.v i).own) (m : Nat) : ((k.set i v).v m).own = (k.v m).own := by
 unfold RenV.set RenV.v at *
 simp only [List.getElem?_set]
 by_cases h : i = m
 ·subst h
  by_cases hl : i < k.tv.length
  ·simp only [hl, if_true, Option.getD_some]; exact hv
  ·simp [hl]
 ·simp [h]
theorem ra_step (w0 w : World) (b : Nat) (bs : List Nat) (k : RenV) (e : Eng) (i j : Nat) (L : List HProp) (hs : S w0 w (renO b bs k e :: L)) (hi : i < e.txs.length) :
  ∃ aa ca ln xs X, ln = (e.tx i).aft.length ∧ S w0 w (sl 90 1 (.slice aa ln ca) ln xs :: X :: L) ∧ (∀ W M, S w0 W (X :: M) → W.cell? ⟨blkOf bs i, 10, none⟩ = some (.slice aa ln ca) ∧ W.frozen? ⟨blkOf bs i, 10, none⟩ = false) ∧ ca ≤ maxLen ∧ ln ≤ ca ∧
   (∀ W v', S w0 W (sl 90 1 v' (ln + 1) (xs ++ [ptr bs j]) :: X :: L) → ∃ k', (k'.txv = k.txv ∧ ∀ m, (k'.v m).own = (k.v m).own) ∧ S w0 (W.setCell ⟨blkOf bs i, 10, none⟩ v') (renO b bs k' (e.upd i fun x => { x with aft := x.aft ++ [j] }) :: L)) := by
 have h2 := hs.ra_open hi
 obtain ⟨aa, ca, hva, hca, hca2, _⟩ := h2.sl_val
 rw [hva] at h2
 exact ⟨aa, ca, _, _, _, rfl, h2, fun W M h => by rw [← hva]; exact h.ra_see, hca2, hca, fun W v' h => ⟨k.set i { k.v i with av := v' }, ⟨rfl, fun m => RenV.set_own k i (by rfl) m⟩, h.ra_close hi⟩⟩
theorem rf_step (w0 w : World) (b : Nat) (bs : List Nat) (k : RenV) (e : Eng) (i j : Nat) (L : List HProp) (hs : S w0 w (renO b bs k e :: L)) (hi : i < e.txs.length) :
  ∃ aa ca ln xs X, ln = (e.tx i).fore.length ∧ S w0 w (sl 90 1 (.slice aa ln ca) ln xs :: X :: L) ∧ (∀ W M, S w0 W (X :: M) → W.cell? ⟨blkOf bs i, 11, none⟩ = some (.slice aa ln ca) ∧ W.frozen? ⟨blkOf bs i, 11, none⟩ = false) ∧ ca ≤ maxLen ∧ ln ≤ ca ∧
   (∀ W v', S w0 W (sl 90 1 v' (ln + 1) (xs ++ [ptr bs j]) :: X :: L) → ∃ k', (k'.txv = k.txv ∧ ∀ m, (k'.v m).own = (k.v m).own) ∧ S w0 (W.setCell ⟨blkOf bs i, 11, none⟩ v') (renO b bs k' (e.upd i fun x => { x with fore := x.fore ++ [j] }) :: L)) := by
 have h2 := hs.rf_open hi
 obtain ⟨aa, ca, hva, hca, hca2, _⟩ := h2.sl_val
 rw [hva] at h2
 exact ⟨aa, ca, _, _, _, rfl, h2, fun W M h => by rw [← hva]; exact h.rf_see, hca2, hca, fun W v' h => ⟨k.set i { k.v i with fv := v' }, ⟨rfl, fun m => RenV.set_own k i (by rfl) m⟩, h.rf_close hi⟩⟩
set_option maxRecDepth 40000 in
set_option maxHeartbeats 8000000 in
theorem rahead_any (w0 w : World) (b : Nat) (bs : List Nat) (k : RenV) (e : Eng) (i j : Nat) (L : List HProp) (hs : S w0 w (renO b bs k e :: L)) (hi : i < e.txs.length) (hj : j < e.txs.length) (hij : i ≠ j)
  (ha : (e.tx i).aft.length + 1 ≤ 1000000000000) (hf : (e.tx j).fore.length + 1 ≤ 1000000000000) (hr : ∀ x ∈ e.txs, ∀ m ∈ x.fore ++ x.aft, m < e.txs.length) :
  Calls Tryz.prog 53 #[ptr bs i, ptr bs j] w fun r w' => ∃ k', (k'.txv = k.txv ∧ ∀ m, (k'.v m).own = (k.v m).own) ∧ r = .returned (.bool ((e.note i j).bad i j)) ∧ S w0 w' (renO b bs k' (e.note i j) :: L) := by
 obtain ⟨i0, hi0, hz0, hz1, hz2⟩ := info_parts Tryz.info90
 obtain ⟨aa, ca, ln, xs, X, hln, h2, hc, hm1, hm2, hcl⟩ := ra_step w0 w b bs k e i j L hs hi
 rw [← hln] at ha
 have c0 := (hc w _ h2.swap).1
 have hsa := h2.alloc #[ptr bs j] 90
 have hna := news_blk hsa
 have hf2 : ((e.upd i fun x => { x with aft := x.aft ++ [j] }).tx j).fore.length + 1 ≤ 1000000000000 := by rw [Eng.upd_ne hij]; exact hf
 have HA := hid hsa.tail; have HN := hid hna; have HC := hid hc; have HCL := hid hcl; have HB := hid ha; have HF := hid hf2
 have HR := hid (note_refs hr hi hj); have HI := hid hi; have HJ := hid hj
 have HLN := hid (Eng.note_len e i j)
 have HU := hid (Eng.upd_len e i fun x => { x with aft := x.aft ++ [j] })
 clear hs h2 hc hcl hsa hna ha hf hf2 hr hi hj hij hln
 unfold maxLen at hm1
 unfold ptr
 go_enter Tryz.func53, Tryz.ntmps53
 go_upto_region 2 with (at_builtin; refine wpList_append rfl (.tmp 9) (.tmp 11) 52 rfl 90 i0 _ 1 8 Tryz.underlying52 hi0 hz0 hz1 hz2 rfl (by decide) HA.out rfl (some ⟨w.heap.size, 0, none⟩) 1 1 [ptr bs j] rfl rfl HN.out (one_ptr bs j) (by have := HB.out; unfold maxLen; omega) (by have := HB.out; omega) ?_; intro v1 w5 hs1; obtain ⟨a1, c1, rfl, _, _, _⟩ := hs1.sl_val; have q := HC.out _ _ hs1.tail; have q1 := q.1; have q2 := q.2; have HS := hid (HCL.out _ _ hs1); clear hs1 q)
 clear q1 q2 HA HN HC HCL HB c0 hm1 hm2
 obtain ⟨k1, ho1, hs1⟩ := HS.out
 clear HS
 generalize World.setCell w5 _ _ = w6 at hs1 ⊢
 have hj1 : j < (e.upd i fun x => { x with aft := x.aft ++ [j] }).txs.length := by rw [HU.out]; exact HJ.out
 obtain ⟨aa2, ca2, ln2, xs2, X2, hln2, h2, hc, hm1, hm2, hcl⟩ := rf_step w0 w6 b bs k1 _ j i L hs1 hj1
 rw [← hln2] at HF
 have c0 := (hc w6 _ h2.swap).1
 have hsa := h2.alloc #[ptr bs i] 90
 have hna := news_blk hsa
 have HA := hid hsa.tail; have HN := hid hna; have HC := hid hc; have HCL := hid hcl; have HO := hid ho1
 clear hs1 h2 hc hcl hsa hna hln2 ho1 hj1
 unfold maxLen at hm1
 go_upto_region 3 with (at_builtin; refine wpList_append rfl (.tmp 19) (.tmp 21) 52 rfl 90 i0 _ 1 8 Tryz.underlying52 hi0 hz0 hz1 hz2 rfl (by decide) HA.out rfl (some ⟨w6.heap.size, 0, none⟩) 1 1 [ptr bs i] rfl rfl HN.out (one_ptr bs i) (by have := HF.out; unfold maxLen; omega) (by have := HF.out; omega) ?_; intro v1 w7 hs1; obtain ⟨a2, c2, rfl, _, _, _⟩ := hs1.sl_val; have q := HC.out _ _ hs1.tail; have q1 := q.1; have q2 := q.2; have HS := hid (HCL.out _ _ hs1); clear hs1 q)
 clear q1 q2 HA HN HC HCL HF c0 hm1 hm2
 obtain ⟨k', hk', hs'⟩ := HS.out
 clear HS
 generalize World.setCell w7 _ _ = wz at hs' ⊢
 have HKK : Hid (k'.txv = k.txv ∧ ∀ m, (k'.v m).own = (k.v m).own) := hid ⟨hk'.1.trans HO.out.1, fun m => (hk'.2 m).trans (HO.out.2 m)⟩
 clear hk' HO
 have hI : i < (e.note i j).txs.length := by rw [HLN.out]; exact HI.out
 have hJ : j < (e.note i j).txs.length := by rw [HLN.out]; exact HJ.out
 replace hs' : S w0 wz (renO b bs k' (e.note i j) :: L) := hs'
 generalize hE : e.note i j = e' at *
 have HE := hid hE
 clear hE
 have hfr := HR.out
 have m1 := rbetween_any w0 wz b bs k' e' i _ hs' hI (hfr _ (Eng.tx_mem hI))
 have m2 := rbetween_any w0 wz b bs k' e' j _ hs' hJ (hfr _ (Eng.tx_mem hJ))
 have s1 := (hs'.ren_txc hI).2.state
 have s2 := (hs'.ren_txc hJ).2.state
 have hwi : e'.wrong i = (decide ((e'.tx i).state = 2) && e'.middle i) := rfl
 have hwj : e'.wrong j = (decide ((e'.tx j).state = 2) && e'.middle j) := rfl
 have hbd : e'.bad i j = (e'.wrong i || e'.wrong j) := rfl
 have HB := hid (show e'.bad i j = ((decide ((e'.tx i).state = 2) && e'.middle i) || (decide ((e'.tx j).state = 2) && e'.middle j)) by rw [hbd, hwi, hwj])
 generalize (e'.tx i).state = si at *
 generalize (e'.tx j).state = sj at *
 generalize e'.middle i = mi at *
 generalize e'.middle j = mj at *
 have HX := hid hs'; have M1 := hid m1; have M2 := hid m2
 clear hs' hfr m1 m2 hwi hwj hbd HR HLN HI HJ hI hJ HU
 by_cases h1 : si = 2 <;> by_cases h2 : sj = 2 <;> cases mi <;> cases mj
 all_goals
  have H1 := hid h1; have H2 := hid h2
  try have hb1 : (si == 2) = false := by simpa using h1
  try have hb2 : (sj == 2) = false := by simpa using h2
  first | subst h1 | clear h1
  first | subst h2 | clear h2
  go_wp2_with (go_at_call 68; first | (with_reducible refine M1.out.mono ?_; rintro e w' ⟨rfl, rfl⟩) | (with_reducible refine M2.out.mono ?_; rintro e w' ⟨rfl, rfl⟩))
  go_ret
  exact ⟨k', HKK.out, by rw [HE.out, HB.out]; first | rfl | simp [H1.out, H2.out], by rw [HE.out]; exact HX.out⟩
end Go.Proofs.YtmfngjclccehaaaGreatDoor
/- The reference's engine: what a transaction read, and what it wrote, taken out, and put back with one thing more. No walk in sight. -/
namespace Go.Proofs.YtmfngjclccehaaaGreatDoor
open Go Go.RowKit Go.Sep
variable {w w0 : World} {L : List HProp} {b : Nat} {bs : List Nat} {k : RenV} {e : Eng} {i : Nat}
def roX (b : Nat) (bs : List Nat) (k : RenV) (e : Eng) (i : Nat) : HProp :=
 sep (blk (blkOf bs i) 103 (rtxF (k.v i) (e.tx i))) (sep (pur ((e.tx i).writes = ownMap (k.v i).own)) (sep (sl 129 4 (k.v i).rv (e.tx i).reads.length (fcells opc (readOps ((i : Int) + 1) (e.tx i).reads))) (sep (sl 90 1 (k.v i).av (e.tx i).aft.length (ptrs bs (e.tx i).aft)) (sep (sl 90 1 (k.v i).fv (e.tx i).fore.length (ptrs bs (e.tx i).fore)) (renX b bs k e i)))))
theorem _root_.Go.Sep.S.ro_open (h : S w0 w (renO b bs k e :: L)) (hi : i < e.txs.length) : S w0 w (sl 101 2 (k.v i).ov (k.v i).own.length (pcells (k.v i).own) :: roX b bs k e i :: L) := by
 refine (h.ren_tx hi).conv ?_
 simp only [all, roX]
 rw [rtxK_parts]
 ac_rfl
theorem _root_.Go.Sep.S.ro_see (h : S w0 w (roX b bs k e i :: L)) : w.cell? ⟨blkOf bs i, 7, none⟩ = some (k.v i).ov ∧ w.frozen? ⟨blkOf bs i, 7, none⟩ = false :=
 ⟨h.sep_elim.blk_cell 7 rfl, h.sep_elim.blk_free 7⟩
theorem _root_.Go.Sep.S.ro_close {v' : Value} {p : Int × Int} (hi : i < e.txs.length) (h : S w0 w (sl 101 2 v' ((k.v i).own.length + 1) (pcells (k.v i).own ++ pcells [p]) :: roX b bs k e i :: L)) :
  S w0 (w.setCell ⟨blkOf bs i, 7, none⟩ v') (renO b bs (k.set i { k.v i with ov := v', own := (k.v i).own ++ [p] }) (e.wput i p) :: L) := by
 let x : Tx := { e.tx i with writes := mput (e.tx i).writes p.1 p.2 }
 let v : RtxV := { k.v i with ov := v', own := (k.v i).own ++ [p] }
 have h0 := h.swap.sep_elim
 have h1 := h0.blk_set 7 (by simp [rtxF]) v'
 obtain ⟨hw, h2⟩ := h1.swap.sep_elim.pur_elim
 have hp : x.writes = ownMap v.own := by
  show mput (e.tx i).writes p.1 p.2 = ownMap ((k.v i).own ++ [p])
  rw [ownMap_snoc, hw]
 have h3 : S w0 (w.setCell ⟨blkOf bs i, 7, none⟩ v') (rtxK bs i v x :: renX b bs k e i :: L) := by
  refine (S.pur_intro hp h2).conv ?_
  rw [rtxK_parts]
  have e1 : (rtxF (k.v i) (e.tx i)).set 7 v' = rtxF v x := rfl
  have e2 : pcells (k.v i).own ++ pcells [p] = pcells v.own := by simp [v, pcells]
  have e3 : (k.v i).own.length + 1 = v.own.length := by simp [v]
  rw [e1, e2, e3]
  simp only [all]
  show _ = sep (sep _ (sep _ (sep (sl _ 4 (k.v i).rv (e.tx i).reads.length (fcells opc (readOps ((i : Int) + 1) (e.tx i).reads))) (sep (sl _ 2 v' _ _) (sep (sl _ 1 (k.v i).av (e.tx i).aft.length (ptrs bs (e.tx i).aft)) (sl _ 1 (k.v i).fv (e.tx i).fore.length (ptrs bs (e.tx i).fore))))))) _
  ac_rfl
 unfold Eng.wput
 rw [Eng.upd_eq hi]
 exact h3.ren_back hi
def rrX (b : Nat) (bs : List Nat) (k : RenV) (e : Eng) (i : Nat) : HProp :=
 sep (blk (blkOf bs i) 103 (rtxF (k.v i) (e.tx i))) (sep (pur ((e.tx i).writes = ownMap (k.v i).own)) (sep (sl 101 2 (k.v i).ov (k.v i).own.length (pcells (k.v i).own)) (sep (sl 90 1 (k.v i).av (e.tx i).aft.length (ptrs bs (e.tx i).aft)) (sep (sl 90 1 (k.v i).fv (e.tx i).fore.length (ptrs bs (e.tx i).fore)) (renX b bs k e i)))))
theorem _root_.Go.Sep.S.rr_open (h : S w0 w (renO b bs k e :: L)) (hi : i < e.txs.length) : S w0 w (sl 129 4 (k.v i).rv (e.tx i).reads.length (fcells opc (readOps ((i : Int) + 1) (e.tx i).reads)) :: rrX b bs k e i :: L) := by
 refine (h.ren_tx hi).conv ?_
 simp only [all, rrX]
 rw [rtxK_parts]
 ac_rfl
theorem _root_.Go.Sep.S.rr_see (h : S w0 w (rrX b bs k e i :: L)) : w.cell? ⟨blkOf bs i, 6, none⟩ = some (k.v i).rv ∧ w.frozen? ⟨blkOf bs i, 6, none⟩ = false :=
 ⟨h.sep_elim.blk_cell 6 rfl, h.sep_elim.blk_free 6⟩
theorem _root_.Go.Sep.S.rr_close {v' : Value} {r : Int × Int} (hi : i < e.txs.length) (h : S w0 w (sl 129 4 v' ((e.tx i).reads.length + 1) (fcells opc (readOps ((i : Int) + 1) (e.tx i).reads) ++ opc ⟨(i : Int) + 1, r.1, false, r.2⟩) :: rrX b bs k e i :: L)) :
  S w0 (w.setCell ⟨blkOf bs i, 6, none⟩ v') (renO b bs (k.set i { k.v i with rv := v' }) (e.upd i fun x => { x with reads := x.reads ++ [r] }) :: L) := by
 let x : Tx := { e.tx i with reads := (e.tx i).reads ++ [r] }
 let v : RtxV := { k.v i with rv := v' }
 have h1 := h.swap.sep_elim.blk_set 6 (by simp [rtxF]) v'
 have h3 : S w0 (w.setCell ⟨blkOf bs i, 6, none⟩ v') (rtxK bs i v x :: renX b bs k e i :: L) := by
  refine h1.conv ?_
  rw [rtxK_parts]
  have e1 : (rtxF (k.v i) (e.tx i)).set 6 v' = rtxF v x := rfl
  have e2 : fcells opc (readOps ((i : Int) + 1) (e.tx i).reads) ++ opc ⟨(i : Int) + 1, r.1, false, r.2⟩ = fcells opc (readOps ((i : Int) + 1) x.reads) := by
   show _ = fcells opc (readOps ((i : Int) + 1) ((e.tx i).reads ++ [r]))
   unfold readOps
   rw [List.map_append, fcells_append, List.map_singleton, fcells_one]
  have e3 : (e.tx i).reads.length + 1 = x.reads.length := by simp [x]
  rw [e1, e2, e3]
  simp only [all]
  show _ = sep (sep _ (sep (pur ((e.tx i).writes = ownMap (k.v i).own)) (sep (sl _ 4 v' _ _) (sep (sl _ 2 (k.v i).ov (k.v i).own.length (pcells (k.v i).own)) (sep (sl _ 1 (k.v i).av (e.tx i).aft.length (ptrs bs (e.tx i).aft)) (sl _ 1 (k.v i).fv (e.tx i).fore.length (ptrs bs (e.tx i).fore))))))) _
  ac_rfl
 rw [Eng.upd_eq hi]
 exact h3.ren_back hi
end Go.Proofs.YtmfngjclccehaaaGreatDoor
/- The reference's engine: its steps' number, and its block. No walk in sight. -/
namespace Go.Proofs.YtmfngjclccehaaaGreatDoor
open Go Go.RowKit Go.Sep
variable {w w0 : World} {L : List HProp} {M : Nat} {T : List Nat} {b : Nat} {bs : List Nat} {k : RenV} {e : Eng} {i : Nat}
theorem _root_.Go.Sep.S.ren_count (h : S w0 w (renO b bs k e :: L)) (c : Int) : S w0 (w.setCell ⟨b, 13, none⟩ (.int .i64 c)) (renO b bs k { e with count := c } :: L) := by
 obtain ⟨hp, h⟩ := h.sep_elim.pur_elim
 obtain ⟨h1, h2⟩ := h.renG_parts
 have h3 := h2.set 1 (by simp) (.int .i64 c)
 exact .sep_intro (.pur_intro hp (S.renG_join h1 h3))
theorem ren_blk_ne (h : S w0 w (renO b bs k e :: L)) (hi : i < e.txs.length) : blkOf bs i ≠ b := by
 intro he
 have h1 := (h.ren_tx hi).sep_elim.blk_heap
 obtain ⟨_, h2⟩ := h.sep_elim.pur_elim
 obtain ⟨_, h3⟩ := h2.renG_parts
 have h4 : S w0 w (shp b 56 16 :: cells b 12 [k.txv, .int .i64 e.count, .map (some k.wb), k.hv] :: sl 90 1 k.txv e.txs.length (ptrs bs (List.range e.txs.length)) :: mp encI (fun _ => True) k.wb (ienc e.wr) :: sl 129 4 k.hv e.hist.length (fcells opc e.hist) :: all (rtxPs bs k.tv e.txs) :: L) := h3.conv (by simp only [all]; ac_rfl)
 obtain ⟨c, hc, _⟩ := holds_shape (h4.at (b := b) (i := none) (t := .shape 56 16) (by rintro _ rfl; simp)).2
 rw [he, hc] at h1
 simp at h1
theorem Room.upd {f : Tx → Tx} (h : Room M T k e) (hs : (f (e.tx i)).state = 1 → (e.tx i).state = 1) : Room M T k (e.upd i f) := by
 intro j hj
 rw [Eng.upd_len] at hj
 have h1 := h j hj
 rw [Eng.upd_tx]
 split
 ·rename_i hc
  rw [← hc.1] at h1 ⊢
  by_cases hx : (f (e.tx i)).state = 1
  ·have := hs hx
   simp only [hx, this, true_or, if_true] at h1 ⊢
   exact h1
  ·by_cases hT : i ∈ T
   ·simp only [hT, or_true, if_true] at h1 ⊢
    exact h1
   ·simp only [hx, hT, or_self, if_false]
    omega
 ·exact h1
end Go.Proofs.YtmfngjclccehaaaGreatDoor
/- The reference's engine: gone. -/
namespace Go.Proofs.YtmfngjclccehaaaGreatDoor
open Go Go.RowKit Go.Sep
theorem rmark_eq (e : Eng) (i : Nat) (why : Int) : ((({ e with count := e.count + 1 } : Eng).upd i fun x => { x with state := 3 }).upd i fun x => { x with why := why }).upd i (fun x => { x with ended := e.count + 1 }) = e.mark i why := by
 unfold Eng.mark Eng.upd
 simp only [Eng.mk.injEq, and_true, true_and]
 apply List.ext_getElem?
 intro j
 simp only [List.getElem?_modify]
 by_cases h : i = j
 ·subst h; cases e.txs[i]? <;> simp
 ·simp [h]
def RGoesAny (n : Nat) : Prop := ∀ (w0 w : World) (b : Nat) (bs : List Nat) (e : Eng) (i : Nat) (why : Int) (L : List HProp) (N : Nat) (U : List Task) (M : Nat), OkT N e U → Times e → i < e.txs.length → (e.tx i).alive = true → (∀ u ∈ U, u.who ≠ i) → e.open_ ≤ n → N ≤ 100000000 → M ≤ 1000000 → S w0 w (renP M [] b bs e :: L) →
 Calls Tryz.prog 54 #[.pointer (some ⟨b, 0, none⟩), .int .i64 ((i : Int) + 1), .int .i64 why] w fun r w' => r = .returned (.tuple #[]) ∧ S w0 w' (renP M [] b bs (goesN n e i why) :: L)
def RDropsAny (n : Nat) : Prop := ∀ (w0 w : World) (b : Nat) (bs : List Nat) (e : Eng) (i : Nat) (L : List HProp) (N : Nat) (U : List Task) (M : Nat), OkT N (e.lets i) ((e.heirs i).map .hand ++ U) → Times e → (e.lets i).open_ ≤ n → N ≤ 100000000 → M ≤ 1000000 → (∀ k, (lineAt e.t k).length ≤ 800000) → (e.t.hold.map (·.1)).Nodup → S w0 w (renP M [] b bs e :: L) →
 Calls Tryz.prog 64 #[.pointer (some ⟨b, 0, none⟩), .int .i64 ((i : Int) + 1)] w fun r w' => r = .returned (.tuple #[]) ∧ S w0 w' (renP M [] b bs (freesG (goesN n) e i) :: L)
set_option maxRecDepth 40000 in
set_option maxHeartbeats 8000000 in
theorem rgoes_step (n : Nat) (hf : RDropsAny n) : RGoesAny (n + 1) := by
 intro w0 w b bs e i why L N U M hok hti hi ha hne ho hN hM hs
 obtain ⟨h1, h2⟩ := hok.left hi ha hne why
 obtain ⟨k, K, Qs, ⟨hS, hST, hRm⟩, hs⟩ := hs.ren_open
 have hO : S w0 w (renO b bs k e :: refP 47 109 b K e.last :: rtabP 3 b 2 Qs :: L) := hs.conv (by simp only [all]; ac_rfl)
 have hc := hO.ren_c.2
 have c12 := hc.txs
 have c13 := hc.count
 have f13 := hc.free 13 (by omega) (by omega)
 obtain ⟨a, cap, hv, hle, hcap, hrow⟩ := hc.row
 obtain ⟨g, o, rfl, ci⟩ := hrow i hi
 rw [hv] at c12
 unfold maxLen at hcap
 unfold ptr at ci
 have hx := (hO.ren_txc hi).2
 have x1 := hx.state
 have x2 := hx.why
 have x5 := hx.ended
 have fx := hx.free
 have hbb := ren_blk_ne hO hi
 have hcnt := hok.cnt
 have hfew := hok.few
 have hs1 := hO.ren_count (e.count + 1)
 have hi1 : i < ({ e with count := e.count + 1 } : Eng).txs.length := hi
 have hs2 := hs1.ren_set hi1 (fun x => { x with state := 3 }) (j := 1) (u := .int .i64 3) (by omega) rfl rfl rfl rfl rfl
 have hs3 := hs2.ren_set (by rw [Eng.upd_len]; exact hi1) (fun x => { x with why := why }) (j := 2) (u := .int .i64 why) (by omega) rfl rfl rfl rfl rfl
 have hs4 := hs3.ren_set (by rw [Eng.upd_len, Eng.upd_len]; exact hi1) (fun x => { x with ended := e.count + 1 }) (j := 5) (u := .int .i64 (e.count + 1)) (by omega) rfl rfl rfl rfl rfl
 rw [rmark_eq] at hs4
 have hRm2 : Room M [] k (e.mark i why) := Room.upd (f := fun x => { x with state := 3, why := why, ended := e.count + 1 }) hRm (by simp)
 have hs5 := S.ren_shut (e := e.mark i why) (M := M) (T := []) ⟨hS, hST, hRm2⟩ (hs4.conv (M := refP 47 109 b K e.last :: rtabP 3 b 2 Qs :: renO b bs k (e.mark i why) :: L) (by simp only [all]; ac_rfl))
 obtain ⟨Q, hQ⟩ := hok.tab
 have hlen : ∀ kk, (lineAt e.t kk).length ≤ 800000 := by
  intro kk
  unfold lineAt
  rw [hQ.tab.line kk]
  have := few (S := (List.range e.txs.length).map fun m : Nat => (m : Int) + 1) (hQ.tab.nod kk) (fun x hx => by
   have := hQ.key kk x hx
   simp only [List.mem_map, List.mem_range]
   exact ⟨(x - 1).toNat, by omega, by omega⟩)
  simp only [List.length_map, List.length_range] at this
  rw [List.length_tail]; omega
 have hcall := hf w0 _ b bs (e.mark i why) i L N U M h1 (hti.mark i why) (by show (e.left i why).open_ ≤ n; omega) hN hM hlen hQ.hold hs5
 clear hlen hQ
 have HC := hid hcall
 have hbb' := Ne.symm hbb
 clear hok h1 h2 hs hO hc hv hrow hx hs1 hs2 hs3 hs4 hs5 hcall hf ha hne hRm hRm2 hS hST hti
 go_enter Tryz.func54, Tryz.ntmps54
 go_wp2_with fail
 with_reducible refine HC.out.mono ?_
 rintro r w' ⟨rfl, hs'⟩
 have H4 := hid hs'
 clear hs'
 go_wp2_with fail
 go_end0
 exact ⟨rfl, H4.out⟩
end Go.Proofs.YtmfngjclccehaaaGreatDoor
/- The reference's table: Drop. -/
namespace Go.Sep
open Go Go.RowKit
def upto (Qs : List (List Int)) (tx : Int) (k : Nat) : List (List Int) := (Qs.take k).map (fun l => strike l tx) ++ Qs.drop k
theorem upto_zero (Qs : List (List Int)) (tx : Int) : upto Qs tx 0 = Qs := by simp [upto]
theorem upto_all {Qs : List (List Int)} {k : Nat} (h : Qs.length = k) (tx : Int) : upto Qs tx k = Qs.map fun l => strike l tx := by
 unfold upto; rw [← h, List.take_length, List.drop_length, List.append_nil]
theorem upto_at {Qs : List (List Int)} {tx : Int} {k : Nat} {q : List Int} (hk : k < Qs.length) (h : (upto Qs tx k)[k]? = some q) : Qs[k]? = some q := by
 unfold upto at h
 rw [List.getElem?_append_right (by simp; omega)] at h
 simp only [List.length_map, List.length_take, Nat.min_eq_left (Nat.le_of_lt hk), Nat.sub_self, List.getElem?_drop, Nat.add_zero] at h
 exact h
theorem upto_set {Qs : List (List Int)} {tx : Int} {k : Nat} {q : List Int} (h : Qs[k]? = some q) : (upto Qs tx k).set k (strike q tx) = upto Qs tx (k + 1) := by
 obtain ⟨hk, hq⟩ := List.getElem?_eq_some_iff.1 h
 unfold upto
 rw [List.set_append_right _ _ (by simp; omega)]
 simp only [List.length_map, List.length_take, Nat.min_eq_left (Nat.le_of_lt hk), Nat.sub_self]
 rw [List.drop_eq_getElem_cons hk, List.set_cons_zero, List.take_succ_eq_append_getElem hk, List.map_append, hq]
 simp
theorem routK_one {tx k : Int} {q : List Int} {y : Int} {l : List Int} (h : q.head? = some tx) (hs : strike q tx = y :: l) : routK tx k q = [(k, y)] := by
 unfold routK; rw [if_pos h, hs]; rfl
theorem routK_none {tx k : Int} {q : List Int} (h : q.head? ≠ some tx ∨ strike q tx = []) : routK tx k q = [] := by
 unfold routK
 by_cases e : q.head? = some tx
 ·rcases h with h | h
  ·exact absurd e h
  ·rw [if_pos e, h]; rfl
 ·rw [if_neg e]
theorem rout_le (Qs : List (List Int)) (tx : Int) : ∀ n, (rout Qs tx n).length ≤ n
 | 0 => by simp [rout]
 | n + 1 => by
  rw [rout_succ, List.length_append]
  have := rout_le Qs tx n
  have : (routK tx n (qf Qs n)).length ≤ 1 := by
   unfold routK; split
   ·cases strike (qf Qs n) tx <;> simp [firstL]
   ·simp
  omega
end Go.Sep
namespace Go.Proofs.YtmfngjclccehaaaGreatDoor
open Go Go.RowKit Go.Sep
set_option maxRecDepth 40000 in
set_option maxHeartbeats 8000000 in
theorem rdrop_any (w0 w : World) {bo : Nat} (b : Nat) (Qs : List (List Int)) (tx : Int) (L : List HProp) (hs : S w0 w (rtabP 3 b bo Qs :: L)) (hN : ∀ q ∈ Qs, q.length ≤ 900000) :
  Calls Tryz.prog 88 #[.pointer (some ⟨b, bo, none⟩), .int .i64 tx] w fun e w' => ∃ v, e = .returned v ∧
   S w0 w' (sl 101 2 v (rout Qs tx 10).length (pcells (rout Qs tx 10)) :: rtabP 3 b bo (Qs.map fun l => strike l tx) :: L) := by
 obtain ⟨kv0, hs1⟩ := hs.ex_elim
 have hlen := hs1.rtabK_len
 have harr := hs1.rtabK_arr
 have hadd : ∀ j u, kv0[j]? = some u → w.cell? ((⟨b, bo, none⟩ : Addr).add j) = some u := by
  intro j u hj
  rw [addr_add']; exact harr j u hj
 have hkl := hlen.1
 have hs2 : S w0 w (sl 101 2 (.slice none 0 0) (rout Qs tx 0).length (pcells (rout Qs tx 0)) :: rtabK 3 b bo kv0 (upto Qs tx 0) :: L) := by
  rw [upto_zero]; exact hs1.sl_nil
 have HA := hid hadd; have HL := hid hlen; have HK := hid hkl; have H2 := hid hs2; have HN := hid hN
 clear hadd harr hs hs1 hs2 hlen hkl hN
 go_enter Tryz.func88, Tryz.ntmps88
 go_wp2_with (refine wpList_load_arr rfl 49 (.tmp 13) rfl ⟨b, bo, none⟩ rfl 10 48 Tryz.underlying49 kv0 (by rw [HK.out]; exact Tryz.size49) HA.out ?_)
 go_loopw [5, 15] (fun vo c wr => ∃ (k : Nat) (kv : List Value), k ≤ 10 ∧ c = .int .i64 k ∧ Hid (∀ j, k ≤ j → kv[j]? = kv0[j]?) ∧ S w0 wr (sl 101 2 vo (rout Qs tx k).length (pcells (rout Qs tx k)) :: rtabK 3 b bo kv (upto Qs tx k) :: L)) (fun _ c _ => 10 - (intOf c).toNat)
 case atStart => exact ⟨0, kv0, Nat.zero_le _, rfl, hid (fun _ _ => rfl), H2.out⟩
 case round =>
  rename World => wr
  obtain ⟨k, kv, hk, rfl, hsame, hsr⟩ := hrel
  clear H2
  by_cases hlt : k < 10
  ·obtain ⟨v, q, X, hkv, hQ, hsl, hcell, _, hput⟩ := hsr.swap.rtabK_key k hlt
   obtain ⟨ao, co, rfl, hco, hco2, _⟩ := hsr.sl_val
   unfold maxLen at hco2
   have hQ0 := upto_at (by rw [HL.out.2]; exact hlt) hQ
   have hkv0 : kv0[k]? = some v := by rw [← hsame.out k (Nat.le_refl _)]; exact hkv
   have hql := HN.out q (List.mem_of_getElem? hQ0)
   have hqf : qf Qs k = q := by rw [qf_nat, hQ0]; rfl
   obtain ⟨a, c, rfl, hc1, hc2, _⟩ := hsl.sl_val
   have hix := fun W => run_index_arr (w := W) Tryz.underlying49 Tryz.underlying48 rfl Tryz.size48 hlt hkv0
   have hup := upto_set (tx := tx) hQ0
   have hkvn : ∀ v' : Value, ∀ j, k + 1 ≤ j → (kv.set k v')[j]? = kv0[j]? := fun v' j hj => by
    rw [List.getElem?_set_ne (by omega)]; exact hsame.out j (by omega)
   have hcf : ∀ (W : World) (M : List HProp), S w0 W (X :: M) → W.cell? ⟨b, bo + k, none⟩ = some (.slice a q.length c) ∧ W.frozen? ⟨b, bo + k, none⟩ = false := fun W M h => by
    obtain ⟨x1, x2, _⟩ := hcell W M h
    exact ⟨x1, x2⟩
   have hfin : ∀ (W : World) (v' : Value) (M : List HProp), S w0 W (sl 3 1 v' (strike q tx).length (icells (strike q tx)) :: X :: M) → S w0 (W.setCell ⟨b, bo + k, none⟩ v') (rtabK 3 b bo (kv.set k v') (upto Qs tx (k + 1)) :: M) := fun W v' M h => by
    have h2 := hput W v' (strike q tx) M h
    rw [hup] at h2
    exact h2
   have H3 := hid (hsl.sl_nil (e := 3) (size := 1))
   have HCF := hid hcf; have HFIN := hid hfin; have HKV := hid hkvn; have HQF := hid hqf; have hro := rout_le Qs tx k
   clear hkv hQ hsl hcell hput hQ0 hkv0 hup hkvn hcf hfin hsr hsame hqf
   have hkb0 : (0 : Int) ≤ (k : Int) := by omega
   have hkb : (k : Int) < 10 := by omega
   go_wp2_with fail
   go_loopw [8, 21] (fun vl cj wx => ∃ j : Nat, j ≤ q.length ∧ cj = .int .i64 j ∧ S w0 wx (sl 3 1 vl (strike (q.take j) tx).length (icells (strike (q.take j) tx)) :: sl 3 1 (.slice a q.length c) q.length (icells q) :: X :: sl 101 2 (.slice ao (rout Qs tx k).length co) (rout Qs tx k).length (pcells (rout Qs tx k)) :: L)) (fun _ c _ => q.length - (intOf c).toNat)
   case atStart => exact ⟨0, Nat.zero_le _, rfl, H3.out⟩
   case round =>
    rename World => wx
    obtain ⟨j, hj, rfl, hsx⟩ := hrel
    clear H3
    by_cases hjl : j < q.length
    ·have hp : q[j]? = some q[j] := by simp [hjl]
     generalize q[j] = y at hp
     obtain ⟨g, o, rfl, _, d0⟩ := hsx.swap.sl_int hp
     have hsk := strike_snoc (q.take j) y tx
     rw [← take_succ_get hp] at hsk
     have hsl := strike_le (q.take j) tx
     rw [List.length_take] at hsl
     by_cases hy : y = tx
     ·subst hy
      rw [if_pos rfl] at hsk
      have HX := hid hsk; have H4 := hid hsx
      clear hsk hsx hp
      go_wp2_with fail
      go_roundw
      case rel => exact ⟨j + 1, by omega, by go_num, by rw [HX.out]; exact H4.out⟩
      case measure => simp [intOf]; omega
     ·have hyb : (y != tx) = true := by simpa using hy
      rw [if_neg hy] at hsk
      obtain ⟨al, cl, rfl, hcl, hcl2, _⟩ := hsx.sl_val
      unfold maxLen at hcl2
      obtain ⟨i0, hi0, hz0, hz1, hz2⟩ := info_parts Tryz.info3
      have hs1 := hsx.alloc #[.int .i64 y] 3
      have hn1 := news_blk hs1
      have hs2 := hs1.tail
      have HX := hid hsk; have HN1 := hid hn1; have H9 := hid hs2
      clear hs1 hs2 hn1 hsx hsk hp hy
      go_wp2_with (at_builtin; refine wpList_append rfl (.tmp 28) (.tmp 30) 48 rfl 3 i0 _ 1 8 Tryz.underlying48 hi0 hz0 hz1 hz2 rfl (by decide) H9.out rfl (some ⟨wx.heap.size, 0, none⟩) 1 1 [.int .i64 y] rfl rfl HN1.out (by simp [Value.oneCell']) (by unfold maxLen; omega) (by omega) ?_; intro v1 w5 hs1; have HS := hid hs1; clear hs1)
      go_roundw
      case rel => exact ⟨j + 1, by omega, by go_num, by rw [HX.out, List.length_append, List.length_singleton, icells_append]; exact HS.out⟩
      case measure => simp [intOf]; omega
    ·obtain rfl : j = q.length := by omega
     rw [List.take_length] at hsx
     obtain ⟨al, cl, rfl, hcl, hcl2, _⟩ := hsx.sl_val
     unfold maxLen at hcl2
     have hsl := strike_le q tx
     clear hjl
     by_cases hq0 : 0 < q.length
     ·have hp : q[0]? = some q[0] := by simp [hq0]
      generalize q[0] = z at hp
      obtain ⟨g, o, rfl, _, d0⟩ := hsx.swap.sl_int hp
      rw [Nat.add_zero] at d0
      have hqb : (0 : Int) < (q.length : Int) := by omega
      have hhd : q.head? = some z := by rw [List.head?_eq_getElem?]; exact hp
      have HHD := hid hhd
      clear hp hhd
      by_cases hz : z = tx
      ·rw [hz] at d0
       have HHD2 := hid (HHD.out.trans (congrArg some hz))
       clear HHD hz
       by_cases hs0 : 0 < (strike q tx).length
       ·have hsp : (strike q tx)[0]? = some (strike q tx)[0] := by simp [hs0]
        generalize hy0 : (strike q tx)[0] = y0 at hsp
        obtain ⟨g2, o2, rfl, _, f0⟩ := hsx.sl_int hsp
        rw [Nat.add_zero] at f0
        have hsb : (0 : Int) < ((strike q tx).length : Int) := by omega
        have hrk : routK tx k q = [((k : Int), y0)] := by
         cases hst : strike q tx with
         | nil => rw [hst] at hs0; simp at hs0
         | cons y1 l1 =>
          rw [hst] at hsp
          simp only [List.getElem?_cons_zero, Option.some.injEq] at hsp
          rw [routK_one HHD2.out hst, hsp]
        clear hy0 hsp
        have hsy := hsx.conv (M := sl 101 2 (.slice ao (rout Qs tx k).length co) (rout Qs tx k).length (pcells (rout Qs tx k)) :: sl 3 1 (.slice (some ⟨g2, o2, none⟩) (strike q tx).length cl) (strike q tx).length (icells (strike q tx)) :: sl 3 1 (.slice (some ⟨g, o, none⟩) q.length c) q.length (icells q) :: X :: L) (by simp only [all]; ac_rfl)
        have hs1 := hsy.alloc #[.int .i64 (k : Int), .int .i64 y0] 101
        have hn1 := news_blk hs1
        have hs2 := hs1.tail
        obtain ⟨i0, hi0, hz0, hz1, hz2⟩ := info_parts Tryz.info101
        have HR := hid hrk; have HN1 := hid hn1; have H9 := hid hs2
        clear hs1 hs2 hn1 hsx hsy hrk
        go_wp2_with (at_builtin; refine wpList_append rfl (.tmp 48) (.tmp 54) 22 rfl 101 i0 _ 2 16 Tryz.underlying22 hi0 hz0 hz1 hz2 rfl (by decide) H9.out rfl (some ⟨wx.heap.size, 0, none⟩) 1 1 [.int .i64 (k : Int), .int .i64 y0] rfl rfl HN1.out (by simp [Value.oneCell']) (by unfold maxLen; omega) (by omega) ?_; intro v1 w5 hs1; have HS := hid hs1; have hd := HCF.out w5 _ (hs1.conv (M := X :: sl 101 2 v1 ((rout Qs tx k).length + 1) (pcells (rout Qs tx k) ++ [.int .i64 (k : Int), .int .i64 y0]) :: sl 3 1 (.slice (some ⟨g2, o2, none⟩) (strike q tx).length cl) (strike q tx).length (icells (strike q tx)) :: sl 3 1 (.slice (some ⟨g, o, none⟩) q.length c) q.length (icells q) :: L) (by simp only [all]; ac_rfl)); have e1 := hd.1; have e2 := hd.2; clear hd hs1)
        have HZ := hid (HFIN.out w5 _ _ (HS.out.conv (M := sl 3 1 (.slice (some ⟨g, o, none⟩) q.length c) q.length (icells q) :: sl 3 1 (.slice (some ⟨g2, o2, none⟩) (strike q tx).length cl) (strike q tx).length (icells (strike q tx)) :: X :: sl 101 2 v1 ((rout Qs tx k).length + 1) (pcells (rout Qs tx k) ++ [.int .i64 (k : Int), .int .i64 y0]) :: L) (by simp only [all]; ac_rfl)).tail)
        go_roundw
        case rel => exact ⟨k + 1, _, by omega, by go_num, hid (HKV.out _), by rw [rout_succ, HQF.out, HR.out, pcells_append, List.length_append, List.length_singleton]; exact HZ.out.swap⟩
        case measure => simp [intOf]; omega
       ·have hs1 : (strike q tx).length = 0 := by omega
        have hst : strike q tx = [] := List.eq_nil_of_length_eq_zero hs1
        have hsb : ¬ (0 : Int) < ((strike q tx).length : Int) := by omega
        have hrk : routK tx k q = [] := routK_none (.inr hst)
        clear hst hs1 hs0
        have hd := HCF.out wx _ hsx.tail.tail
        have e1 := hd.1
        have e2 := hd.2
        have hz := HFIN.out wx _ _ hsx.swap.tail
        have HR := hid hrk; have HZ := hid hz
        clear hd hz hsx hrk
        go_wp2_with fail
        go_roundw
        case rel => exact ⟨k + 1, _, by omega, by go_num, hid (HKV.out _), by rw [rout_succ, HQF.out, HR.out, List.append_nil]; exact HZ.out.swap⟩
        case measure => simp [intOf]; omega
      ·have hzb : (z == tx) = false := by simpa using hz
       have hrk : routK tx k q = [] := routK_none (.inl (by rw [HHD.out]; intro e; exact hz (Option.some.inj e)))
       have hd := HCF.out wx _ hsx.tail.tail
       have e1 := hd.1
       have e2 := hd.2
       have hz1 := HFIN.out wx _ _ hsx.swap.tail
       have HR := hid hrk; have HZ := hid hz1
       clear hd hz1 hsx hrk
       go_wp2_with fail
       go_roundw
       case rel => exact ⟨k + 1, _, by omega, by go_num, hid (HKV.out _), by rw [rout_succ, HQF.out, HR.out, List.append_nil]; exact HZ.out.swap⟩
       case measure => simp [intOf]; omega
     ·have hqb : ¬ (0 : Int) < (q.length : Int) := by omega
      have hqn : q = [] := List.eq_nil_of_length_eq_zero (by omega)
      have hrk : routK tx k q = [] := routK_none (.inl (by rw [hqn]; simp))
      clear hqn hq0
      have hd := HCF.out wx _ hsx.tail.tail
      have e1 := hd.1
      have e2 := hd.2
      have hz := HFIN.out wx _ _ hsx.swap.tail
      have HR := hid hrk; have HZ := hid hz
      clear hd hz hsx hrk
      go_wp2_with fail
      go_roundw
      case rel => exact ⟨k + 1, _, by omega, by go_num, hid (HKV.out _), by rw [rout_succ, HQF.out, HR.out, List.append_nil]; exact HZ.out.swap⟩
      case measure => simp [intOf]; omega
  ·obtain rfl : k = 10 := by omega
   have H4 := hid hsr
   clear hsr hsame
   go_wp2_with fail
   go_ret
   exact ⟨_, rfl, by
    have h := H4.out
    rw [upto_all HL.out.2] at h
    exact (S.swap (.ex_intro kv h.swap))⟩
end Go.Proofs.YtmfngjclccehaaaGreatDoor
/- The reference's engine: drops: who comes next. -/
namespace Go.Proofs.YtmfngjclccehaaaGreatDoor
open Go Go.RowKit Go.Sep
def RPutsAny (n : Nat) : Prop := ∀ (w0 w : World) (b : Nat) (bs : List Nat) (e : Eng) (i : Nat) (key val : Int) (L : List HProp) (N : Nat) (U : List Task) (M : Nat), OkT N e (.put i (key, val) :: U) → Times e → e.open_ ≤ n → N ≤ 100000000 → M ≤ 1000000 → S w0 w (renP M [i] b bs e :: L) →
 Calls Tryz.prog 60 #[.pointer (some ⟨b, 0, none⟩), .int .i64 ((i : Int) + 1), .agg #[.int .i64 key, .int .i64 val]] w fun r w' => r = .returned (.tuple #[]) ∧ S w0 w' (renP M [] b bs (putsG (goesN n) e i (key, val)) :: L)
theorem Room.opens {M : Nat} {k : RenV} {e : Eng} {j : Nat} (h : Room M [] k e) (hst : (e.tx j).state = 1) : Room M [j] k (e.opens j) := by
 intro m hm
 unfold Eng.opens at hm ⊢
 rw [Eng.upd_len] at hm
 have h1 := h m hm
 by_cases hc : j = m
 ·subst hc
  rw [if_pos (.inl hst)] at h1
  rw [if_pos (.inr (by simp))]
  exact h1
 ·rw [Eng.upd_ne hc]
  simpa [Ne.symm hc] using h1
set_option linter.unusedSimpArgs false in
set_option maxRecDepth 100000 in
set_option maxHeartbeats 20000000 in
theorem rdrops_step (n : Nat) (hg : RPutsAny n) : RDropsAny n := by
 intro w0 w b bs e i L N U M hok hti ho hN hM hlen hnd hs
 obtain ⟨k, K, Qs, ⟨hS, hST, hRm⟩, hs⟩ := hs.ren_open
 have hQs : ∀ q ∈ Qs, q.length ≤ 900000 := fun q hq => by
  obtain ⟨j, hj⟩ := List.getElem?_of_mem hq
  have h1 : qf Qs (j : Int) = q := by rw [qf_nat, hj]; rfl
  have h2 := hST.line (j : Int)
  have h3 := hlen (j : Int)
  unfold lineAt at h3
  rw [h2, h1, List.length_tail] at h3
  omega
 obtain ⟨hST2, hrout⟩ := hST.drop hnd ((i : Int) + 1)
 have hcall := rdrop_any w0 w b Qs ((i : Int) + 1) (refP 47 109 b K e.last :: renO b bs k e :: L) (hs.conv (by simp only [all]; ac_rfl)) hQs
 rw [← hrout] at hcall
 have hfin : ∀ W v, S w0 W (sl 101 2 v (tbDrop e.t ((i : Int) + 1)).2.length (pcells (tbDrop e.t ((i : Int) + 1)).2) :: rtabP 3 b 2 (Qs.map fun l => strike l ((i : Int) + 1)) :: refP 47 109 b K e.last :: renO b bs k e :: L) → S w0 W (sl 101 2 v (e.heirs i).length (pcells (e.heirs i)) :: renP M [] b bs (e.lets i) :: L) := fun W v h => by
  have h1 : S w0 W (refP 47 109 b K (e.lets i).last :: rtabP 3 b 2 (Qs.map fun l => strike l ((i : Int) + 1)) :: renO b bs k (e.lets i) :: sl 101 2 v (e.heirs i).length (pcells (e.heirs i)) :: L) := h.conv (by
   simp only [all]
   show sep (sl _ 2 v (tbDrop e.t ((i : Int) + 1)).2.length (pcells (tbDrop e.t ((i : Int) + 1)).2)) (sep (rtabP _ b 2 _) (sep (refP _ _ b K e.last) (sep (renO b bs k e) (all L)))) = sep (refP _ _ b K e.last) (sep (rtabP _ b 2 _) (sep (renO b bs k e) (sep (sl _ 2 v (tbDrop e.t ((i : Int) + 1)).2.length (pcells (tbDrop e.t ((i : Int) + 1)).2)) (all L))))
   ac_rfl)
  exact (S.ren_shut (M := M) (T := []) (e := e.lets i) ⟨hS, hST2, hRm⟩ h1).swap
 have hfr : freesG (goesN n) e i = freesL (goesN n) (e.heirs i) (e.lets i) := rfl
 have htl := hti.lets i
 have HC := hid hcall; have HFI := hid hfin; have HFR := hid hfr; have HOK := hid hok; have HO := hid ho; have HG := hid hg; have HT := hid htl
 clear hs hcall hfin hfr hok ho hg hti htl hS hST hST2 hRm hQs hnd hlen hrout
 go_enter Tryz.func64, Tryz.ntmps64
 go_wp2_with fail
 with_reducible refine HC.out.mono ?_
 rintro r w1 ⟨v', rfl, hs1⟩
 have hs2 := HFI.out _ _ hs1
 obtain ⟨al, cl, rfl, hcl, hcl2, _⟩ := hs2.sl_val
 unfold maxLen at hcl2
 change S w0 w1 (sl 101 2 (.slice al (e.heirs i).length cl) (e.heirs i).length (pcells (e.heirs i)) :: renP M [] b bs (e.lets i) :: L) at hs2
 generalize e.heirs i = l at *
 generalize e.lets i = e0 at *
 have H2 := hid hs2
 clear hs1 hs2 HC HFI
 go_wp2_with fail
 go_loopw [13] (fun c wr => ∃ (m : Nat) (e1 : Eng), m ≤ l.length ∧ c = .int .i64 m ∧ Hid (OkT N e1 ((l.drop m).map .hand ++ U)) ∧ Hid (Times e1) ∧ Hid (e1.open_ ≤ n) ∧ Hid (freesL (goesN n) l e0 = freesL (goesN n) (l.drop m) e1) ∧ S w0 wr (sl 101 2 (.slice al l.length cl) l.length (pcells l) :: renP M [] b bs e1 :: L)) (fun c _ => l.length - (intOf c).toNat)
 case atStart => exact ⟨0, e0, Nat.zero_le _, rfl, HOK, HT, HO, hid rfl, H2.out⟩
 case round =>
  rename World => wr
  obtain ⟨m, e1, hm, rfl, hok1, ht1, ho1, hf1, hsr⟩ := hrel
  clear H2 HOK HO HT
  by_cases hlt : m < l.length
  ·have hp : l[m]? = some l[m] := by simp [hlt]
   have hd : l.drop m = l[m] :: l.drop (m + 1) := List.drop_eq_getElem_cons hlt
   generalize l[m] = p at hp hd
   have hok2 := hok1.out
   have hf2 := hf1.out
   rw [hd] at hok2 hf2
   have hk := hok2.ok (.hand p) (by simp)
   have hj := hk.lt
   obtain ⟨hp1, hst, _⟩ := hk.hand p rfl
   have hand := OkT.hand (U := (l.drop (m + 1)).map .hand ++ U) hok2
   obtain ⟨pk, pv⟩ := p
   simp only [Task.who] at hj hst hp1 hand
   obtain ⟨j, rfl⟩ : ∃ j : Nat, pv = (j : Int) + 1 := ⟨(pv - 1).toNat, by omega⟩
   have hjj : ((j : Int) + 1).toNat - 1 = j := by omega
   rw [hjj] at hj hst hand
   have hwant : ((e1.opens j).tx j).want = (e1.tx j).want := Eng.upd_keep (·.want) (fun x => { x with state := 0 }) (fun _ => rfl) j
   have hf3 : freesL (goesN n) l e0 = freesL (goesN n) (l.drop (m + 1)) (putsG (goesN n) (e1.opens j) j ((e1.tx j).want.1, (e1.tx j).want.2)) := by
    rw [hf2]
    show freesL (goesN n) (l.drop (m + 1)) (putsG (goesN n) (e1.opens (((j : Int) + 1).toNat - 1)) (((j : Int) + 1).toNat - 1) ((e1.opens (((j : Int) + 1).toNat - 1)).tx (((j : Int) + 1).toNat - 1)).want) = _
    rw [hjj, hwant]
   have hop : (e1.opens j).open_ = e1.open_ := by
    have := Eng.many_upd hj Tx.alive (fun x => { x with state := 0 })
    rw [if_pos (by simp [Tx.alive, hst]), if_pos (by simp [Tx.alive])] at this
    unfold Eng.opens Eng.open_; unfold Eng.many at this; omega
   obtain ⟨gl, ol, rfl, _, d0, d1⟩ := hsr.sl_pair hp
   obtain ⟨k1, K1, Qs1, ⟨hS1, hST1, hRm1⟩, hse⟩ := hsr.swap.ren_open
   have hsx := hse.alloc #[.int .i64 pk, .int .i64 ((j : Int) + 1)] 101
   have hO : S w0 _ (renO b bs k1 e1 :: blk wr.heap.size 101 [.int .i64 pk, .int .i64 ((j : Int) + 1)] :: refP 47 109 b K1 e1.last :: rtabP 3 b 2 Qs1 :: sl 101 2 (.slice (some ⟨gl, ol, none⟩) l.length cl) l.length (pcells l) :: L) := hsx.conv (by simp only [all]; ac_rfl)
   have b1 := hsx.blk_cell 1 rfl
   have hc := hO.ren_c.2
   have c12 := hc.txs
   obtain ⟨a, cap, hv, hle, hcap, hrow⟩ := hc.row
   obtain ⟨g, o, rfl, ci⟩ := hrow j hj
   rw [hv] at c12
   unfold maxLen at hcap
   unfold ptr at ci
   have hx := (hO.ren_txc hj).2
   have x1 := hx.state
   have fx := hx.free
   have hset : ∀ nq, S w0 (((wr.alloc (.cells #[.int .i64 pk, .int .i64 ((j : Int) + 1)] 101)).drewN nq).setCell ⟨blkOf bs j, 1, none⟩ (.int .i64 0)) (renO b bs k1 (e1.opens j) :: blk wr.heap.size 101 [.int .i64 pk, .int .i64 ((j : Int) + 1)] :: refP 47 109 b K1 e1.last :: rtabP 3 b 2 Qs1 :: sl 101 2 (.slice (some ⟨gl, ol, none⟩) l.length cl) l.length (pcells l) :: L) := fun nq =>
    (hO.drewN nq).ren_set hj (fun x => { x with state := 0 }) (j := 1) (u := .int .i64 0) (by omega) rfl rfl rfl rfl rfl
   have hj2 : j < (e1.opens j).txs.length := by unfold Eng.opens; rw [Eng.upd_len]; exact hj
   have hq : ∀ W, S w0 W (renO b bs k1 (e1.opens j) :: blk wr.heap.size 101 [.int .i64 pk, .int .i64 ((j : Int) + 1)] :: refP 47 109 b K1 e1.last :: rtabP 3 b 2 Qs1 :: sl 101 2 (.slice (some ⟨gl, ol, none⟩) l.length cl) l.length (pcells l) :: L) → W.cell? ⟨wr.heap.size, 1, none⟩ = some (.int .i64 ((j : Int) + 1)) ∧ W.cell? ⟨blkOf bs j, 8, none⟩ = some (.int .i64 (e1.tx j).want.1) ∧ W.cell? ⟨blkOf bs j, 9, none⟩ = some (.int .i64 (e1.tx j).want.2) := fun W h => by
    have hx := (h.ren_txc hj2).2
    have w1 := hx.want1
    have w2 := hx.want2
    rw [hwant] at w1 w2
    exact ⟨h.tail.blk_cell 1 rfl, w1, w2⟩
   have hput := putsG_ok (goesOk n) hand (by rw [hop]; exact ho1.out)
   have hti2 := ht1.out.opens j
   have hti3 : Times (putsG (goesN n) (e1.opens j) j ((e1.tx j).want.1, (e1.tx j).want.2)) := Times.putsG (fun e i why h => Times.goesN n e i why h) hti2 j _
   have hRm2 := hRm1.opens hst
   have hwr : ∀ W, S w0 W (renO b bs k1 (e1.opens j) :: blk wr.heap.size 101 [.int .i64 pk, .int .i64 ((j : Int) + 1)] :: refP 47 109 b K1 e1.last :: rtabP 3 b 2 Qs1 :: sl 101 2 (.slice (some ⟨gl, ol, none⟩) l.length cl) l.length (pcells l) :: L) →
     Calls Tryz.prog 60 #[.pointer (some ⟨b, 0, none⟩), .int .i64 ((j : Int) + 1), .agg #[.int .i64 (e1.tx j).want.1, .int .i64 (e1.tx j).want.2]] W fun r w' => r = .returned (.tuple #[]) ∧ S w0 w' (sl 101 2 (.slice (some ⟨gl, ol, none⟩) l.length cl) l.length (pcells l) :: renP M [] b bs (putsG (goesN n) (e1.opens j) j ((e1.tx j).want.1, (e1.tx j).want.2)) :: L) := fun W h => by
    have h2 : S w0 W (renP M [j] b bs (e1.opens j) :: sl 101 2 (.slice (some ⟨gl, ol, none⟩) l.length cl) l.length (pcells l) :: L) := S.ren_shut (e := e1.opens j) ⟨hS1, hST1, hRm2⟩ (S.tail (P := blk wr.heap.size 101 [.int .i64 pk, .int .i64 ((j : Int) + 1)]) (h.conv (by
     simp only [all]
     show _ = sep _ (sep (refP _ _ b K1 e1.last) (sep (rtabP _ b 2 Qs1) _))
     ac_rfl)))
    exact (HG.out w0 W b bs (e1.opens j) j _ _ _ N _ M hand hti2 (by rw [hop]; exact ho1.out) hN hM h2).mono fun r w' h => ⟨h.1, h.2.swap⟩
   have HSET := hid hset; have HQ := hid hq; have HWR := hid hwr; have HF3 := hid hf3; have HPUT := hid hput; have HOP := hid hop; have HT3 := hid hti3
   clear hp hd hok2 hf2 hk hand hf3 hop hsr hse hsx hO hc hv hrow hx hset hq hput hwr hwant hok1 hf1 hj2 hst hti2 hti3 hRm1 hRm2 hS1 hST1 ht1
   go_wp2_with fail
   go_quiet (fail)
   go_wp2_with fail
   have HR0 := hid (HSET.out nq)
   refine region_U (S := fun w' => w'.cell? ⟨wr.heap.size, 1, none⟩ = some (.int .i64 ((j : Int) + 1)) ∧ w'.cell? ⟨blkOf bs j, 8, none⟩ = some (.int .i64 (e1.tx j).want.1) ∧ w'.cell? ⟨blkOf bs j, 9, none⟩ = some (.int .i64 (e1.tx j).want.2)) (u := 7) (by kernel_rfl) (HQ.out _ HR0.out.drew) (fun hHeld => ?_)
   refine anyU_take (i := 0) (v := ?_) rfl (by kernel_rfl) (fun _ _ _ h => h) (Or.inl ⟨by rfl, ?_⟩) hHeld ?_
   rotate_left
   ·(intro w hSw; (try dsimp only at hSw); go_simp) <;> with_reducible rfl
   try simp only [putU]
   refine anyU_pure (i := 1) (v := ?_) rfl (by kernel_rfl) (fun _ _ _ h => h) (Or.inl ⟨by rfl, ?_⟩) (fun _ => hHeld) ?_
   rotate_left
   ·(intro w _; go_simp) <;> with_reducible rfl
   try simp only [putU]
   refine anyU_take (i := 2) (v := ?_) rfl (by kernel_rfl) (fun _ _ _ h => h) (Or.inl ⟨by rfl, ?_⟩) hHeld ?_
   rotate_left
   ·(intro w hSw; (try dsimp only at hSw); go_simp) <;> with_reducible rfl
   try simp only [putU]
   refine anyU_pure (i := 3) (v := ?_) rfl (by kernel_rfl) (fun _ _ _ h => h) (Or.inl ⟨by rfl, ?_⟩) (fun _ => hHeld) ?_
   rotate_left
   ·(intro w _; go_simp) <;> with_reducible rfl
   try simp only [putU]
   refine anyU_pure (i := 4) (v := ?_) rfl (by kernel_rfl) (fun _ _ _ h => h) (Or.inl ⟨by rfl, ?_⟩) (fun _ => hHeld) ?_
   rotate_left
   ·(intro w _; go_simp) <;> with_reducible rfl
   try simp only [putU]
   refine anyU_pure (i := 5) (v := ?_) rfl (by kernel_rfl) (fun _ _ _ h => h) (Or.inl ⟨by rfl, ?_⟩) (fun _ => hHeld) ?_
   rotate_left
   ·(intro w _; go_simp) <;> with_reducible rfl
   try simp only [putU]
   refine anyU_take (i := 6) (v := ?_) rfl (by kernel_rfl) (fun _ _ _ h => h) (Or.inl ⟨by rfl, ?_⟩) hHeld ?_
   rotate_left
   ·(intro w hSw; (try dsimp only at hSw); go_simp) <;> with_reducible rfl
   try simp only [putU]
   have HS := hid HR0.out.drew
   clear hHeld
   refine anyU_world (fun w => Hid (S w0 w _)) HS (fun w1 HS => ?_)
   refine anyU_next (rs := [7]) (by kernel_rfl) (by simp) ?_
   refine NextU.cons rfl (fun K hK => ?_) ?_
   ·go_simp
    go_wp2_with (go_at_call 60; with_reducible refine (HWR.out _ HS.out).mono ?_; rintro r w5 ⟨rfl, hs5⟩; have H5 := hid hs5; clear hs5)
    refine hK.out _ _ (fun h => Bool.noConfusion (show true = false from h)) ?_
    clear hK K
    refine anyU_done (by kernel_rfl) ?_ _
    go_wp2_with fail
    go_roundw
    case rel => exact ⟨m + 1, _, by omega, by go_num, hid HPUT.out.1, HT3, hid (by have := HPUT.out.2.1; rw [HOP.out] at this; exact Nat.le_trans this ho1.out), HF3, H5.out⟩
    case measure => simp [intOf]; omega
   exact NextU.nil
  ·have hd : l.drop m = [] := List.drop_eq_nil_iff.2 (by omega)
   have hf2 := hf1.out
   rw [hd] at hf2
   have HF2 := hid hf2; have HSR := hid hsr
   clear hd hf2 hsr hf1 hok1 ht1
   go_wp2_with fail
   go_end0
   exact ⟨rfl, by rw [HFR.out, HF2.out]; exact HSR.out.tail⟩
end Go.Proofs.YtmfngjclccehaaaGreatDoor
/- The reference's store: Read. -/
namespace Go.Sep
open Go Go.RowKit Go.Proofs.YtmfngjclccehaaaGreatDoor
def bcells (r : Option (Int × Int)) : List Value := match r with | some p => [.int .i64 p.1, .int .i64 p.2] | none => [.int .i64 0, .int .i64 0]
def rreadAns (k : Int) (r : Option (Int × Int)) : Value := if 0 ≤ k ∧ k ≤ 9 then (match r with | some p => .tuple #[.agg #[.int .i64 p.1, .int .i64 p.2], .int .i64 0] | none => .tuple #[.agg #[.int .i64 0, .int .i64 0], .int .i64 8]) else .tuple #[.agg #[.int .i64 0, .int .i64 0], .int .i64 2]
end Go.Sep
namespace Go.Proofs.YtmfngjclccehaaaGreatDoor
open Go Go.RowKit Go.Sep
set_option maxRecDepth 40000 in
set_option maxHeartbeats 4000000 in
theorem rreadK_any (w0 w : World) (b : Nat) (v : Value) (K : List Kep) (last k at_ : Int) (L : List HProp) (hs : S w0 w (refK 47 109 b v K last :: L)) :
  Calls Tryz.prog 50 #[.pointer (some ⟨b, 0, none⟩), .int .i64 k, .int .i64 at_] w fun e w' => e = .returned (rreadAns k (rread K k at_)) ∧ S w0 w' (refK 47 109 b v K last :: L) := by
 by_cases hk : 0 ≤ k ∧ k ≤ 9
 ·have hkb : decide ((0 : Int) ≤ k ∧ k ≤ 9) = true := decide_eq_true hk
  have h1 := hs.sep_elim
  obtain ⟨a, c, rfl, hc1, hc2, _⟩ := h1.swap.sl_val
  unfold maxLen at hc2
  have h2 := (h1.alloc #[.int .i64 0, .int .i64 0] 107).alloc #[.int .i64 0, .int .i64 0] 107
  rw [World.size_alloc] at h2
  have c0 := h2.tail.tail.c0_cell 0 rfl
  have hans : ∀ r, rreadAns k r = (match r with | some p => .tuple #[.agg #[.int .i64 p.1, .int .i64 p.2], .int .i64 0] | none => .tuple #[.agg #[.int .i64 0, .int .i64 0], .int .i64 8]) := fun r => by unfold rreadAns; rw [if_pos hk]
  have H2 := hid h2; have HANS := hid hans
  clear hs h1 h2 hk hans
  go_enter Tryz.func50, Tryz.ntmps50
  go_wp2_with (go_at_call 44; with_reducible refine (in_any _ _ _ _).mono ?_; rw [hkb]; rintro e w' ⟨rfl, rfl⟩)
  go_loopw [9, 22] (fun sb cn wr => ∃ i : Nat, i ≤ K.length ∧ cn = .int .i64 i ∧ sb = .bool (rread (K.take i) k at_).isSome ∧ S w0 wr (blk (w.heap.size + 1) 107 (bcells (rread (K.take i) k at_)) :: blk w.heap.size 107 [.int .i64 0, .int .i64 0] :: cells b 0 [.slice a K.length c, .int .i64 last] :: sl 109 3 (.slice a K.length c) K.length (fcells kcells K) :: L)) (fun _ cn _ => K.length - (intOf cn).toNat)
  case atStart => exact ⟨0, Nat.zero_le _, rfl, rfl, H2.out⟩
  case round =>
   rename World => wr
   obtain ⟨i, hi, rfl, rfl, hsr⟩ := hrel
   clear H2
   by_cases hlt : i < K.length
   ·have hp : K[i]? = some K[i] := by simp [hlt]
    generalize K[i] = x at hp
    obtain ⟨g, og, rfl, _, d0, d1, d2⟩ := (hsr.conv (M := sl 109 3 (.slice a K.length c) K.length (fcells kcells K) :: blk (w.heap.size + 1) 107 (bcells (rread (K.take i) k at_)) :: blk w.heap.size 107 [.int .i64 0, .int .i64 0] :: cells b 0 [.slice a K.length c, .int .i64 last] :: L) (by simp only [all]; ac_rfl)).ref_at hp
    have hsn : rread (K.take (i + 1)) k at_ = rstep k at_ (rread (K.take i) k at_) x := by rw [take_succ_get hp, rread_snoc]
    generalize rread (K.take i) k at_ = r at hsr hsn ⊢
    have hsx := hsr.alloc #[.int .i64 x.1, .int .i64 x.2.1, .int .i64 x.2.2] 109
    have HSN := hid hsn
    obtain ⟨x1, x2, x3⟩ := x
    simp only at d0 d1 d2 hsx
    by_cases hx : x1 = k
    ·by_cases ha : x2 ≤ at_
     ·cases r with
      | none =>
       have hn : rread (K.take (i + 1)) k at_ = some (x2, x3) := by rw [HSN.out]; unfold rstep; rw [if_pos ⟨hx, ha, .inl rfl⟩]
       have e0 := hsx.swap.blk_cell 0 rfl
       have e1 := hsx.swap.blk_cell 1 rfl
       have f0 := hsx.swap.blk_free 0
       have f1 := hsx.swap.blk_free 1
       have hfin := ((hsx.swap.blk_set 0 (by simp [bcells]) (.int .i64 x2)).blk_set 1 (by simp [bcells]) (.int .i64 x3)).swap.tail
       have HN := hid hn; have HF := hid hfin
       subst hx
       clear hsr hsx hsn hn hfin hp HSN
       go_wp2_with fail
       go_roundw
       case rel => exact ⟨i + 1, by omega, by go_num, by rw [HN.out] <;> rfl, by rw [HN.out]; exact HF.out⟩
       case measure => simp [intOf]; omega
      | some cc =>
       obtain ⟨c1, c2⟩ := cc
       have e0 := hsx.swap.blk_cell 0 rfl
       have e1 := hsx.swap.blk_cell 1 rfl
       have f0 := hsx.swap.blk_free 0
       have f1 := hsx.swap.blk_free 1
       by_cases hl : c1 < x2
       ·have hn : rread (K.take (i + 1)) k at_ = some (x2, x3) := by rw [HSN.out]; unfold rstep; rw [if_pos ⟨hx, ha, .inr ⟨_, rfl, hl⟩⟩]
        have hfin := ((hsx.swap.blk_set 0 (by simp [bcells]) (.int .i64 x2)).blk_set 1 (by simp [bcells]) (.int .i64 x3)).swap.tail
        have HN := hid hn; have HF := hid hfin
        subst hx
        clear hsr hsx hsn hn hfin hp HSN
        go_wp2_with fail
        go_roundw
        case rel => exact ⟨i + 1, by omega, by go_num, by rw [HN.out] <;> rfl, by rw [HN.out]; exact HF.out⟩
        case measure => simp [intOf]; omega
       ·have hn : rread (K.take (i + 1)) k at_ = some (c1, c2) := by
         rw [HSN.out]; unfold rstep; rw [if_neg]
         rintro ⟨_, _, h | ⟨d, h, h'⟩⟩
         ·cases h
         ·cases h; exact hl h'
        have HN := hid hn; have HF := hid hsx.tail
        subst hx
        clear hsr hsx hsn hn hp HSN
        go_wp2_with fail
        go_roundw
        case rel => exact ⟨i + 1, by omega, by go_num, by rw [HN.out] <;> rfl, by rw [HN.out]; exact HF.out⟩
        case measure => simp [intOf]; omega
     ·have hn : rread (K.take (i + 1)) k at_ = r := by rw [HSN.out]; unfold rstep; rw [if_neg (fun h => ha h.2.1)]
      have HN := hid hn; have HF := hid hsx.tail
      subst hx
      clear hsr hsx hsn hn hp HSN
      go_wp2_with fail
      go_roundw
      case rel => exact ⟨i + 1, by omega, by go_num, by rw [HN.out], by rw [HN.out]; exact HF.out⟩
      case measure => simp [intOf]; omega
    ·have hxb : (x1 == k) = false := by simpa using hx
     have hn : rread (K.take (i + 1)) k at_ = r := by rw [HSN.out]; unfold rstep; rw [if_neg (fun h => hx h.1)]
     have HN := hid hn; have HF := hid hsx.tail
     clear hsr hsx hsn hn hp HSN hx
     go_wp2_with fail
     go_roundw
     case rel => exact ⟨i + 1, by omega, by go_num, by rw [HN.out], by rw [HN.out]; exact HF.out⟩
     case measure => simp [intOf]; omega
   ·obtain rfl : i = K.length := by omega
    rw [List.take_length] at hsr
    rw [List.take_length]
    obtain ⟨r, hrr⟩ : ∃ r, rread K k at_ = r := ⟨_, rfl⟩
    rw [hrr] at hsr
    rw [hrr]
    have HRR := hid hrr
    clear hrr
    have g0 := hsr.swap.blk_cell 0 rfl
    have g1 := hsr.swap.blk_cell 1 rfl
    have f0 := hsr.swap.blk_free 0
    have f1 := hsr.swap.blk_free 1
    cases r with
    | none =>
     have hfin := (hsr.swap.blk_set 0 (by simp) (.int .i64 0)).blk_set 1 (by simp) (.int .i64 0)
     have e0 := hfin.blk_cell 0 rfl
     have e1 := hfin.blk_cell 1 rfl
     have HF := hid hfin
     clear hsr hfin
     go_wp2_with fail
     exact bodyPost_ret (v := rreadAns k none) (by rw [HANS.out]; simp [results, Tryz.results50, go_sem, e0, e1]) rfl ⟨by rw [HRR.out], S.sep_intro HF.out.tail.tail⟩
    | some p =>
     have p0 := hsr.blk_cell 0 rfl
     have p1 := hsr.blk_cell 1 rfl
     have hfin := (hsr.swap.blk_set 0 (by simp) (.int .i64 p.1)).blk_set 1 (by simp) (.int .i64 p.2)
     have e0 := hfin.blk_cell 0 rfl
     have e1 := hfin.blk_cell 1 rfl
     have HF := hid hfin
     clear hsr hfin
     go_wp2_with fail
     exact bodyPost_ret (v := rreadAns k (some p)) (by rw [HANS.out]; simp [results, Tryz.results50, go_sem, e0, e1]) rfl ⟨by rw [HRR.out], S.sep_intro HF.out.tail.tail⟩
 ·have hkb : decide ((0 : Int) ≤ k ∧ k ≤ 9) = false := decide_eq_false hk
  have hans : ∀ r, rreadAns k r = .tuple #[.agg #[.int .i64 0, .int .i64 0], .int .i64 2] := fun r => by unfold rreadAns; rw [if_neg hk]
  have hfin := hs.alloc #[.int .i64 0, .int .i64 0] 107
  have e0 := hfin.blk_cell 0 rfl
  have e1 := hfin.blk_cell 1 rfl
  have H2 := hid hfin.tail; have HANS := hid hans
  clear hs hk hans hfin
  go_enter Tryz.func50, Tryz.ntmps50
  go_wp2_with (go_at_call 44; with_reducible refine (in_any _ _ _ _).mono ?_; rw [hkb]; rintro e w' ⟨rfl, rfl⟩)
  exact bodyPost_ret (v := rreadAns k none) (by rw [HANS.out]; simp [results, Tryz.results50, go_sem, e0, e1]) rfl ⟨by rw [HANS.out, HANS.out], H2.out⟩
theorem rread_any (w0 w : World) (b : Nat) (K : List Kep) (last k at_ : Int) (L : List HProp) (hs : S w0 w (refP 47 109 b K last :: L)) :
  Calls Tryz.prog 50 #[.pointer (some ⟨b, 0, none⟩), .int .i64 k, .int .i64 at_] w fun e w' => e = .returned (rreadAns k (rread K k at_)) ∧ S w0 w' (refP 47 109 b K last :: L) := by
 obtain ⟨v, h⟩ := hs.ex_elim
 exact (rreadK_any w0 w b v K last k at_ L h).mono fun e w' ⟨h1, h2⟩ => ⟨h1, .ex_intro v h2⟩
end Go.Proofs.YtmfngjclccehaaaGreatDoor
/- The library's sort.Ints at an owned slice. -/
namespace Go.Proofs.YtmfngjclccehaaaGreatDoor
open Go Go.RowKit Go.Sep
theorem sort_ints2 (w0 w : World) (v : Value) (l : List Int) (L : List HProp) (hs : S w0 w (sl 3 1 v l.length (icells l) :: L)) (hb : l.length ≤ 4000000) :
  Calls Tryz.prog 79 #[v] w fun e w' => e = .returned (.tuple #[]) ∧ S w0 w' (sl 3 1 v l.length (icells (sortI l)) :: L) := by
 rcases Nat.eq_zero_or_pos l.length with h0 | hp
 ·obtain rfl := List.eq_nil_of_length_eq_zero h0
  obtain ⟨a, cap, rfl, _⟩ := hs.sl_val
  exact (Tryz.sort_Ints_none a cap w).mono fun e w' ⟨h1, h2⟩ => ⟨h1, by rw [h2]; simpa [sortI] using hs⟩
 ·obtain ⟨g, o, cap, rfl, _⟩ := hs.sl_some (by rw [icells_length]; exact hp)
  obtain ⟨h1, h2, h3⟩ := hs.sl_sort
  refine (Tryz.sort_Ints g o cap l w h1 h2 (by omega)).mono fun e w' ⟨he, n, os, hw⟩ => ⟨he, ?_⟩
  rw [hw]
  exact h3 (sortI l) n os (sortI_len l)
end Go.Proofs.YtmfngjclccehaaaGreatDoor
/- The program's store: All. -/
namespace Go.Sep
open Go Go.RowKit
def allK (f : Int → Option (Int × Int)) (k : Nat) : List (Int × Int) := match f k with | some p => [((k : Int), p.2)] | none => []
def allL (f : Int → Option (Int × Int)) (n : Nat) : List (Int × Int) := (List.range n).flatMap (allK f)
theorem allL_succ (f : Int → Option (Int × Int)) (n : Nat) : allL f (n + 1) = allL f n ++ allK f n := by simp [allL, List.range_succ, List.flatMap_append]
theorem allK_some {f : Int → Option (Int × Int)} {k : Nat} {p : Int × Int} (h : f k = some p) : allK f k = [((k : Int), p.2)] := by unfold allK; rw [h]
theorem allK_none {f : Int → Option (Int × Int)} {k : Nat} (h : f k = none) : allK f k = [] := by unfold allK; rw [h]
theorem allL_le (f : Int → Option (Int × Int)) : ∀ n, (allL f n).length ≤ n
 | 0 => by simp [allL]
 | n + 1 => by
  rw [allL_succ, List.length_append]
  have := allL_le f n
  have : (allK f n).length ≤ 1 := by unfold allK; split <;> simp
  omega
theorem allL_congr {f g : Int → Option (Int × Int)} {n : Nat} (h : ∀ k < n, f (k : Nat) = g (k : Nat)) : allL f n = allL g n := by
 induction n with
 | zero => rfl
 | succ n ih =>
  rw [allL_succ, allL_succ, ih (fun k hk => h k (by omega))]
  unfold allK
  rw [h n (by omega)]
end Go.Sep
namespace Go.Proofs.YtmfngjclccehaaaGreatDoor
open Go Go.RowKit Go.Sep
set_option maxRecDepth 40000 in
set_option maxHeartbeats 4000000 in
theorem sall_any (w0 w : World) (b : Nat) (V : List Vers) (last at_ : Int) (L : List HProp) (hs : S w0 w (storeP 107 b 0 V last :: L)) (hb : ∀ vs ∈ V, vs.length ≤ 2000000) :
  Calls Tryz.prog 70 #[.pointer (some ⟨b, 0, none⟩), .int .i64 at_] w fun e w' => ∃ v, e = .returned v ∧ S w0 w' (sl 101 2 v (allL (fun k => readV ((V[k.toNat]?).getD []) at_) 10).length (pcells (allL (fun k => readV ((V[k.toNat]?).getD []) at_) 10)) :: storeP 107 b 0 V last :: L) := by
 have hlen := hs.store_len
 have H2 := hid (hs.sl_nil (e := 101) (size := 2)); have HL := hid hlen; have HB := hid hb
 clear hs hlen hb
 go_enter Tryz.func70, Tryz.ntmps70
 go_wp2_with fail
 go_loopw [5, 9] (fun u cn wr => ∃ n : Nat, n ≤ 10 ∧ cn = .int .i64 n ∧ S w0 wr (sl 101 2 u (allL (fun k => readV ((V[k.toNat]?).getD []) at_) n).length (pcells (allL (fun k => readV ((V[k.toNat]?).getD []) at_) n)) :: storeP 107 b 0 V last :: L)) (fun _ cn _ => 10 - (intOf cn).toNat)
 case atStart => exact ⟨0, Nat.zero_le _, rfl, H2.out⟩
 case round =>
  rename World => wr
  obtain ⟨n, hn, rfl, hsr⟩ := hrel
  clear H2
  by_cases hlt : n < 10
  ·obtain ⟨ao, co, rfl, hco, hco2, _⟩ := hsr.sl_val
   unfold maxLen at hco2
   have hle := allL_le (fun k => readV ((V[k.toNat]?).getD []) at_) n
   have hsc := allL_succ (fun k => readV ((V[k.toNat]?).getD []) at_) n
   obtain ⟨vs, hvs⟩ : ∃ vs, V[n]? = some vs := ⟨V[n]'(by rw [HL.out]; exact hlt), by simp⟩
   have hcall := read_any b 0 V last at_ n vs w0 wr _ hlt hsr.swap hvs (HB.out vs (List.mem_of_getElem? hvs))
   obtain ⟨r, hr⟩ : ∃ r, readV vs at_ = r := ⟨_, rfl⟩
   have hr2 : (fun k : Int => readV ((V[k.toNat]?).getD []) at_) (n : Nat) = r := by simp only [Int.toNat_natCast]; rw [hvs]; exact hr
   rw [hr] at hcall
   have HC := hid hcall; have HSC := hid hsc; have HR := hid hr2
   clear hcall hsc hr hr2 hsr hvs
   go_wp2_with fail
   with_reducible refine HC.out.mono ?_
   rintro e w2 ⟨rfl, hs2⟩
   unfold readAns
   cases r with
   | none =>
    have H3 := hid hs2.swap
    have hx := allK_none (f := fun k : Int => readV ((V[k.toNat]?).getD []) at_) (k := n) HR.out
    have HX := hid hx
    clear hs2 hx HC
    go_wp2_with fail
    go_roundw
    case rel => exact ⟨n + 1, by omega, by go_num, by rw [HSC.out, HX.out, List.append_nil]; exact (H3.out.alloc _ _).tail⟩
    case measure => simp [intOf]; omega
   | some p =>
    have hx := allK_some (f := fun k : Int => readV ((V[k.toNat]?).getD []) at_) (k := n) HR.out
    obtain ⟨i0, hi0, hz0, hz1, hz2⟩ := info_parts Tryz.info101
    have hs3 := (hs2.swap.alloc #[.int .i64 p.1, .int .i64 p.2] 107).tail.alloc #[.int .i64 (n : Int), .int .i64 p.2] 101
    have hn1 := news_blk hs3
    rw [World.size_alloc] at hn1
    have HX := hid hx; have HN1 := hid hn1; have H9 := hid hs3.tail
    clear hs2 hs3 hn1 hx HC
    go_wp2_with (at_builtin; refine wpList_append rfl (.tmp 21) (.tmp 26) 22 rfl 101 i0 _ 2 16 Tryz.underlying22 hi0 hz0 hz1 hz2 rfl (by decide) H9.out rfl (some ⟨w2.heap.size + 1, 0, none⟩) 1 1 [.int .i64 (n : Int), .int .i64 p.2] rfl rfl HN1.out (by simp [Value.oneCell']) (by unfold maxLen; omega) (by omega) ?_; intro v1 w5 hs1; have HS := hid hs1; clear hs1)
    go_roundw
    case rel => exact ⟨n + 1, by omega, by go_num, by rw [HSC.out, HX.out, pcells_append, List.length_append, List.length_singleton]; exact HS.out⟩
    case measure => simp [intOf]; omega
  ·obtain rfl : n = 10 := by omega
   have H4 := hid hsr
   clear hsr
   go_wp2_with fail
   go_ret
   exact ⟨_, rfl, H4.out⟩
end Go.Proofs.YtmfngjclccehaaaGreatDoor
/- The reference's store: Newer, All; the program's All. -/
namespace Go.Sep
open Go Go.RowKit Go.Proofs.YtmfngjclccehaaaGreatDoor
def ransV (r : Option (Int × Int)) : Value := match r with | some p => .tuple #[.agg #[.int .i64 p.1, .int .i64 p.2], .int .i64 0] | none => .tuple #[.agg #[.int .i64 0, .int .i64 0], .int .i64 8]
theorem rreadAns_in {k : Int} (h : 0 ≤ k ∧ k ≤ 9) (r : Option (Int × Int)) : rreadAns k r = ransV r := by unfold rreadAns ransV; rw [if_pos h] <;> (cases r <;> rfl)
theorem rnewer_le (K : List Kep) (k at_ : Int) : (rnewer K k at_).length ≤ K.length := by
 unfold rnewer; rw [List.length_map]; exact List.length_filter_le _ _
end Go.Sep
namespace Go.Proofs.YtmfngjclccehaaaGreatDoor
open Go Go.RowKit Go.Sep
def RNewPost (w0 : World) (b : Nat) (K : List Kep) (last k at_ : Int) (L : List HProp) (e : Ending) (w' : World) : Prop :=
 if 0 ≤ k ∧ k ≤ 9 then ∃ v, e = .returned (.tuple #[v, .int .i64 0]) ∧ S w0 w' (sl 3 1 v (rnewer K k at_).length (icells (sortI (rnewer K k at_))) :: refP 47 109 b K last :: L)
 else e = .returned (.tuple #[.slice none 0 0, .int .i64 2]) ∧ S w0 w' (refP 47 109 b K last :: L)
set_option maxRecDepth 40000 in
set_option maxHeartbeats 4000000 in
theorem rnewer_any (w0 w : World) (b : Nat) (K : List Kep) (last k at_ : Int) (L : List HProp) (hs : S w0 w (refP 47 109 b K last :: L)) (hb : K.length ≤ 1000000) :
  Calls Tryz.prog 51 #[.pointer (some ⟨b, 0, none⟩), .int .i64 k, .int .i64 at_] w (RNewPost w0 b K last k at_ L) := by
 by_cases hk : 0 ≤ k ∧ k ≤ 9
 ·have hkb : decide ((0 : Int) ≤ k ∧ k ≤ 9) = true := decide_eq_true hk
  obtain ⟨v, h1⟩ := hs.ref_elim
  obtain ⟨a, c, rfl, hc1, hc2, _⟩ := h1.swap.sl_val
  unfold maxLen at hc2
  have c0 := h1.c0_cell 0 rfl
  have hpost : ∀ e w', (∃ v, e = Ending.returned (.tuple #[v, .int .i64 0]) ∧ S w0 w' (sl 3 1 v (rnewer K k at_).length (icells (sortI (rnewer K k at_))) :: refP 47 109 b K last :: L)) → RNewPost w0 b K last k at_ L e w' := fun e w' h => by
   unfold RNewPost; rw [if_pos hk]; exact h
  have HPO := hid hpost; have H2 := hid (h1.sl_nil (e := 3) (size := 1))
  clear hs h1 hk hpost
  go_enter Tryz.func51, Tryz.ntmps51
  go_wp2_with (go_at_call 44; with_reducible refine (in_any _ _ _ _).mono ?_; rw [hkb]; rintro e w' ⟨rfl, rfl⟩)
  go_loopw [8, 19] (fun u cn wr => ∃ i : Nat, i ≤ K.length ∧ cn = .int .i64 i ∧ S w0 wr (sl 3 1 u (rnewer (K.take i) k at_).length (icells (rnewer (K.take i) k at_)) :: cells b 0 [.slice a K.length c, .int .i64 last] :: sl 109 3 (.slice a K.length c) K.length (fcells kcells K) :: L)) (fun _ cn _ => K.length - (intOf cn).toNat)
  case atStart => exact ⟨0, Nat.zero_le _, rfl, H2.out⟩
  case round =>
   rename World => wr
   obtain ⟨i, hi, rfl, hsr⟩ := hrel
   clear H2
   by_cases hlt : i < K.length
   ·have hp : K[i]? = some K[i] := by simp [hlt]
    generalize K[i] = x at hp
    obtain ⟨g, og, rfl, _, d0, d1, d2⟩ := hsr.rot3.ref_at hp
    have hsn := rnewer_snoc (K.take i) x k at_
    rw [← take_succ_get hp] at hsn
    have hle := rnewer_le (K.take i) k at_
    rw [List.length_take] at hle
    have hsx := (hsr.alloc #[.int .i64 x.1, .int .i64 x.2.1, .int .i64 x.2.2] 109).tail
    have HSN := hid hsn
    obtain ⟨x1, x2, x3⟩ := x
    simp only at d0 d1 d2 hsx
    by_cases hx : x1 = k
    ·subst hx
     by_cases ha : at_ < x2
     ·obtain ⟨ao, co, rfl, hco, hco2, _⟩ := hsx.sl_val
      unfold maxLen at hco2
      have hn := HSN.out
      simp only [true_and] at hn
      rw [if_pos ha] at hn
      obtain ⟨i0, hi0, hz0, hz1, hz2⟩ := info_parts Tryz.info3
      have hs1 := hsx.alloc #[.int .i64 x2] 3
      have hn1 := news_blk hs1
      rw [World.size_alloc] at hn1
      have hs2 := hs1.tail
      have HX := hid hn; have HN1 := hid hn1; have H9 := hid hs2
      clear hs1 hs2 hn1 hsx hsr hn hsn hp HSN
      go_wp2_with (at_builtin; refine wpList_append rfl (.tmp 34) (.tmp 38) 48 rfl 3 i0 _ 1 8 Tryz.underlying48 hi0 hz0 hz1 hz2 rfl (by decide) H9.out rfl (some ⟨wr.heap.size + 1, 0, none⟩) 1 1 [.int .i64 x2] rfl rfl HN1.out (by simp [Value.oneCell']) (by unfold maxLen; omega) (by omega) ?_; intro v1 w5 hs1; have HS := hid hs1; clear hs1)
      go_roundw
      case rel => exact ⟨i + 1, by omega, by go_num, by rw [HX.out, List.length_append, List.length_singleton, icells_append]; exact HS.out⟩
      case measure => simp [intOf]; omega
     ·have hn : rnewer (K.take (i + 1)) x1 at_ = rnewer (K.take i) x1 at_ := by rw [HSN.out, if_neg (fun h => ha h.2), List.append_nil]
      have HX := hid hn; have HF := hid hsx
      clear hsx hsr hn hsn hp HSN
      go_wp2_with fail
      go_roundw
      case rel => exact ⟨i + 1, by omega, by go_num, by rw [HX.out]; exact HF.out⟩
      case measure => simp [intOf]; omega
    ·have hxb : (x1 == k) = false := by simpa using hx
     have hn : rnewer (K.take (i + 1)) k at_ = rnewer (K.take i) k at_ := by rw [HSN.out, if_neg (fun h => hx h.1), List.append_nil]
     have HX := hid hn; have HF := hid hsx
     clear hsx hsr hn hsn hp HSN hx
     go_wp2_with fail
     go_roundw
     case rel => exact ⟨i + 1, by omega, by go_num, by rw [HX.out]; exact HF.out⟩
     case measure => simp [intOf]; omega
   ·obtain rfl : i = K.length := by omega
    rw [List.take_length] at hsr
    have hle := rnewer_le K k at_
    have H4 := hid hsr
    clear hsr
    go_wp2_with (go_at_call 79; with_reducible refine (sort_ints2 w0 _ _ (rnewer K k at_) _ H4.out (by omega)).mono ?_; rintro e w2 ⟨rfl, hs2⟩; have H5 := hid hs2; clear hs2)
    go_ret2
    exact HPO.out _ _ ⟨_, rfl, (S.swap (S.ref_intro (H5.out.conv (M := cells b 0 [.slice a K.length c, .int .i64 last] :: sl 109 3 (.slice a K.length c) K.length (fcells kcells K) :: sl 3 1 _ (rnewer K k at_).length (icells (sortI (rnewer K k at_))) :: L) (by simp only [all]; ac_rfl))))⟩
 ·have hkb : decide ((0 : Int) ≤ k ∧ k ≤ 9) = false := decide_eq_false hk
  have hpost : ∀ e w', (e = Ending.returned (.tuple #[.slice none 0 0, .int .i64 2]) ∧ S w0 w' (refP 47 109 b K last :: L)) → RNewPost w0 b K last k at_ L e w' := fun e w' h => by
   unfold RNewPost; rw [if_neg hk]; exact h
  have HPO := hid hpost; have H2 := hid hs
  clear hs hk hpost
  go_enter Tryz.func51, Tryz.ntmps51
  go_wp2_with (go_at_call 44; with_reducible refine (in_any _ _ _ _).mono ?_; rw [hkb]; rintro e w' ⟨rfl, rfl⟩)
  go_ret2
  exact HPO.out _ _ ⟨rfl, H2.out⟩
set_option maxRecDepth 40000 in
set_option maxHeartbeats 4000000 in
theorem rallK_any (w0 w : World) (b : Nat) (kv : Value) (K : List Kep) (last at_ : Int) (L : List HProp) (hs : S w0 w (refK 47 109 b kv K last :: L)) :
  Calls Tryz.prog 35 #[.pointer (some ⟨b, 0, none⟩), .int .i64 at_] w fun e w' => ∃ v, e = .returned v ∧ S w0 w' (sl 101 2 v (allL (fun k => rread K k at_) 10).length (pcells (allL (fun k => rread K k at_) 10)) :: refK 47 109 b kv K last :: L) := by
 have H2 := hid (hs.sl_nil (e := 101) (size := 2))
 clear hs
 go_enter Tryz.func35, Tryz.ntmps35
 go_wp2_with fail
 go_loopw [5, 9] (fun u cn wr => ∃ n : Nat, n ≤ 10 ∧ cn = .int .i64 n ∧ S w0 wr (sl 101 2 u (allL (fun k => rread K k at_) n).length (pcells (allL (fun k => rread K k at_) n)) :: refK 47 109 b kv K last :: L)) (fun _ cn _ => 10 - (intOf cn).toNat)
 case atStart => exact ⟨0, Nat.zero_le _, rfl, H2.out⟩
 case round =>
  rename World => wr
  obtain ⟨n, hn, rfl, hsr⟩ := hrel
  clear H2
  by_cases hlt : n < 10
  ·obtain ⟨ao, co, rfl, hco, hco2, _⟩ := hsr.sl_val
   unfold maxLen at hco2
   have hle := allL_le (fun k => rread K k at_) n
   have hsc := allL_succ (fun k => rread K k at_) n
   have hcall := rreadK_any w0 wr b kv K last n at_ _ hsr.swap
   obtain ⟨r, hr⟩ : ∃ r, rread K n at_ = r := ⟨_, rfl⟩
   rw [hr] at hcall
   rw [rreadAns_in (by omega)] at hcall
   have HC := hid hcall; have HSC := hid hsc; have HR := hid hr
   clear hcall hsc hr hsr
   go_wp2_with fail
   with_reducible refine HC.out.mono ?_
   rintro e w2 ⟨rfl, hs2⟩
   unfold ransV
   cases r with
   | none =>
    have H3 := hid hs2.swap
    have hx := allK_none (f := fun k => rread K k at_) HR.out
    have HX := hid hx
    clear hs2 hx HC
    go_wp2_with fail
    go_roundw
    case rel => exact ⟨n + 1, by omega, by go_num, by rw [HSC.out, HX.out, List.append_nil]; exact (H3.out.alloc _ _).tail⟩
    case measure => simp [intOf]; omega
   | some p =>
    have hx := allK_some (f := fun k => rread K k at_) HR.out
    obtain ⟨i0, hi0, hz0, hz1, hz2⟩ := info_parts Tryz.info101
    have hs3 := (hs2.swap.alloc #[.int .i64 p.1, .int .i64 p.2] 107).tail.alloc #[.int .i64 (n : Int), .int .i64 p.2] 101
    have hn1 := news_blk hs3
    rw [World.size_alloc] at hn1
    have HX := hid hx; have HN1 := hid hn1; have H9 := hid hs3.tail
    clear hs2 hs3 hn1 hx HC
    go_wp2_with (at_builtin; refine wpList_append rfl (.tmp 21) (.tmp 26) 22 rfl 101 i0 _ 2 16 Tryz.underlying22 hi0 hz0 hz1 hz2 rfl (by decide) H9.out rfl (some ⟨w2.heap.size + 1, 0, none⟩) 1 1 [.int .i64 (n : Int), .int .i64 p.2] rfl rfl HN1.out (by simp [Value.oneCell']) (by unfold maxLen; omega) (by omega) ?_; intro v1 w5 hs1; have HS := hid hs1; clear hs1)
    go_roundw
    case rel => exact ⟨n + 1, by omega, by go_num, by rw [HSC.out, HX.out, pcells_append, List.length_append, List.length_singleton]; exact HS.out⟩
    case measure => simp [intOf]; omega
  ·obtain rfl : n = 10 := by omega
   have H4 := hid hsr
   clear hsr
   go_wp2_with fail
   go_ret
   exact ⟨_, rfl, H4.out⟩
end Go.Proofs.YtmfngjclccehaaaGreatDoor
namespace Go.Proofs.YtmfngjclccehaaaGreatDoor
open Go Go.RowKit Go.Sep
theorem Tryz.info109 : (Tryz.prog.info? 109).map (fun i => (i.zero, i.size, i.bytes)) = some (some (.agg #[.int .i64 0, .int .i64 0, .int .i64 0]), 3, 24) := by kernel_rfl
theorem Tryz.eqlV (p q : Int × Int) (w : World) : (binOp .eql 107 (.agg #[.int .i64 p.1, .int .i64 p.2]) (.agg #[.int .i64 q.1, .int .i64 q.2])).run Tryz.prog w = .ok (.bool (decide (p = q))) w := by
 go_simp
 obtain ⟨a, b⟩ := p
 obtain ⟨c, d⟩ := q
 by_cases h1 : a = c <;> by_cases h2 : b = d <;> simp [h1, h2]
theorem filter_yes {f : Kep → Bool} {K : List Kep} {i : Nat} {x : Kep} (hp : K[i]? = some x) (h : f x = true) : (K.take (i + 1)).filter f = (K.take i).filter f ++ [x] := by
 rw [take_succ_get hp, List.filter_append]; simp [h]
theorem filter_no {f : Kep → Bool} {K : List Kep} {i : Nat} {x : Kep} (hp : K[i]? = some x) (h : f x = false) : (K.take (i + 1)).filter f = (K.take i).filter f := by
 rw [take_succ_get hp, List.filter_append]; simp [h]
theorem filter_take_le (f : Kep → Bool) (K : List Kep) (i : Nat) : ((K.take i).filter f).length ≤ K.length := by
 have h1 := List.length_filter_le f (K.take i)
 rw [List.length_take] at h1; omega
set_option maxRecDepth 40000 in
set_option maxHeartbeats 8000000 in
theorem rsweep_any (w0 w : World) (b : Nat) (K : List Kep) (last at_ : Int) (L : List HProp) (hs : S w0 w (refP 47 109 b K last :: L)) (hb : K.length ≤ 100000) (hok : ∀ x ∈ K, keyOk x.1) :
  Calls Tryz.prog 66 #[.pointer (some ⟨b, 0, none⟩), .int .i64 at_] w fun e w' => e = .returned (.int .i64 ((K.length : Int) - (rswept K at_).length)) ∧ S w0 w' (refP 47 109 b (rswept K at_) last :: L) := by
 obtain ⟨v, h1⟩ := hs.ex_elim
 obtain ⟨a, c, rfl, hc1, hc2, _⟩ := h1.sep_elim.swap.sl_val
 unfold maxLen at hc2
 have c0 := h1.sep_elim.c0_cell 0 rfl
 have H2 := hid (h1.sl_nil (e := 109) (size := 3)); have HOK := hid hok
 clear hs h1 hok
 go_enter Tryz.func66, Tryz.ntmps66
 go_wp2_with fail
 go_loopw [5, 16] (fun u cn wr => ∃ i : Nat, i ≤ K.length ∧ cn = .int .i64 i ∧ S w0 wr (sl 109 3 u ((K.take i).filter (rkeep K at_)).length (fcells kcells ((K.take i).filter (rkeep K at_))) :: refK 47 109 b (.slice a K.length c) K last :: L)) (fun _ cn _ => K.length - (intOf cn).toNat)
 case atStart => exact ⟨0, Nat.zero_le _, rfl, H2.out⟩
 case round =>
  rename World => wr
  obtain ⟨i, hi, rfl, hsr⟩ := hrel
  clear H2 c0
  by_cases hlt : i < K.length
  ·have hp : K[i]? = some K[i] := by simp [hlt]
   generalize K[i] = x at hp
   obtain ⟨au, cu, rfl, hcu, hcu2, _⟩ := hsr.sl_val
   unfold maxLen at hcu2
   have hle := filter_take_le (rkeep K at_) K i
   obtain ⟨g, og, rfl, _, d0, d1, d2⟩ := (S.swap (S.sep_elim (S.swap hsr))).ref_at hp
   have hkx := HOK.out x (List.mem_of_getElem? hp)
   have hfy := filter_yes (f := rkeep K at_) hp
   have hfn := filter_no (f := rkeep K at_) hp
   have hsx := hsr.alloc #[.int .i64 x.1, .int .i64 x.2.1, .int .i64 x.2.2] 109
   obtain ⟨x1, x2, x3⟩ := x
   simp only at d0 d1 d2 hsx hkx
   have hcall := rreadK_any w0 _ b _ K last x1 at_ _ (hsx.conv (M := refK 47 109 b (.slice (some ⟨g, og, none⟩) K.length c) K last :: blk wr.heap.size 109 [.int .i64 x1, .int .i64 x2, .int .i64 x3] :: sl 109 3 (.slice au ((K.take i).filter (rkeep K at_)).length cu) ((K.take i).filter (rkeep K at_)).length (fcells kcells ((K.take i).filter (rkeep K at_))) :: L) (by simp only [all]; ac_rfl))
   rw [rreadAns_in ⟨hkx.1, by have := hkx.2; omega⟩] at hcall
   obtain ⟨r, hr⟩ : ∃ r, rread K x1 at_ = r := ⟨_, rfl⟩
   rw [hr] at hcall
   have hkeep : rkeep K at_ (x1, x2, x3) = decide (at_ < x2 ∨ r = some (x2, x3)) := by unfold rkeep; simp only [hr]
   have HC := hid hcall; have HFY := hid hfy; have HFN := hid hfn; have HKP := hid hkeep
   clear hcall hfy hfn hkeep hr hsr hsx hp hkx
   go_wp2_with fail
   with_reducible refine HC.out.mono ?_
   rintro e w2 ⟨rfl, hs2⟩
   clear HC
   unfold ransV
   have hsz := (hs2.conv (M := blk wr.heap.size 109 [.int .i64 x1, .int .i64 x2, .int .i64 x3] :: sl 109 3 (.slice au ((K.take i).filter (rkeep K at_)).length cu) ((K.take i).filter (rkeep K at_)).length (fcells kcells ((K.take i).filter (rkeep K at_))) :: refK 47 109 b (.slice (some ⟨g, og, none⟩) K.length c) K last :: L) (by simp only [all]; ac_rfl))
   have HZ := hid hsz
   clear hs2 hsz
   cases r with
   | none =>
    have y0 := (HZ.out.alloc #[.int .i64 0, .int .i64 0] 107).swap.blk_cell 0 rfl
    have y1 := (HZ.out.alloc #[.int .i64 0, .int .i64 0] 107).swap.blk_cell 1 rfl
    have y2 := (HZ.out.alloc #[.int .i64 0, .int .i64 0] 107).swap.blk_cell 2 rfl
    by_cases ha : at_ < x2
    ·have hk2 := HFY.out (by rw [HKP.out]; exact decide_eq_true (.inl ha))
     obtain ⟨i0, hi0, hz0, hz1, hz2⟩ := info_parts Tryz.info109
     have hs3 := (HZ.out.alloc #[.int .i64 0, .int .i64 0] 107).tail.tail.alloc #[.int .i64 x1, .int .i64 x2, .int .i64 x3] 109
     have hn1 := news_blk hs3
     rw [World.size_alloc] at hn1
     have HX := hid hk2; have HN1 := hid hn1; have H9 := hid hs3.tail
     clear hs3 hn1 hk2 HFY HFN HKP
     go_wp2_with (at_builtin; refine wpList_append rfl (.tmp 43) (.tmp 45) 45 rfl 109 i0 _ 3 24 Tryz.underlying45 hi0 hz0 hz1 hz2 rfl (by decide) H9.out rfl (some ⟨w2.heap.size + 1, 0, none⟩) 1 1 [.int .i64 x1, .int .i64 x2, .int .i64 x3] rfl rfl HN1.out (by simp [Value.oneCell']) (by unfold maxLen; omega) (by omega) ?_; intro v1 w5 hs1; have HS := hid hs1; clear hs1)
     go_roundw
     case rel => exact ⟨i + 1, by omega, by go_num, by rw [HX.out, kcells_snoc, List.length_append, List.length_singleton]; exact HS.out⟩
     case measure => simp [intOf]; omega
    ·have hk2 := HFN.out (by rw [HKP.out]; exact decide_eq_false (by rintro (h | h); exact ha h; cases h))
     have HX := hid hk2; have H9 := hid (HZ.out.alloc #[.int .i64 0, .int .i64 0] 107).tail.tail
     clear hk2 HFY HFN HKP
     go_wp2_with fail
     go_roundw
     case rel => exact ⟨i + 1, by omega, by go_num, by rw [HX.out]; exact H9.out⟩
     case measure => simp [intOf]; omega
   | some p =>
    obtain ⟨p1, p2⟩ := p
    have y0 := (HZ.out.alloc #[.int .i64 p1, .int .i64 p2] 107).swap.blk_cell 0 rfl
    have y1 := (HZ.out.alloc #[.int .i64 p1, .int .i64 p2] 107).swap.blk_cell 1 rfl
    have y2 := (HZ.out.alloc #[.int .i64 p1, .int .i64 p2] 107).swap.blk_cell 2 rfl
    have hev := fun W => Tryz.eqlV (p1, p2) (x2, x3) W
    by_cases ha : at_ < x2
    ·have hk2 := HFY.out (by rw [HKP.out]; exact decide_eq_true (.inl ha))
     obtain ⟨i0, hi0, hz0, hz1, hz2⟩ := info_parts Tryz.info109
     have hs3 := (HZ.out.alloc #[.int .i64 p1, .int .i64 p2] 107).tail.tail.alloc #[.int .i64 x1, .int .i64 x2, .int .i64 x3] 109
     have hn1 := news_blk hs3
     rw [World.size_alloc] at hn1
     have HX := hid hk2; have HN1 := hid hn1; have H9 := hid hs3.tail
     clear hs3 hn1 hk2 HFY HFN HKP
     go_wp2_with (at_builtin; refine wpList_append rfl (.tmp 43) (.tmp 45) 45 rfl 109 i0 _ 3 24 Tryz.underlying45 hi0 hz0 hz1 hz2 rfl (by decide) H9.out rfl (some ⟨w2.heap.size + 1, 0, none⟩) 1 1 [.int .i64 x1, .int .i64 x2, .int .i64 x3] rfl rfl HN1.out (by simp [Value.oneCell']) (by unfold maxLen; omega) (by omega) ?_; intro v1 w5 hs1; have HS := hid hs1; clear hs1)
     go_roundw
     case rel => exact ⟨i + 1, by omega, by go_num, by rw [HX.out, kcells_snoc, List.length_append, List.length_singleton]; exact HS.out⟩
     case measure => simp [intOf]; omega
    ·by_cases hpx : (p1, p2) = (x2, x3)
     ·rw [hpx] at hev
      simp only [decide_true] at hev
      obtain ⟨rfl, rfl⟩ : p1 = x2 ∧ p2 = x3 := by simpa using hpx
      have hk2 := HFY.out (by rw [HKP.out]; exact decide_eq_true (.inr rfl))
      obtain ⟨i0, hi0, hz0, hz1, hz2⟩ := info_parts Tryz.info109
      have hs3 := (HZ.out.alloc #[.int .i64 p1, .int .i64 p2] 107).tail.tail.alloc #[.int .i64 x1, .int .i64 p1, .int .i64 p2] 109
      have hn1 := news_blk hs3
      rw [World.size_alloc] at hn1
      have HX := hid hk2; have HN1 := hid hn1; have H9 := hid hs3.tail
      clear hs3 hn1 hk2 HFY HFN HKP
      go_wp2_with (at_builtin; refine wpList_append rfl (.tmp 43) (.tmp 45) 45 rfl 109 i0 _ 3 24 Tryz.underlying45 hi0 hz0 hz1 hz2 rfl (by decide) H9.out rfl (some ⟨w2.heap.size + 1, 0, none⟩) 1 1 [.int .i64 x1, .int .i64 p1, .int .i64 p2] rfl rfl HN1.out (by simp [Value.oneCell']) (by unfold maxLen; omega) (by omega) ?_; intro v1 w5 hs1; have HS := hid hs1; clear hs1)
      go_roundw
      case rel => exact ⟨i + 1, by omega, by go_num, by rw [HX.out, kcells_snoc, List.length_append, List.length_singleton]; exact HS.out⟩
      case measure => simp [intOf]; omega
     ·simp only [hpx, decide_false] at hev
      have hk2 := HFN.out (by rw [HKP.out]; exact decide_eq_false (by rintro (h | h); exact ha h; exact hpx (Option.some.inj h)))
      have HX := hid hk2; have H9 := hid (HZ.out.alloc #[.int .i64 p1, .int .i64 p2] 107).tail.tail
      clear hk2 HFY HFN HKP
      go_wp2_with fail
      go_roundw
      case rel => exact ⟨i + 1, by omega, by go_num, by rw [HX.out]; exact H9.out⟩
      case measure => simp [intOf]; omega
  ·obtain rfl : i = K.length := by omega
   rw [List.take_length] at hsr
   obtain ⟨au, cu, rfl, hcu, hcu2, _⟩ := hsr.sl_val
   unfold maxLen at hcu2
   have hsb := S.sep_elim (S.swap hsr)
   have e0 := hsb.c0_cell 0 rfl
   have f0 := hsb.c0_free 0 rfl
   have hfin := (hsb.c0_set 0 (by simp) (.slice au (K.filter (rkeep K at_)).length cu)).swap.tail.conv (M := cells b 0 [.slice au (K.filter (rkeep K at_)).length cu, .int .i64 last] :: sl 109 3 (.slice au (K.filter (rkeep K at_)).length cu) (K.filter (rkeep K at_)).length (fcells kcells (K.filter (rkeep K at_))) :: L) rfl
   have hle := List.length_filter_le (rkeep K at_) K
   have hw : IntKind.i64.wrap ((K.length : Int) - ((K.filter (rkeep K at_)).length : Int)) = (K.length : Int) - ((K.filter (rkeep K at_)).length : Int) := IntWalk.i64_in _ (by omega)
   have HF := hid hfin
   clear hsr hsb hfin
   go_wp2_with fail
   go_ret
   exact ⟨rfl, S.ref_intro HF.out⟩
end Go.Proofs.YtmfngjclccehaaaGreatDoor
