/- Short words for printed walks. No program in sight. -/
import Derived.Test.YtmfngjclccehaaaGreatDoorZ0
import Derived.Test.YtmfngjclccehaaaGreatDoorZ4
import Derived.Test.YtmfngjclccehaaaGreatDoorZ3
import Derived.Deep.RegionHeld
import Derived.Deep.DeepCutAuto
import Derived.Deep.CutBlock
import Derived.Test.YtmfngjclccehaaaGreatDoorZ2
import Derived.WalkKit
/- The reference's engine: a transaction's four slices, each taken out, and put back with one thing more. No walk in sight. -/
namespace Go.Proofs.YtmfngjclccehaaaGreatDoor
open Go Go.RowKit Go.Sep
variable {w w0 : World} {L : List HProp} {b : Nat} {bs : List Nat} {k : RenV} {e : Eng} {i : Nat}
theorem rtxK_parts (bs : List Nat) (i : Nat) (v : RtxV) (x : Tx) : rtxK bs i v x = sep (blk (blkOf bs i) 103 (rtxF v x)) (sep (pur (x.writes = ownMap v.own)) (sep (sl 129 4 v.rv x.reads.length (fcells opc (readOps ((i : Int) + 1) x.reads))) (sep (sl 101 2 v.ov v.own.length (pcells v.own)) (sep (sl 90 1 v.av x.aft.length (ptrs bs x.aft)) (sl 90 1 v.fv x.fore.length (ptrs bs x.fore)))))) := rfl
theorem Eng.upd_eq {e : Eng} {i : Nat} (hi : i < e.txs.length) (f : Tx → Tx) : e.upd i f = { e with txs := e.txs.set i (f (e.tx i)) } := by
 have := Eng.upd_set hi f
 show ({ e with txs := e.txs.modify i f } : Eng) = _
 rw [show e.txs.modify i f = e.txs.set i (f (e.tx i)) from this]
def raX (b : Nat) (bs : List Nat) (k : RenV) (e : Eng) (i : Nat) : HProp :=
 sep (blk (blkOf bs i) 103 (rtxF (k.v i) (e.tx i))) (sep (pur ((e.tx i).writes = ownMap (k.v i).own)) (sep (sl 129 4 (k.v i).rv (e.tx i).reads.length (fcells opc (readOps ((i : Int) + 1) (e.tx i).reads))) (sep (sl 101 2 (k.v i).ov (k.v i).own.length (pcells (k.v i).own)) (sep (sl 90 1 (k.v i).fv (e.tx i).fore.length (ptrs bs (e.tx i).fore)) (renX b bs k e i)))))
theorem _root_.Go.Sep.S.ra_open (h : S w0 w (renO b bs k e :: L)) (hi : i < e.txs.length) : S w0 w (sl 90 1 (k.v i).av (e.tx i).aft.length (ptrs bs (e.tx i).aft) :: raX b bs k e i :: L) := by
 refine (h.ren_tx hi).conv ?_
 simp only [all, raX]
 rw [rtxK_parts]
 ac_rfl
theorem _root_.Go.Sep.S.ra_see (h : S w0 w (raX b bs k e i :: L)) : w.cell? ⟨blkOf bs i, 10, none⟩ = some (k.v i).av ∧ w.frozen? ⟨blkOf bs i, 10, none⟩ = false :=
 ⟨h.sep_elim.blk_cell 10 rfl, h.sep_elim.blk_free 10⟩
theorem _root_.Go.Sep.S.ra_close {v' : Value} {j : Nat} (hi : i < e.txs.length) (h : S w0 w (sl 90 1 v' ((e.tx i).aft.length + 1) (ptrs bs (e.tx i).aft ++ [ptr bs j]) :: raX b bs k e i :: L)) :
  S w0 (w.setCell ⟨blkOf bs i, 10, none⟩ v') (renO b bs (k.set i { k.v i with av := v' }) (e.upd i fun x => { x with aft := x.aft ++ [j] }) :: L) := by
 let x : Tx := { e.tx i with aft := (e.tx i).aft ++ [j] }
 let v : RtxV := { k.v i with av := v' }
 have h1 := h.swap.sep_elim.blk_set 10 (by simp [rtxF]) v'
 have h3 : S w0 (w.setCell ⟨blkOf bs i, 10, none⟩ v') (rtxK bs i v x :: renX b bs k e i :: L) := by
  refine h1.conv ?_
  rw [rtxK_parts]
  have e1 : (rtxF (k.v i) (e.tx i)).set 10 v' = rtxF v x := rfl
  have e2 : ptrs bs (e.tx i).aft ++ [ptr bs j] = ptrs bs x.aft := by simp [x, ptrs]
  have e3 : (e.tx i).aft.length + 1 = x.aft.length := by simp [x]
  rw [e1, e2, e3]
  simp only [all]
  show _ = sep (sep _ (sep (pur ((e.tx i).writes = ownMap (k.v i).own)) (sep (sl _ 4 (k.v i).rv (e.tx i).reads.length (fcells opc (readOps ((i : Int) + 1) (e.tx i).reads))) (sep (sl _ 2 (k.v i).ov (k.v i).own.length (pcells (k.v i).own)) (sep (sl _ 1 v' _ _) (sl _ 1 (k.v i).fv (e.tx i).fore.length (ptrs bs (e.tx i).fore))))))) _
  ac_rfl
 rw [Eng.upd_eq hi]
 exact h3.ren_back hi
def rfX (b : Nat) (bs : List Nat) (k : RenV) (e : Eng) (i : Nat) : HProp :=
 sep (blk (blkOf bs i) 103 (rtxF (k.v i) (e.tx i))) (sep (pur ((e.tx i).writes = ownMap (k.v i).own)) (sep (sl 129 4 (k.v i).rv (e.tx i).reads.length (fcells opc (readOps ((i : Int) + 1) (e.tx i).reads))) (sep (sl 101 2 (k.v i).ov (k.v i).own.length (pcells (k.v i).own)) (sep (sl 90 1 (k.v i).av (e.tx i).aft.length (ptrs bs (e.tx i).aft)) (renX b bs k e i)))))
theorem _root_.Go.Sep.S.rf_open (h : S w0 w (renO b bs k e :: L)) (hi : i < e.txs.length) : S w0 w (sl 90 1 (k.v i).fv (e.tx i).fore.length (ptrs bs (e.tx i).fore) :: rfX b bs k e i :: L) := by
 refine (h.ren_tx hi).conv ?_
 simp only [all, rfX]
 rw [rtxK_parts]
 ac_rfl
theorem _root_.Go.Sep.S.rf_see (h : S w0 w (rfX b bs k e i :: L)) : w.cell? ⟨blkOf bs i, 11, none⟩ = some (k.v i).fv ∧ w.frozen? ⟨blkOf bs i, 11, none⟩ = false :=
 ⟨h.sep_elim.blk_cell 11 rfl, h.sep_elim.blk_free 11⟩
theorem _root_.Go.Sep.S.rf_close {v' : Value} {j : Nat} (hi : i < e.txs.length) (h : S w0 w (sl 90 1 v' ((e.tx i).fore.length + 1) (ptrs bs (e.tx i).fore ++ [ptr bs j]) :: rfX b bs k e i :: L)) :
  S w0 (w.setCell ⟨blkOf bs i, 11, none⟩ v') (renO b bs (k.set i { k.v i with fv := v' }) (e.upd i fun x => { x with fore := x.fore ++ [j] }) :: L) := by
 let x : Tx := { e.tx i with fore := (e.tx i).fore ++ [j] }
 let v : RtxV := { k.v i with fv := v' }
 have h1 := h.swap.sep_elim.blk_set 11 (by simp [rtxF]) v'
 have h3 : S w0 (w.setCell ⟨blkOf bs i, 11, none⟩ v') (rtxK bs i v x :: renX b bs k e i :: L) := by
  refine h1.conv ?_
  rw [rtxK_parts]
  have e1 : (rtxF (k.v i) (e.tx i)).set 11 v' = rtxF v x := rfl
  have e2 : ptrs bs (e.tx i).fore ++ [ptr bs j] = ptrs bs x.fore := by simp [x, ptrs]
  have e3 : (e.tx i).fore.length + 1 = x.fore.length := by simp [x]
  rw [e1, e2, e3]
  simp only [all]
  show _ = sep (sep _ (sep (pur ((e.tx i).writes = ownMap (k.v i).own)) (sep (sl _ 4 (k.v i).rv (e.tx i).reads.length (fcells opc (readOps ((i : Int) + 1) (e.tx i).reads))) (sep (sl _ 2 (k.v i).ov (k.v i).own.length (pcells (k.v i).own)) (sep (sl _ 1 (k.v i).av (e.tx i).aft.length (ptrs bs (e.tx i).aft)) (sl _ 1 v' _ _)))))) _
  ac_rfl
 rw [Eng.upd_eq hi]
 exact h3.ren_back hi
end Go.Proofs.YtmfngjclccehaaaGreatDoor
/- The program's engine: two transactions at once, one of which is ahead of the other one. No walk in sight. -/
namespace Go.Proofs.YtmfngjclccehaaaGreatDoor
open Go Go.RowKit Go.Sep
variable {w w0 : World} {L : List HProp} {b : Nat} {bs : List Nat} {k : EngV} {e : Eng} {i j : Nat}
theorem txK_parts (bs : List Nat) (b : Nat) (v : TxV) (x : Tx) : txK bs b v x = sep (blk b 123 (txF v x)) (sep (sl 139 2 v.rv x.reads.length (pcells x.reads)) (sep (mp encI (fun _ => True) v.mb (ienc x.writes)) (sep (sl 120 1 v.fv x.fore.length (ptrs bs x.fore)) (sl 120 1 v.av x.aft.length (ptrs bs x.aft))))) := rfl
theorem Eng.note_txs (e : Eng) (hi : i < e.txs.length) (hj : j < e.txs.length) (hij : i ≠ j) : (e.note i j).txs = (e.txs.set i { e.tx i with aft := (e.tx i).aft ++ [j] }).set j { e.tx j with fore := (e.tx j).fore ++ [i] } := by
 unfold Eng.note
 rw [Eng.upd_set (by rw [Eng.upd_len]; exact hj), Eng.upd_ne hij, Eng.upd_set hi]
def twoX (b : Nat) (bs : List Nat) (k : EngV) (e : Eng) (i j : Nat) : HProp :=
 sep (blk (blkOf bs i) 123 (txF (k.v i) (e.tx i))) (sep (sl 139 2 (k.v i).rv (e.tx i).reads.length (pcells (e.tx i).reads)) (sep (mp encI (fun _ => True) (k.v i).mb (ienc (e.tx i).writes)) (sep (sl 120 1 (k.v i).fv (e.tx i).fore.length (ptrs bs (e.tx i).fore))
  (sep (blk (blkOf bs j) 123 (txF (k.v j) (e.tx j))) (sep (sl 139 2 (k.v j).rv (e.tx j).reads.length (pcells (e.tx j).reads)) (sep (mp encI (fun _ => True) (k.v j).mb (ienc (e.tx j).writes)) (sep (sl 120 1 (k.v j).av (e.tx j).aft.length (ptrs bs (e.tx j).aft))
  (sep (pur (k.tv.length = e.txs.length)) (engG b bs k.txv k.hv k.wb e.txs.length e.count e.wr e.hist (((txPs bs k.tv e.txs).set i emp).set j emp))))))))))
theorem _root_.Go.Sep.S.eng_two (h : S w0 w (engO b bs k e :: L)) (hi : i < e.txs.length) (hj : j < e.txs.length) (hij : i ≠ j) :
  S w0 w (sl 120 1 (k.v i).av (e.tx i).aft.length (ptrs bs (e.tx i).aft) :: sl 120 1 (k.v j).fv (e.tx j).fore.length (ptrs bs (e.tx j).fore) :: twoX b bs k e i j :: L) := by
 obtain ⟨hp, h⟩ := h.sep_elim.pur_elim
 have hli : i < (txPs bs k.tv e.txs).length := by rw [txPs_length]; exact hi
 have h1 := h.engG_out i hli
 rw [txPs_get hli] at h1
 have hlj : j < ((txPs bs k.tv e.txs).set i emp).length := by rw [List.length_set, txPs_length]; exact hj
 have h2 := h1.swap.engG_out j hlj
 rw [List.getElem_set_ne hij, txPs_get] at h2
 have h3 := S.pur_intro hp h2
 refine h3.conv ?_
 simp only [all, twoX]
 rw [show (k.tv[i]?).getD .none = k.v i from rfl, show (k.tv[j]?).getD .none = k.v j from rfl, show (e.txs[i]?).getD .zero = e.tx i from rfl, show (e.txs[j]?).getD .zero = e.tx j from rfl, txK_parts, txK_parts]
 ac_rfl
theorem two_blks (w0 : World) (b : Nat) (bs : List Nat) (k : EngV) (e : Eng) (i j : Nat) : ∃ Y, (∀ W M, S w0 W (twoX b bs k e i j :: M) → S w0 W (blk (blkOf bs i) 123 (txF (k.v i) (e.tx i)) :: blk (blkOf bs j) 123 (txF (k.v j) (e.tx j)) :: Y :: M)) ∧
  Y = sep (sl 139 2 (k.v i).rv (e.tx i).reads.length (pcells (e.tx i).reads)) (sep (mp encI (fun _ => True) (k.v i).mb (ienc (e.tx i).writes)) (sep (sl 120 1 (k.v i).fv (e.tx i).fore.length (ptrs bs (e.tx i).fore))
  (sep (sl 139 2 (k.v j).rv (e.tx j).reads.length (pcells (e.tx j).reads)) (sep (mp encI (fun _ => True) (k.v j).mb (ienc (e.tx j).writes)) (sep (sl 120 1 (k.v j).av (e.tx j).aft.length (ptrs bs (e.tx j).aft))
  (sep (pur (k.tv.length = e.txs.length)) (engG b bs k.txv k.hv k.wb e.txs.length e.count e.wr e.hist (((txPs bs k.tv e.txs).set i emp).set j emp)))))))) :=
 ⟨_, fun W M hW => hW.conv (by simp only [all, twoX]; ac_rfl), rfl⟩
theorem _root_.Go.Sep.S.two_cells (h : S w0 w (twoX b bs k e i j :: L)) : w.cell? ⟨blkOf bs i, 10, none⟩ = some (k.v i).av ∧ w.cell? ⟨blkOf bs j, 9, none⟩ = some (k.v j).fv ∧ w.frozen? ⟨blkOf bs i, 10, none⟩ = false ∧ w.frozen? ⟨blkOf bs j, 9, none⟩ = false := by
 obtain ⟨Y, hY, _⟩ := two_blks w0 b bs k e i j
 have h1 := hY w L h
 exact ⟨h1.blk_cell 10 rfl, h1.tail.blk_cell 9 rfl, h1.blk_free 10, h1.tail.blk_free 9⟩
theorem _root_.Go.Sep.S.two_close {av fv : Value} (hi : i < e.txs.length) (hj : j < e.txs.length) (hij : i ≠ j) (h : S w0 w (sl 120 1 av ((e.tx i).aft.length + 1) (ptrs bs (e.tx i).aft ++ [ptr bs j]) :: sl 120 1 fv ((e.tx j).fore.length + 1) (ptrs bs (e.tx j).fore ++ [ptr bs i]) :: twoX b bs k e i j :: L)) :
  ∃ k', k'.txv = k.txv ∧ S w0 ((w.setCell ⟨blkOf bs i, 10, none⟩ av).setCell ⟨blkOf bs j, 9, none⟩ fv) (engO b bs k' (e.note i j) :: L) := by
 have h0 : S w0 w (twoX b bs k e i j :: sl 120 1 av ((e.tx i).aft.length + 1) (ptrs bs (e.tx i).aft ++ [ptr bs j]) :: sl 120 1 fv ((e.tx j).fore.length + 1) (ptrs bs (e.tx j).fore ++ [ptr bs i]) :: L) := h.rot3
 obtain ⟨Y, hY, rfl⟩ := two_blks w0 b bs k e i j
 have h1 := (hY _ _ h0).blk_set 10 (by simp [txF]) av
 have h2 := h1.swap.blk_set 9 (by simp [txF]) fv
 let xi : Tx := { e.tx i with aft := (e.tx i).aft ++ [j] }
 let xj : Tx := { e.tx j with fore := (e.tx j).fore ++ [i] }
 let vi : TxV := { k.v i with av := av }
 let vj : TxV := { k.v j with fv := fv }
 have hp : k.tv.length = e.txs.length := by
  have h3 : S w0 _ (pur (k.tv.length = e.txs.length) :: _) := h2.conv (M := pur (k.tv.length = e.txs.length) :: blk (blkOf bs j) 123 ((txF (k.v j) (e.tx j)).set 9 fv) :: blk (blkOf bs i) 123 ((txF (k.v i) (e.tx i)).set 10 av) :: sl 139 2 (k.v i).rv (e.tx i).reads.length (pcells (e.tx i).reads) :: mp encI (fun _ => True) (k.v i).mb (ienc (e.tx i).writes) :: sl 120 1 (k.v i).fv (e.tx i).fore.length (ptrs bs (e.tx i).fore) ::
   sl 139 2 (k.v j).rv (e.tx j).reads.length (pcells (e.tx j).reads) :: mp encI (fun _ => True) (k.v j).mb (ienc (e.tx j).writes) :: sl 120 1 (k.v j).av (e.tx j).aft.length (ptrs bs (e.tx j).aft) :: engG b bs k.txv k.hv k.wb e.txs.length e.count e.wr e.hist (((txPs bs k.tv e.txs).set i emp).set j emp) ::
   sl 120 1 av ((e.tx i).aft.length + 1) (ptrs bs (e.tx i).aft ++ [ptr bs j]) :: sl 120 1 fv ((e.tx j).fore.length + 1) (ptrs bs (e.tx j).fore ++ [ptr bs i]) :: L) (by simp only [all]; ac_rfl)
  exact h3.pur_elim.1
 have h3 : S w0 ((w.setCell ⟨blkOf bs i, 10, none⟩ av).setCell ⟨blkOf bs j, 9, none⟩ fv) (txK bs (blkOf bs j) vj xj :: engG b bs k.txv k.hv k.wb e.txs.length e.count e.wr e.hist (((txPs bs k.tv e.txs).set i emp).set j emp) :: txK bs (blkOf bs i) vi xi :: pur (k.tv.length = e.txs.length) :: L) := by
  refine h2.conv ?_
  rw [txK_parts, txK_parts]
  have e1 : (txF (k.v i) (e.tx i)).set 10 av = txF vi xi := rfl
  have e2 : (txF (k.v j) (e.tx j)).set 9 fv = txF vj xj := rfl
  have e3 : ptrs bs (e.tx i).aft ++ [ptr bs j] = ptrs bs xi.aft := by simp [ptrs, xi]
  have e4 : ptrs bs (e.tx j).fore ++ [ptr bs i] = ptrs bs xj.fore := by simp [ptrs, xj]
  have e5 : (e.tx i).aft.length + 1 = xi.aft.length := by simp [xi]
  have e6 : (e.tx j).fore.length + 1 = xj.fore.length := by simp [xj]
  rw [e1, e2, e3, e4, e5, e6]
  simp only [all]
  show _ = sep (sep _ (sep (sl _ 2 (k.v j).rv (e.tx j).reads.length (pcells (e.tx j).reads)) (sep (mp encI (fun _ => True) (k.v j).mb (ienc (e.tx j).writes)) (sep (sl _ 1 fv _ _) (sl _ 1 (k.v j).av (e.tx j).aft.length (ptrs bs (e.tx j).aft)))))) (sep _ (sep (sep _ (sep (sl _ 2 (k.v i).rv (e.tx i).reads.length (pcells (e.tx i).reads)) (sep (mp encI (fun _ => True) (k.v i).mb (ienc (e.tx i).writes)) (sep (sl _ 1 (k.v i).fv (e.tx i).fore.length (ptrs bs (e.tx i).fore)) (sl _ 1 av _ _))))) _))
  ac_rfl
 have hlj : j < ((txPs bs k.tv e.txs).set i emp).length := by rw [List.length_set, txPs_length]; exact hj
 have h4 := S.engG_in hlj h3
 rw [List.set_comm _ _ hij] at h4
 have hli : i < ((txPs bs k.tv e.txs).set j (txK bs (blkOf bs j) vj xj)).length := by rw [List.length_set, txPs_length]; exact hi
 have h5 := S.engG_in hli h4.swap
 rw [txPs_set hj (by omega), txPs_set (by simpa using hi) (by simp; omega)] at h5
 obtain ⟨_, h6⟩ := h5.swap.pur_elim
 refine ⟨(k.set j vj).set i vi, rfl, ?_⟩
 have hnt := Eng.note_txs e hi hj hij
 rw [List.set_comm _ _ hij] at hnt
 refine .sep_intro (.pur_intro ?_ ?_)
 ·rw [Eng.note_len]; simpa [EngV.set] using hp
 ·have e7 : engG b bs k.txv k.hv k.wb e.txs.length e.count e.wr e.hist (txPs bs ((k.tv.set j vj).set i vi) ((e.txs.set j xj).set i xi)) = engG b bs ((k.set j vj).set i vi).txv ((k.set j vj).set i vi).hv ((k.set j vj).set i vi).wb (e.note i j).txs.length (e.note i j).count (e.note i j).wr (e.note i j).hist (txPs bs ((k.set j vj).set i vi).tv (e.note i j).txs) := by
   rw [hnt]
   simp only [EngV.set, List.length_set]
   rfl
  rw [← e7]; exact h6
end Go.Proofs.YtmfngjclccehaaaGreatDoor
/- Regions in which slices of structs are made: what each step leaves, whatever the order. -/
namespace Go.Sep
open Go Go.RowKit
variable {w w0 : World} {L : List HProp}
theorem S.alloc_slK {e size : Nat} (h : S w0 w L) (xs : List Value) (n : Nat) (hl : xs.length = n * size) (hm : n ≤ maxLen) :
  S w0 (w.alloc (.cells xs.toArray e)) (sl e size (.slice (some ⟨w.heap.size, 0, none⟩) n n) n xs :: L) := (h.alloc xs.toArray e).sl_blk (by simpa using hl) hm
theorem S.news_slK {e size : Nat} {ad : Option Addr} {m c : Nat} {xs : List Value} (h : S w0 w L) (k : Nat) (hk : L[k]? = some (sl e size (.slice ad m c) m xs)) : ∀ j u, xs[j]? = some u → ∃ b, ad = some b ∧ w.cell? (b.add j) = some u := by
 intro j u hj
 obtain ⟨a, cap, hv, _, _, hc⟩ := (h.nth k hk).sl_val
 obtain ⟨g, o, ha, hcell, _⟩ := hc j u hj
 simp only [Value.slice.injEq] at hv
 refine ⟨⟨g, o, none⟩, by rw [hv.1, ha], ?_⟩
 have e1 : (⟨g, o, none⟩ : Addr).add j = ⟨g, o + j, none⟩ := by unfold Addr.add; split <;> simp_all
 rw [e1]; exact hcell
theorem S.norm0K {e size : Nat} {v : Value} {n : Nat} {xs : List Value} (h : S w0 w (sl e size v (0 + n) ([] ++ xs) :: L)) : S w0 w (sl e size v n xs :: L) := by
 rw [Nat.zero_add] at h; exact h
theorem S.rest {M N : List HProp} (h : S w0 w (M ++ N)) : S w0 w N := (S.pack M N h).tail
variable {P : Program}
theorem step_appK {ops : Array Oper} {o : Oper} {a : Act} {K : Act → World → Prop} {Q : Exit → Act → World → Prop} {E : Prop} (hg : o.guard = none) (s x : Operand) (t : TypeId)
  (hop : o.op = .call { callee := .builtin .append, args := #[s, x], argTypes := #[t, t] })
  (e : TypeId) (i : TypeInfo) (z : Value) (size bytes : Nat) (ht : P.underlying t = some (.slice e)) (hi : P.info? e = some i) (hz : i.zero = some z)
  (hsize : i.size = size) (hby : i.bytes = bytes) (hzs : z.cells.size = size) (hsz : 0 < size) (hW : S w0 w L) (ix : Nat) {v : Value} {n : Nat} {xs : List Value} (hix : L[ix]? = some (sl e size v n xs)) (hv : a.eval s = v)
  (ad : Option Addr) (m c : Nat) (news : List Value) (hx : a.eval x = .slice ad m c) (hl : news.length = m * size) (hnews : ∀ j u, news[j]? = some u → ∃ b, ad = some b ∧ w.cell? (b.add j) = some u) (h1 : ∀ u ∈ news, u.oneCell' = true)
  (h63 : n + m ≤ 1000000) (hb8 : bytes ≤ 100)
  (h : ∀ v' w', S w0 w' (sl e size v' (n + m) (xs ++ news) :: L.eraseIdx ix) → K (a.put o.dst v') w') : if Region.wanted o (yielded ops a.tmps) = true then Oper.wp P o a w K Q else E :=
 step_append hg s x t hop e i z size bytes ht hi hz hsize hby hzs hsz (hW.nth ix hix) hv ad m c news hx hl hnews h1 (by unfold maxLen; omega)
  (by have := Nat.mul_le_mul h63 hb8; omega) h
end Go.Sep
/- Regions that draw their order and whose last stores turn what their loads read: what is held is asked only till the first of those stores has come up. No program in sight. -/
namespace Go.Sep
open Go
section
open Go.RowKit
variable {P : Program} {w w0 : World} {L : List HProp}
theorem S.alloc_slU {e size : Nat} (h : S w0 w L) (xs : List Value) (n : Nat) (hl : xs.length = n * size) (hm : n ≤ maxLen) :
  S w0 (w.alloc (.cells xs.toArray e)) (sl e size (.slice (some ⟨w.heap.size, 0, none⟩) n n) n xs :: L) := (h.alloc xs.toArray e).sl_blk (by simpa using hl) hm
theorem step_appU {ops : Array Oper} {o : Oper} {a : Act} {K : Act → World → Prop} {Q : Exit → Act → World → Prop} {E : Prop} (hg : o.guard = none) (s x : Operand) (t : TypeId)
  (hop : o.op = .call { callee := .builtin .append, args := #[s, x], argTypes := #[t, t] })
  (e : TypeId) (i : TypeInfo) (z : Value) (size bytes : Nat) (ht : P.underlying t = some (.slice e)) (hi : P.info? e = some i) (hz : i.zero = some z)
  (hsize : i.size = size) (hby : i.bytes = bytes) (hzs : z.cells.size = size) (hsz : 0 < size) (hW : S w0 w L) (ix : Nat) {v : Value} {n : Nat} {xs : List Value} (hix : L[ix]? = some (sl e size v n xs)) (hv : a.eval s = v)
  (ad : Option Addr) (m c : Nat) (news : List Value) (hx : a.eval x = .slice ad m c) (hl : news.length = m * size) (hnews : ∀ j u, news[j]? = some u → ∃ b, ad = some b ∧ w.cell? (b.add j) = some u) (h1 : ∀ u ∈ news, u.oneCell' = true)
  (h63 : n + m ≤ 1000000000000) (hb8 : bytes ≤ 100)
  (h : ∀ v' w', S w0 w' (sl e size v' (n + m) (xs ++ news) :: L.eraseIdx ix) → K (a.put o.dst v') w') : if Region.wanted o (yielded ops a.tmps) = true then Oper.wp P o a w K Q else E :=
 step_append hg s x t hop e i z size bytes ht hi hz hsize hby hzs hsz (hW.nth ix hix) hv ad m c news hx hl hnews h1 (by unfold maxLen; omega)
  (by have := Nat.mul_le_mul h63 hb8; omega) h
end
variable {P : Program} {md : Region.Mode} {ops : Array Oper} {Q : Exit → Act → World → Prop} {S : World → Prop} {u : Nat}
def anyU (P : Program) (md : Region.Mode) (ops : Array Oper) (Q : Exit → Act → World → Prop) (S : World → Prop) (u : Nat) : Nat → Array Bool → Act → World → Prop
 | 0, listed, a, w => Region.ready md ops listed = [] ∧ Q .normal a w
 | n + 1, listed, a, w => (Region.ready md ops listed = [] → Q .normal a w) ∧
  ∀ i ∈ Region.ready md ops listed, wpOp P ops Q i (fun a' w' => ((listed.setIfInBounds i true).getD u true = false → S w') ∧ anyU P md ops Q S u n (listed.setIfInBounds i true) a' w') a w
theorem any_of_U : ∀ (n : Nat) (listed : Array Bool) (a : Act) (w : World), anyU P md ops Q S u n listed a w → wpAny P md ops Q n listed a w
 | 0, _, _, _, h => h
 | n + 1, _, _, _, h => ⟨h.1, fun i hi => wpOp_mono (fun a' w' g => any_of_U n _ a' w' g.2) (h.2 i hi)⟩
theorem region_U {id : Nat} {a : Act} {w : World} (hm : P.follows .mixedOrders = true) (hS : S w.drew)
  (h : S w.drew → anyU P .any ops Q S u ops.size (Array.replicate ops.size false) a w.drew) : (Code.region id ops true).wp P Q a w :=
 wp_region_any hm (any_of_U _ _ _ _ (h hS))
def waitsFor (md : Region.Mode) (ops : Array Oper) (u i : Nat) : Bool := match ops[u]? with
 | some o => o.after.any fun e => Region.binds md e && e.on == i
 | none => false
theorem not_listed {listed : Array Bool} {i : Nat} (h : listed.getD i true = false) : listed.getD i false = false := by
 rcases Nat.lt_or_ge i listed.size with h' | h'
 ·simp [h'] at h ⊢; exact h
 ·simp [Array.getElem?_eq_none h'] at h
theorem waits_not_ready {listed : Array Bool} {i : Nat} (hw : waitsFor md ops u i = true) (hi : listed.getD i true = false) : u ∉ Region.ready md ops listed := by
 intro hu
 obtain ⟨_, o, ho, hall⟩ := mem_ready.1 hu
 unfold waitsFor at hw
 rw [ho] at hw
 simp only [Array.any_eq_true, Bool.and_eq_true, beq_iff_eq] at hw
 obtain ⟨j, hj, hb, he⟩ := hw
 have := hall _ (Array.getElem_mem hj) hb
 rw [he, not_listed hi] at this
 cases this
theorem anyU_first {i : Nat} {oi : Oper} {v : Value} {c : Bool} (hi : ops[i]? = some oi) (hsel : Region.noSelect ops = true) (hQ : ∀ d a w, Q (.panic d) (a.put oi.dst v) w → Q (.panic d) a w) (hiu : i ≠ u) (hc : c = true → waitsFor md ops u i = true) :
  ∀ (n : Nat) (listed : Array Bool) (a : Act) (w : World), (c = true → listed.getD u true = false) → Region.free md ops listed i = true → i ∈ Region.ready md ops listed → YieldsIf P ops (fun w => c = true → S w) oi v a → (c = true → S w) → (listed.getD u true = false → S w) →
   anyU P md ops Q S u n (listed.setIfInBounds i true) (a.put oi.dst v) w → anyU P md ops Q S u (n + 1) listed a w := by
 have fr : ∀ (listed : Array Bool) (j : Nat), j ≠ i → Region.free md ops listed i = true → Region.free md ops (listed.setIfInBounds j true) i = true := by
  intro listed j hji h
  unfold Region.free at h ⊢
  rw [hi] at h ⊢
  simp only [List.all_eq_true, List.mem_range] at h ⊢
  intro k hk
  have hk' := h k hk
  by_cases hjk : j = k
  ·subst hjk
   rcases Nat.lt_or_ge j listed.size with hl | hl
   ·simp [hl]
   ·rw [Array.setIfInBounds_eq_of_size_le hl]; exact hk'
  ·rw [getD_set_ne true hjk]; exact hk'
 intro n
 induction n with
 | zero =>
  intro listed a w _ _ hr hy hS hU H
  refine ⟨fun h => (by rw [h] at hr; cases hr), fun j hj => ?_⟩
  by_cases hji : j = i
  ·subst hji
   exact hy.wpOp hi hS ⟨fun hu => hU (by rw [getD_set_ne true hiu] at hu; exact hu), H⟩
  ·have := ready_mono hj hji
   rw [H.1] at this
   cases this
 | succ n ih =>
  intro listed a w hcu hfree hr hy hS hU H
  refine ⟨fun h => (by rw [h] at hr; cases hr), fun j hj => ?_⟩
  by_cases hji : j = i
  ·subst hji
   exact hy.wpOp hi hS ⟨fun hu => hU (by rw [getD_set_ne true hiu] at hu; exact hu), H⟩
  ·have h1 := H.2 j (ready_mono hj hji)
   obtain ⟨hjun, oj, hoj, hall⟩ := mem_ready.1 hj
   have hir := (mem_ready.1 hr).1
   have hnot : ∀ e ∈ oj.after, Region.binds md e = true → e.on ≠ i := fun e he hb heq => by
    have g := hall e he hb
    rw [heq, not_listed hir] at g; cases g
   have hap := Region.free_spec hi hfree j oj hoj hji hjun hnot
   have h2 := wpOp_putIf hoj hap (fun cs b => Region.noSelect_spec hsel i oi cs b hi) (fun cs b => Region.noSelect_spec hsel j oj cs b hoj) hQ hy h1
   have hcomm : ((listed.setIfInBounds i true).setIfInBounds j true) = ((listed.setIfInBounds j true).setIfInBounds i true) := Array.setIfInBounds_comm _ _ (Ne.symm hji)
   rw [hcomm] at h2
   refine wpOp_mono (fun a' w' h3 => ?_) h2
   obtain ⟨hy', hS', H'⟩ := h3
   have hS1 : (listed.setIfInBounds j true).getD u true = false → S w' := fun hu => hS' (by rw [getD_set_ne true hiu]; exact hu)
   have hcu' : c = true → (listed.setIfInBounds j true).getD u true = false := fun hcc => by
    have hju : j ≠ u := fun e => by subst e; exact waits_not_ready (hc hcc) hir hj
    rw [getD_set_ne true hju]; exact hcu hcc
   exact ⟨hS1, ih _ a' w' hcu' (fr _ _ hji hfree) (ready_mono hr (Ne.symm hji)) hy' (fun hcc => hS1 (hcu' hcc)) hS1 H'⟩
theorem anyU_take {i : Nat} {oi : Oper} {v : Value} {n : Nat} {listed : Array Bool} {a : Act} {w : World} (hi : ops[i]? = some oi)
  (hs : (Region.noSelect ops && waitsFor md ops u i && !(i == u) && !(listed.getD u true) && Region.free md ops listed i && (Region.ready md ops listed).contains i) = true)
  (hQ : ∀ c a w, Q (.panic c) (a.put oi.dst v) w → Q (.panic c) a w) (hy : YieldsIf P ops S oi v a) (hS : S w)
  (h : anyU P md ops Q S u n (listed.setIfInBounds i true) (a.put oi.dst v) w) : anyU P md ops Q S u (n + 1) listed a w := by
 simp only [Bool.and_eq_true, Bool.not_eq_true', beq_eq_false_iff_ne, ne_eq] at hs
 obtain ⟨⟨⟨⟨⟨h1, h2⟩, h3⟩, h4⟩, h5⟩, h6⟩ := hs
 exact anyU_first (c := true) hi h1 hQ h3 (fun _ => h2) n listed a w (fun _ => h4) h5 (by simpa using h6) (by unfold YieldsIf at hy ⊢; exact hy.imp (fun ⟨a, b⟩ => ⟨a, fun w hw => b w (hw rfl)⟩) id) (fun _ => hS) (fun _ => hS) h
theorem anyU_pure {i : Nat} {oi : Oper} {v : Value} {n : Nat} {listed : Array Bool} {a : Act} {w : World} (hi : ops[i]? = some oi)
  (hs : (Region.noSelect ops && !(i == u) && Region.free md ops listed i && (Region.ready md ops listed).contains i) = true)
  (hQ : ∀ c a w, Q (.panic c) (a.put oi.dst v) w → Q (.panic c) a w) (hy : YieldsIf P ops (fun _ => True) oi v a) (hS : listed.getD u true = false → S w)
  (h : anyU P md ops Q S u n (listed.setIfInBounds i true) (a.put oi.dst v) w) : anyU P md ops Q S u (n + 1) listed a w := by
 simp only [Bool.and_eq_true, Bool.not_eq_true', beq_eq_false_iff_ne, ne_eq] at hs
 obtain ⟨⟨⟨h1, h3⟩, h5⟩, h6⟩ := hs
 exact anyU_first (c := false) hi h1 hQ h3 (by simp) n listed a w (by simp) h5 (by simpa using h6) (by unfold YieldsIf at hy ⊢; exact hy.imp (fun ⟨a, b⟩ => ⟨a, fun w _ => b w trivial⟩) id) (by simp) hS h
def NextU (P : Program) (md : Region.Mode) (ops : Array Oper) (Q : Exit → Act → World → Prop) (S : World → Prop) (u : Nat) (n : Nat) (listed : Array Bool) (a : Act) (w : World) (rs : List Nat) : Prop :=
 ∀ i ∈ rs, wpOp P ops Q i (fun a' w' => ((listed.setIfInBounds i true).getD u true = false → S w') ∧ anyU P md ops Q S u n (listed.setIfInBounds i true) a' w') a w
theorem NextU.nil {n : Nat} {listed : Array Bool} {a : Act} {w : World} : NextU P md ops Q S u n listed a w [] := fun _ h => by cases h
theorem NextU.cons {n : Nat} {listed : Array Bool} {a : Act} {w : World} {i : Nat} {o : Oper} {rs : List Nat} (ho : ops[i]? = some o)
  (h : ∀ K' : Act → World → Prop, Shut (∀ a w, ((listed.setIfInBounds i true).getD u true = false → S w) → anyU P md ops Q S u n (listed.setIfInBounds i true) a w → K' a w) → if Region.wanted o (yielded ops a.tmps) = true then Oper.wp P o a w K' Q else K' (a.put o.dst undef) w)
  (hs : NextU P md ops Q S u n listed a w rs) : NextU P md ops Q S u n listed a w (i :: rs) := fun j hj => by
 rcases List.mem_cons.1 hj with rfl | hj
 ·exact wpOp_step ho (fun K' hK => h K' (fun a w hS hW => hK a w ⟨hS, hW⟩))
 ·exact hs j hj
theorem anyU_next {rs : List Nat} {n : Nat} {listed : Array Bool} {a : Act} {w : World} (hr : Region.ready md ops listed = rs) (hne : rs ≠ [])
  (h : NextU P md ops Q S u n listed a w rs) : anyU P md ops Q S u (n + 1) listed a w :=
 ⟨fun h0 => absurd (hr ▸ h0) hne, hr ▸ h⟩
theorem anyU_done {listed : Array Bool} {a : Act} {w : World} (hr : Region.ready md ops listed = []) (h : Q .normal a w) : ∀ n, anyU P md ops Q S u n listed a w
 | 0 => ⟨hr, h⟩
 | _ + 1 => ⟨fun _ => h, by rw [hr]; simp⟩
theorem anyU_world {n : Nat} {listed : Array Bool} {a : Act} {w : World} (q : World → Prop) (hq : q w) (h : ∀ w', q w' → anyU P md ops Q S u n listed a w') : anyU P md ops Q S u n listed a w := h w hq
theorem anyH_world {n : Nat} {listed : Array Bool} {a : Act} {w : World} (q : World → Prop) (hq : q w) (h : ∀ w', q w' → wpAnyH P md ops Q S n listed a w') : wpAnyH P md ops Q S n listed a w := h w hq
theorem step_mapu {ops : Array Oper} {o : Oper} {a : Act} {w w' : World} {K : Act → World → Prop} {Q : Exit → Act → World → Prop} {E : Prop} (hg : o.guard = none) (t : TypeId) (m k v : Operand) (hop : o.op = .mapUpdate t m k v)
  {M Kv V : Value} (hm : a.eval m = M) (hk : a.eval k = Kv) (hv : a.eval v = V) (hr : (Instr.mapUpdate t M Kv V).run P w = .ok () w') (h : K (a.put o.dst undef) w') : if Region.wanted o (yielded ops a.tmps) = true then Oper.wp P o a w K Q else E := by
 rw [if_pos (by simp [Region.wanted, hg])]
 unfold Oper.wp execOp
 simp only [hop, hm, hk, hv, Sem.run_bind, hr, Result.andThen_ok, Sem.run_pure]
 exact h
theorem step_mapuE {ops : Array Oper} {o : Oper} {a : Act} {w : World} {R : World → Prop} {K : Act → World → Prop} {Q : Exit → Act → World → Prop} {E : Prop} (hg : o.guard = none) (t : TypeId) (m k v : Operand) (hop : o.op = .mapUpdate t m k v)
  {M Kv V : Value} (hm : a.eval m = M) (hk : a.eval k = Kv) (hv : a.eval v = V) (hr : ∃ w', (Instr.mapUpdate t M Kv V).run P w = .ok () w' ∧ R w') (h : ∀ w', R w' → K (a.put o.dst undef) w') : if Region.wanted o (yielded ops a.tmps) = true then Oper.wp P o a w K Q else E := by
 obtain ⟨w', h1, h2⟩ := hr
 exact step_mapu hg t m k v hop hm hk hv h1 (h w' h2)
theorem act_any {K : Act → World → Prop} {a : Act} {w : World} (q : World → Prop) (hq : q w) (h : ∀ w', q w' → K a w') : K a w := h w hq
end Go.Sep
/- The program's engine: one transaction is noted to be ahead of another one. -/
namespace Go.Proofs.YtmfngjclccehaaaGreatDoor
open Go Go.RowKit Go.Sep
theorem Tryz.info120 : (Tryz.prog.info? 120).map (fun i => (i.zero, i.size, i.bytes)) = some (some (.pointer none), 1, 8) := by kernel_rfl
theorem blk_ne {w : World} {b : Nat} {bs : List Nat} {k : EngV} {e : Eng} {i j : Nat} (h : EngC w b bs k e) (hi : i < e.txs.length) (hj : j < e.txs.length) (hij : i ≠ j) : blkOf bs i ≠ blkOf bs j := by
 obtain ⟨h1, h2⟩ := h.len
 unfold blkOf
 rw [List.getElem?_eq_getElem (by omega), List.getElem?_eq_getElem (by omega)]
 intro he
 exact hij ((List.getElem_inj h2).1 he)
theorem note_refs {e : Eng} {i j : Nat} (hr : ∀ x ∈ e.txs, ∀ m ∈ x.fore ++ x.aft, m < e.txs.length) (hi : i < e.txs.length) (hj : j < e.txs.length) : ∀ x ∈ (e.note i j).txs, ∀ m ∈ x.fore ++ x.aft, m < (e.note i j).txs.length := by
 rw [Eng.note_len]
 unfold Eng.note
 refine Eng.upd_all (p := fun x => ∀ m ∈ x.fore ++ x.aft, m < e.txs.length) (Eng.upd_all (p := fun x => ∀ m ∈ x.fore ++ x.aft, m < e.txs.length) hr fun hi => ?_) fun hj' => ?_
 ·intro m hm
  simp only [List.mem_append, List.mem_singleton] at hm
  rcases hm with hm | hm | rfl
  ·exact hr _ (Eng.tx_mem hi) m (by simp [hm])
  ·exact hr _ (Eng.tx_mem hi) m (by simp [hm])
  ·exact hj
 ·have h1 : ∀ m ∈ ((e.upd i fun x => { x with aft := x.aft ++ [j] }).tx j).fore ++ ((e.upd i fun x => { x with aft := x.aft ++ [j] }).tx j).aft, m < e.txs.length :=
   Eng.upd_all (p := fun x => ∀ m ∈ x.fore ++ x.aft, m < e.txs.length) hr (fun hi => by
    intro m hm
    simp only [List.mem_append, List.mem_singleton] at hm
    rcases hm with hm | hm | rfl
    ·exact hr _ (Eng.tx_mem hi) m (by simp [hm])
    ·exact hr _ (Eng.tx_mem hi) m (by simp [hm])
    ·exact hj) _ (Eng.tx_mem hj')
  intro m hm
  simp only [List.mem_append, List.mem_singleton] at hm h1
  rcases hm with (hm | rfl) | hm
  ·exact h1 m (.inl hm)
  ·exact hi
  ·exact h1 m (.inr hm)
theorem one_ptr (bs : List Nat) (j : Nat) : ∀ u ∈ [ptr bs j], u.oneCell' = true := by
 intro u hu; simp only [List.mem_singleton] at hu; subst hu; rfl
set_option maxRecDepth 40000 in
set_option maxHeartbeats 8000000 in
theorem noted_any (w0 w : World) (b : Nat) (bs : List Nat) (k : EngV) (e : Eng) (i j : Nat) (L : List HProp) (hs : S w0 w (engO b bs k e :: L)) (hi : i < e.txs.length) (hj : j < e.txs.length) (hij : i ≠ j)
  (ha : (e.tx i).aft.length + 1 ≤ 1000000000000) (hf : (e.tx j).fore.length + 1 ≤ 1000000000000) (hr : ∀ x ∈ e.txs, ∀ m ∈ x.fore ++ x.aft, m < e.txs.length) :
  Calls Tryz.prog 83 #[.pointer (some ⟨b, 0, none⟩), ptr bs i, ptr bs j] w fun r w' => ∃ k', k'.txv = k.txv ∧ r = .returned (.bool (!((e.note i j).bad i j))) ∧ S w0 w' (engO b bs k' (e.note i j) :: L) := by
 obtain ⟨i0, hi0, hz0, hz1, hz2⟩ := info_parts Tryz.info120
 have h2 := hs.eng_two hi hj hij
 obtain ⟨aa, ca, hva, hca, hca2, _⟩ := h2.sl_val
 obtain ⟨af, cf, hvf, hcf, hcf2, _⟩ := h2.swap.sl_val
 have hbi : blkOf bs i ≠ blkOf bs j := blk_ne hs.eng_c.2 hi hj hij
 have hc2 : ∀ (W : World) v x, W.cell? ⟨blkOf bs j, 9, none⟩ = some x → (W.setCell ⟨blkOf bs i, 10, none⟩ v).cell? ⟨blkOf bs j, 9, none⟩ = some x := fun W v x h => by rw [World.cell?_setCell_far _ _ _ _ hbi]; exact h
 have hc3 : ∀ (W : World) v, W.frozen? ⟨blkOf bs j, 9, none⟩ = false → (W.setCell ⟨blkOf bs i, 10, none⟩ v).frozen? ⟨blkOf bs j, 9, none⟩ = false := fun W v h => by simpa using h
 have hc : ∀ W M, S w0 W (twoX b bs k e i j :: M) → W.cell? ⟨blkOf bs i, 10, none⟩ = some (k.v i).av ∧ W.cell? ⟨blkOf bs j, 9, none⟩ = some (k.v j).fv ∧ W.frozen? ⟨blkOf bs i, 10, none⟩ = false ∧ W.frozen? ⟨blkOf bs j, 9, none⟩ = false := fun W M h => h.two_cells
 have hq : ∀ W M, S w0 W (twoX b bs k e i j :: M) → W.cell? ⟨blkOf bs i, 10, none⟩ = some (.slice aa (e.tx i).aft.length ca) ∧ W.cell? ⟨blkOf bs j, 9, none⟩ = some (.slice af (e.tx j).fore.length cf) := fun W M h => by
  have := h.two_cells; rw [hva, hvf] at this; exact ⟨this.1, this.2.1⟩
 rw [hva, hvf] at h2
 have hcl : ∀ W av fv, S w0 W (sl 120 1 av ((e.tx i).aft.length + 1) (ptrs bs (e.tx i).aft ++ [ptr bs j]) :: sl 120 1 fv ((e.tx j).fore.length + 1) (ptrs bs (e.tx j).fore ++ [ptr bs i]) :: twoX b bs k e i j :: L) → ∃ k', k'.txv = k.txv ∧ S w0 ((W.setCell ⟨blkOf bs i, 10, none⟩ av).setCell ⟨blkOf bs j, 9, none⟩ fv) (engO b bs k' (e.note i j) :: L) := fun W av fv h => h.two_close hi hj hij
 have HS0 := hid h2; have HCL := hid hcl; have HQ := hid hq; have HC := hid hc; have HC2 := hid hc2; have HC3 := hid hc3; have HA := hid ha; have HF := hid hf
 clear hs h2 hcl hq hc hc2 hc3 hbi ha hf hca hca2 hcf hcf2 hva hvf
 have HR := hid (note_refs hr hi hj); have HI := hid hi; have HJ := hid hj
 have HLN := hid (Eng.note_len e i j)
 clear hr hi hj hij
 unfold ptr
 go_enter Tryz.func83, Tryz.ntmps83
 go_wp2_with fail
 go_cut [] (fun wx => ∃ k', k'.txv = k.txv ∧ S w0 wx (engO b bs k' (e.note i j) :: L))
 case first =>
  refine region_U (S := fun w' => w'.cell? ⟨blkOf bs i, 10, none⟩ = some (.slice aa (e.tx i).aft.length ca) ∧ w'.cell? ⟨blkOf bs j, 9, none⟩ = some (.slice af (e.tx j).fore.length cf)) (u := 18) (by kernel_rfl) (HQ.out _ _ (HS0.out.drew.nth 2 rfl)) (fun hHeld => ?_)
  refine anyU_take (i := 0) (v := ?_) rfl (by kernel_rfl) (fun _ _ _ h => h) (Or.inl ⟨by rfl, ?_⟩) hHeld ?_
  rotate_left
  ·(intro w hSw; (try dsimp only at hSw); go_simp) <;> with_reducible rfl
  try simp only [Act.put, List.setIfInBounds_toArray]
  refine anyU_pure (i := 1) (v := ?_) rfl (by kernel_rfl) (fun _ _ _ h => h) (Or.inl ⟨by rfl, ?_⟩) (fun _ => hHeld) ?_
  rotate_left
  ·(intro w _; go_simp) <;> with_reducible rfl
  try simp only [Act.put]
  refine anyU_take (i := 2) (v := ?_) rfl (by kernel_rfl) (fun _ _ _ h => h) (Or.inl ⟨by rfl, ?_⟩) hHeld ?_
  rotate_left
  ·(intro w hSw; (try dsimp only at hSw); go_simp) <;> with_reducible rfl
  try simp only [Act.put]
  refine anyU_take (i := 3) (v := ?_) rfl (by kernel_rfl) (fun _ _ _ h => h) (Or.inl ⟨by rfl, ?_⟩) hHeld ?_
  rotate_left
  ·(intro w hSw; (try dsimp only at hSw); go_simp) <;> with_reducible rfl
  try simp only [Act.put]
  refine anyU_take (i := 4) (v := ?_) rfl (by kernel_rfl) (fun _ _ _ h => h) (Or.inl ⟨by rfl, ?_⟩) hHeld ?_
  rotate_left
  ·(intro w hSw; (try dsimp only at hSw); go_simp) <;> with_reducible rfl
  try simp only [Act.put]
  refine anyU_take (i := 5) (v := ?_) rfl (by kernel_rfl) (fun _ _ _ h => h) (Or.inl ⟨by rfl, ?_⟩) hHeld ?_
  rotate_left
  ·(intro w hSw; (try dsimp only at hSw); go_simp) <;> with_reducible rfl
  try simp only [Act.put]
  refine anyU_take (i := 6) (v := ?_) rfl (by kernel_rfl) (fun _ _ _ h => h) (Or.inl ⟨by rfl, ?_⟩) hHeld ?_
  rotate_left
  ·(intro w hSw; (try dsimp only at hSw); go_simp) <;> with_reducible rfl
  try simp only [Act.put]
  refine anyU_pure (i := 9) (v := ?_) rfl (by kernel_rfl) (fun _ _ _ h => h) (Or.inl ⟨by rfl, ?_⟩) (fun _ => hHeld) ?_
  rotate_left
  ·(intro w _; go_simp) <;> with_reducible rfl
  try simp only [Act.put]
  refine anyU_pure (i := 10) (v := ?_) rfl (by kernel_rfl) (fun _ _ _ h => h) (Or.inl ⟨by rfl, ?_⟩) (fun _ => hHeld) ?_
  rotate_left
  ·(intro w _; go_simp) <;> with_reducible rfl
  try simp only [Act.put]
  refine anyU_pure (i := 11) (v := ?_) rfl (by kernel_rfl) (fun _ _ _ h => h) (Or.inl ⟨by rfl, ?_⟩) (fun _ => hHeld) ?_
  rotate_left
  ·(intro w _; go_simp) <;> with_reducible rfl
  try simp only [Act.put]
  refine anyU_take (i := 12) (v := ?_) rfl (by kernel_rfl) (fun _ _ _ h => h) (Or.inl ⟨by rfl, ?_⟩) hHeld ?_
  rotate_left
  ·(intro w hSw; (try dsimp only at hSw); go_simp) <;> with_reducible rfl
  try simp only [Act.put]
  refine anyU_pure (i := 13) (v := ?_) rfl (by kernel_rfl) (fun _ _ _ h => h) (Or.inl ⟨by rfl, ?_⟩) (fun _ => hHeld) ?_
  rotate_left
  ·(intro w _; go_simp) <;> with_reducible rfl
  try simp only [Act.put]
  have HS := hid HS0.out.drew
  clear hHeld
  refine anyU_world (fun w => Hid (S w0 w _)) HS (fun w1 HS => ?_)
  clear HS0
  refine anyU_next (rs := [7, 14]) (by kernel_rfl) (by simp) ?_
  refine NextU.cons rfl (fun K hK => ?_) ?_
  ·go_simp
   replace HS := hid (HS.out.alloc_slU (e := 120) (size := 1) [ptr bs j] 1 rfl (by unfold maxLen; omega))
   generalize w1.heap.size = b7 at HS ⊢
   refine act_any (fun w => Hid (S w0 w _)) HS (fun w2 HS => ?_)
   refine hK.out _ _ (fun _ => (HQ.out _ _ (HS.out.nth 3 rfl))) ?_
   clear hK K
   refine anyU_next (rs := [8, 14]) (by kernel_rfl) (by simp) ?_
   refine NextU.cons rfl (fun K hK => ?_) ?_
   ·refine step_appU rfl (.tmp 14) (.tmp 16) 65 rfl 120 i0 _ 1 8 Tryz.underlying65 hi0 hz0 hz1 hz2 rfl (by decide) HS.out 1 (by rfl) (by rfl) _ 1 1 [ptr bs j] (by rfl) rfl (HS.out.news_slK 0 (by rfl)) (one_ptr bs j) HA.out (by decide) ?_
    intro v8 w3 hs
    replace HS := hid hs
    clear hs
    obtain ⟨p8, c8, rfl, _, _, _⟩ := HS.out.sl_val
    refine hK.out _ _ (fun _ => (HQ.out _ _ (HS.out.nth 3 rfl))) ?_
    clear hK K
    try simp only [Act.put]
    refine anyU_next (rs := [14]) (by kernel_rfl) (by simp) ?_
    refine NextU.cons rfl (fun K hK => ?_) ?_
    ·go_simp
     replace HS := hid (HS.out.alloc_slU (e := 120) (size := 1) [ptr bs i] 1 rfl (by unfold maxLen; omega))
     generalize w3.heap.size = b14 at HS ⊢
     refine act_any (fun w => Hid (S w0 w _)) HS (fun w4 HS => ?_)
     refine hK.out _ _ (fun _ => (HQ.out _ _ (HS.out.nth 4 rfl))) ?_
     clear hK K
     refine anyU_next (rs := [15]) (by kernel_rfl) (by simp) ?_
     refine NextU.cons rfl (fun K hK => ?_) ?_
     ·refine step_appU rfl (.tmp 21) (.tmp 23) 65 rfl 120 i0 _ 1 8 Tryz.underlying65 hi0 hz0 hz1 hz2 rfl (by decide) HS.out 3 (by rfl) (by rfl) _ 1 1 [ptr bs i] (by rfl) rfl (HS.out.news_slK 0 (by rfl)) (one_ptr bs i) HF.out (by decide) ?_
      intro v15 w5 hs
      replace HS := hid hs
      clear hs
      obtain ⟨p15, c15, rfl, _, _, _⟩ := HS.out.sl_val
      refine hK.out _ _ (fun _ => (HQ.out _ _ (HS.out.nth 4 rfl))) ?_
      clear hK K
      try simp only [Act.put]
      refine anyU_pure (i := 16) (v := ?_) rfl (by kernel_rfl) (fun _ _ _ h => h) (Or.inl ⟨by rfl, ?_⟩) (fun _ => (HQ.out _ _ (HS.out.nth 4 rfl))) ?_
      rotate_left
      ·(intro w _; go_simp) <;> with_reducible rfl
      try simp only [Act.put]
      refine anyU_take (i := 17) (v := ?_) rfl (by kernel_rfl) (fun _ _ _ h => h) (Or.inl ⟨by rfl, ?_⟩) (HQ.out _ _ (HS.out.nth 4 rfl)) ?_
      rotate_left
      ·(intro w hSw; (try dsimp only at hSw); go_simp) <;> with_reducible rfl
      try simp only [Act.put]
      refine anyU_next (rs := [18]) (by kernel_rfl) (by simp) ?_
      refine NextU.cons rfl (fun K hK => ?_) ?_
      ·have q1 := (HC.out _ _ (HS.out.nth 4 rfl)).1
       have q2 := (HC.out _ _ (HS.out.nth 4 rfl)).2.2.1
       go_simp
       refine hK.out _ _ (fun h => Bool.noConfusion (show true = false from h)) ?_
       clear hK K q1 q2
       refine anyU_pure (i := 19) (v := ?_) rfl (by kernel_rfl) (fun _ _ _ h => h) (Or.inl ⟨by rfl, ?_⟩) (fun h => Bool.noConfusion (show true = false from h)) ?_
       rotate_left
       ·(intro w _; go_simp) <;> with_reducible rfl
       try simp only [Act.put]
       refine anyU_pure (i := 20) (v := ?_) rfl (by kernel_rfl) (fun _ _ _ h => h) (Or.inl ⟨by rfl, ?_⟩) (fun h => Bool.noConfusion (show true = false from h)) ?_
       rotate_left
       ·(intro w _; go_simp) <;> with_reducible rfl
       try simp only [Act.put]
       refine anyU_next (rs := [21]) (by kernel_rfl) (by simp) ?_
       refine NextU.cons rfl (fun K hK => ?_) ?_
       ·have q1 := HC2.out _ (.slice p8 ((e.tx i).aft.length + 1) c8) _ (HC.out _ _ (HS.out.nth 4 rfl)).2.1
        have q2 := HC3.out _ (.slice p8 ((e.tx i).aft.length + 1) c8) (HC.out _ _ (HS.out.nth 4 rfl)).2.2.2
        go_simp
        refine hK.out _ _ (fun h => Bool.noConfusion (show true = false from h)) ?_
        clear hK K q1 q2
        refine anyU_done (by kernel_rfl) ?_ _
        go_wp2_with fail
        go_meet
        have HZ := HS.out
        simp only [List.eraseIdx_cons_succ, List.eraseIdx_cons_zero] at HZ
        exact HCL.out _ _ _ (HZ.conv (M := sl 120 1 (.slice (some ⟨b7, 0, none⟩) 1 1) 1 [ptr bs j] :: sl 120 1 (.slice (some ⟨b14, 0, none⟩) 1 1) 1 [ptr bs i] :: sl 120 1 (.slice p8 ((e.tx i).aft.length + 1) c8) ((e.tx i).aft.length + 1) (ptrs bs (e.tx i).aft ++ [ptr bs j]) :: sl 120 1 (.slice p15 ((e.tx j).fore.length + 1) c15) ((e.tx j).fore.length + 1) (ptrs bs (e.tx j).fore ++ [ptr bs i]) :: twoX b bs k e i j :: L) (by simp only [all]; ac_rfl)).tail.tail
       exact NextU.nil
      exact NextU.nil
     exact NextU.nil
    exact NextU.nil
   refine NextU.cons rfl (fun K hK => ?_) ?_
   ·go_simp
    replace HS := hid (HS.out.alloc_slU (e := 120) (size := 1) [ptr bs i] 1 rfl (by unfold maxLen; omega))
    generalize w2.heap.size = b14 at HS ⊢
    refine act_any (fun w => Hid (S w0 w _)) HS (fun w3 HS => ?_)
    refine hK.out _ _ (fun _ => (HQ.out _ _ (HS.out.nth 4 rfl))) ?_
    clear hK K
    refine anyU_next (rs := [8]) (by kernel_rfl) (by simp) ?_
    refine NextU.cons rfl (fun K hK => ?_) ?_
    ·refine step_appU rfl (.tmp 14) (.tmp 16) 65 rfl 120 i0 _ 1 8 Tryz.underlying65 hi0 hz0 hz1 hz2 rfl (by decide) HS.out 2 (by rfl) (by rfl) _ 1 1 [ptr bs j] (by rfl) rfl (HS.out.news_slK 1 (by rfl)) (one_ptr bs j) HA.out (by decide) ?_
     intro v8 w4 hs
     replace HS := hid hs
     clear hs
     obtain ⟨p8, c8, rfl, _, _, _⟩ := HS.out.sl_val
     refine hK.out _ _ (fun _ => (HQ.out _ _ (HS.out.nth 4 rfl))) ?_
     clear hK K
     try simp only [Act.put]
     refine anyU_next (rs := [15]) (by kernel_rfl) (by simp) ?_
     refine NextU.cons rfl (fun K hK => ?_) ?_
     ·refine step_appU rfl (.tmp 21) (.tmp 23) 65 rfl 120 i0 _ 1 8 Tryz.underlying65 hi0 hz0 hz1 hz2 rfl (by decide) HS.out 3 (by rfl) (by rfl) _ 1 1 [ptr bs i] (by rfl) rfl (HS.out.news_slK 1 (by rfl)) (one_ptr bs i) HF.out (by decide) ?_
      intro v15 w5 hs
      replace HS := hid hs
      clear hs
      obtain ⟨p15, c15, rfl, _, _, _⟩ := HS.out.sl_val
      refine hK.out _ _ (fun _ => (HQ.out _ _ (HS.out.nth 4 rfl))) ?_
      clear hK K
      try simp only [Act.put]
      refine anyU_pure (i := 16) (v := ?_) rfl (by kernel_rfl) (fun _ _ _ h => h) (Or.inl ⟨by rfl, ?_⟩) (fun _ => (HQ.out _ _ (HS.out.nth 4 rfl))) ?_
      rotate_left
      ·(intro w _; go_simp) <;> with_reducible rfl
      try simp only [Act.put]
      refine anyU_take (i := 17) (v := ?_) rfl (by kernel_rfl) (fun _ _ _ h => h) (Or.inl ⟨by rfl, ?_⟩) (HQ.out _ _ (HS.out.nth 4 rfl)) ?_
      rotate_left
      ·(intro w hSw; (try dsimp only at hSw); go_simp) <;> with_reducible rfl
      try simp only [Act.put]
      refine anyU_next (rs := [18]) (by kernel_rfl) (by simp) ?_
      refine NextU.cons rfl (fun K hK => ?_) ?_
      ·have q1 := (HC.out _ _ (HS.out.nth 4 rfl)).1
       have q2 := (HC.out _ _ (HS.out.nth 4 rfl)).2.2.1
       go_simp
       refine hK.out _ _ (fun h => Bool.noConfusion (show true = false from h)) ?_
       clear hK K q1 q2
       refine anyU_pure (i := 19) (v := ?_) rfl (by kernel_rfl) (fun _ _ _ h => h) (Or.inl ⟨by rfl, ?_⟩) (fun h => Bool.noConfusion (show true = false from h)) ?_
       rotate_left
       ·(intro w _; go_simp) <;> with_reducible rfl
       try simp only [Act.put]
       refine anyU_pure (i := 20) (v := ?_) rfl (by kernel_rfl) (fun _ _ _ h => h) (Or.inl ⟨by rfl, ?_⟩) (fun h => Bool.noConfusion (show true = false from h)) ?_
       rotate_left
       ·(intro w _; go_simp) <;> with_reducible rfl
       try simp only [Act.put]
       refine anyU_next (rs := [21]) (by kernel_rfl) (by simp) ?_
       refine NextU.cons rfl (fun K hK => ?_) ?_
       ·have q1 := HC2.out _ (.slice p8 ((e.tx i).aft.length + 1) c8) _ (HC.out _ _ (HS.out.nth 4 rfl)).2.1
        have q2 := HC3.out _ (.slice p8 ((e.tx i).aft.length + 1) c8) (HC.out _ _ (HS.out.nth 4 rfl)).2.2.2
        go_simp
        refine hK.out _ _ (fun h => Bool.noConfusion (show true = false from h)) ?_
        clear hK K q1 q2
        refine anyU_done (by kernel_rfl) ?_ _
        go_wp2_with fail
        go_meet
        have HZ := HS.out
        simp only [List.eraseIdx_cons_succ, List.eraseIdx_cons_zero] at HZ
        exact HCL.out _ _ _ (HZ.conv (M := sl 120 1 (.slice (some ⟨b7, 0, none⟩) 1 1) 1 [ptr bs j] :: sl 120 1 (.slice (some ⟨b14, 0, none⟩) 1 1) 1 [ptr bs i] :: sl 120 1 (.slice p8 ((e.tx i).aft.length + 1) c8) ((e.tx i).aft.length + 1) (ptrs bs (e.tx i).aft ++ [ptr bs j]) :: sl 120 1 (.slice p15 ((e.tx j).fore.length + 1) c15) ((e.tx j).fore.length + 1) (ptrs bs (e.tx j).fore ++ [ptr bs i]) :: twoX b bs k e i j :: L) (by simp only [all]; ac_rfl)).tail.tail
       exact NextU.nil
      exact NextU.nil
     exact NextU.nil
    exact NextU.nil
   exact NextU.nil
  refine NextU.cons rfl (fun K hK => ?_) ?_
  ·go_simp
   replace HS := hid (HS.out.alloc_slU (e := 120) (size := 1) [ptr bs i] 1 rfl (by unfold maxLen; omega))
   generalize w1.heap.size = b14 at HS ⊢
   refine act_any (fun w => Hid (S w0 w _)) HS (fun w2 HS => ?_)
   refine hK.out _ _ (fun _ => (HQ.out _ _ (HS.out.nth 3 rfl))) ?_
   clear hK K
   refine anyU_next (rs := [7]) (by kernel_rfl) (by simp) ?_
   refine NextU.cons rfl (fun K hK => ?_) ?_
   ·go_simp
    replace HS := hid (HS.out.alloc_slU (e := 120) (size := 1) [ptr bs j] 1 rfl (by unfold maxLen; omega))
    generalize w2.heap.size = b7 at HS ⊢
    refine act_any (fun w => Hid (S w0 w _)) HS (fun w3 HS => ?_)
    refine hK.out _ _ (fun _ => (HQ.out _ _ (HS.out.nth 4 rfl))) ?_
    clear hK K
    refine anyU_next (rs := [8]) (by kernel_rfl) (by simp) ?_
    refine NextU.cons rfl (fun K hK => ?_) ?_
    ·refine step_appU rfl (.tmp 14) (.tmp 16) 65 rfl 120 i0 _ 1 8 Tryz.underlying65 hi0 hz0 hz1 hz2 rfl (by decide) HS.out 2 (by rfl) (by rfl) _ 1 1 [ptr bs j] (by rfl) rfl (HS.out.news_slK 0 (by rfl)) (one_ptr bs j) HA.out (by decide) ?_
     intro v8 w4 hs
     replace HS := hid hs
     clear hs
     obtain ⟨p8, c8, rfl, _, _, _⟩ := HS.out.sl_val
     refine hK.out _ _ (fun _ => (HQ.out _ _ (HS.out.nth 4 rfl))) ?_
     clear hK K
     try simp only [Act.put]
     refine anyU_next (rs := [15]) (by kernel_rfl) (by simp) ?_
     refine NextU.cons rfl (fun K hK => ?_) ?_
     ·refine step_appU rfl (.tmp 21) (.tmp 23) 65 rfl 120 i0 _ 1 8 Tryz.underlying65 hi0 hz0 hz1 hz2 rfl (by decide) HS.out 3 (by rfl) (by rfl) _ 1 1 [ptr bs i] (by rfl) rfl (HS.out.news_slK 2 (by rfl)) (one_ptr bs i) HF.out (by decide) ?_
      intro v15 w5 hs
      replace HS := hid hs
      clear hs
      obtain ⟨p15, c15, rfl, _, _, _⟩ := HS.out.sl_val
      refine hK.out _ _ (fun _ => (HQ.out _ _ (HS.out.nth 4 rfl))) ?_
      clear hK K
      try simp only [Act.put]
      refine anyU_pure (i := 16) (v := ?_) rfl (by kernel_rfl) (fun _ _ _ h => h) (Or.inl ⟨by rfl, ?_⟩) (fun _ => (HQ.out _ _ (HS.out.nth 4 rfl))) ?_
      rotate_left
      ·(intro w _; go_simp) <;> with_reducible rfl
      try simp only [Act.put]
      refine anyU_take (i := 17) (v := ?_) rfl (by kernel_rfl) (fun _ _ _ h => h) (Or.inl ⟨by rfl, ?_⟩) (HQ.out _ _ (HS.out.nth 4 rfl)) ?_
      rotate_left
      ·(intro w hSw; (try dsimp only at hSw); go_simp) <;> with_reducible rfl
      try simp only [Act.put]
      refine anyU_next (rs := [18]) (by kernel_rfl) (by simp) ?_
      refine NextU.cons rfl (fun K hK => ?_) ?_
      ·have q1 := (HC.out _ _ (HS.out.nth 4 rfl)).1
       have q2 := (HC.out _ _ (HS.out.nth 4 rfl)).2.2.1
       go_simp
       refine hK.out _ _ (fun h => Bool.noConfusion (show true = false from h)) ?_
       clear hK K q1 q2
       refine anyU_pure (i := 19) (v := ?_) rfl (by kernel_rfl) (fun _ _ _ h => h) (Or.inl ⟨by rfl, ?_⟩) (fun h => Bool.noConfusion (show true = false from h)) ?_
       rotate_left
       ·(intro w _; go_simp) <;> with_reducible rfl
       try simp only [Act.put]
       refine anyU_pure (i := 20) (v := ?_) rfl (by kernel_rfl) (fun _ _ _ h => h) (Or.inl ⟨by rfl, ?_⟩) (fun h => Bool.noConfusion (show true = false from h)) ?_
       rotate_left
       ·(intro w _; go_simp) <;> with_reducible rfl
       try simp only [Act.put]
       refine anyU_next (rs := [21]) (by kernel_rfl) (by simp) ?_
       refine NextU.cons rfl (fun K hK => ?_) ?_
       ·have q1 := HC2.out _ (.slice p8 ((e.tx i).aft.length + 1) c8) _ (HC.out _ _ (HS.out.nth 4 rfl)).2.1
        have q2 := HC3.out _ (.slice p8 ((e.tx i).aft.length + 1) c8) (HC.out _ _ (HS.out.nth 4 rfl)).2.2.2
        go_simp
        refine hK.out _ _ (fun h => Bool.noConfusion (show true = false from h)) ?_
        clear hK K q1 q2
        refine anyU_done (by kernel_rfl) ?_ _
        go_wp2_with fail
        go_meet
        have HZ := HS.out
        simp only [List.eraseIdx_cons_succ, List.eraseIdx_cons_zero] at HZ
        exact HCL.out _ _ _ (HZ.conv (M := sl 120 1 (.slice (some ⟨b7, 0, none⟩) 1 1) 1 [ptr bs j] :: sl 120 1 (.slice (some ⟨b14, 0, none⟩) 1 1) 1 [ptr bs i] :: sl 120 1 (.slice p8 ((e.tx i).aft.length + 1) c8) ((e.tx i).aft.length + 1) (ptrs bs (e.tx i).aft ++ [ptr bs j]) :: sl 120 1 (.slice p15 ((e.tx j).fore.length + 1) c15) ((e.tx j).fore.length + 1) (ptrs bs (e.tx j).fore ++ [ptr bs i]) :: twoX b bs k e i j :: L) (by simp only [all]; ac_rfl)).tail.tail
       exact NextU.nil
      exact NextU.nil
     exact NextU.nil
    exact NextU.nil
   exact NextU.nil
  exact NextU.nil
 case rest =>
 rename World => wz
 obtain ⟨k', hk', hs'⟩ := hcut
 have HKK := hid hk'
 clear hk'
 have hI : i < (e.note i j).txs.length := by rw [HLN.out]; exact HI.out
 have hJ : j < (e.note i j).txs.length := by rw [HLN.out]; exact HJ.out
 generalize hE : e.note i j = e' at *
 have HE := hid hE
 clear hE
 have hsx := hs'.alloc #[ptr bs i, ptr bs j] 120
 have hfr := HR.out
 have m1 := middle_eng w0 _ b bs k' e' i _ hsx.swap hI (hfr _ (Eng.tx_mem hI))
 have m2 := middle_eng w0 _ b bs k' e' j _ hsx.swap hJ (hfr _ (Eng.tx_mem hJ))
 have s1 := (hsx.swap.eng_txc hI).2.state
 have s2 := (hsx.swap.eng_txc hJ).2.state
 have x1 := hsx.blk_cell 0 rfl
 have x2 := hsx.blk_cell 1 rfl
 unfold ptr at x1 x2 hsx m1 m2 s1 s2
 have hwi : e'.wrong i = (decide ((e'.tx i).state = 2) && e'.middle i) := rfl
 have hwj : e'.wrong j = (decide ((e'.tx j).state = 2) && e'.middle j) := rfl
 have hbd : e'.bad i j = (e'.wrong i || e'.wrong j) := rfl
 have HB := hid hbd; have HWI := hid hwi; have HWJ := hid hwj
 generalize (e'.tx i).state = si at *
 generalize (e'.tx j).state = sj at *
 generalize e'.middle i = mi at *
 generalize e'.middle j = mj at *
 have HX := hid hsx; have M1 := hid m1; have M2 := hid m2
 clear hs' hsx hfr m1 m2 hwi hwj hbd HR HLN HI HJ hI hJ
 go_wp2_with fail
 go_loopw [33] (fun c wr => ∃ n : Nat, n ≤ 2 ∧ c = .int .i64 n ∧ wr = wz.alloc (.cells #[.pointer (some ⟨blkOf bs i, 0, none⟩), .pointer (some ⟨blkOf bs j, 0, none⟩)] 120) ∧ Hid ((1 ≤ n → e'.wrong i = false) ∧ (2 ≤ n → e'.wrong j = false))) (fun c _ => 2 - (intOf c).toNat)
 case atStart => exact ⟨0, by omega, rfl, rfl, hid ⟨by omega, by omega⟩⟩
 case round =>
  obtain ⟨n, hn, rfl, rfl, hno⟩ := hrel
  have h3 : n = 0 ∨ n = 1 ∨ n = 2 := by omega
  rcases h3 with rfl | rfl | rfl
  ·by_cases h2 : si = 2
   ·subst h2
    cases mi with
    | true =>
     have hf : e'.bad i j = true := by rw [HB.out, HWI.out]; rfl
     have HFN := hid hf
     clear hf hno
     go_wp2_with (go_at_call 67; with_reducible refine M1.out.mono ?_; rintro e w' ⟨rfl, rfl⟩)
     go_ret
     exact ⟨k', HKK.out, by rw [HE.out, HFN.out]; rfl, by rw [HE.out]; exact HX.out.tail⟩
    | false =>
     have hn2 : Hid ((1 ≤ 1 → e'.wrong i = false) ∧ (2 ≤ 1 → e'.wrong j = false)) := hid ⟨fun _ => by rw [HWI.out]; rfl, by omega⟩
     clear hno
     go_wp2_with (go_at_call 67; with_reducible refine M1.out.mono ?_; rintro e w' ⟨rfl, rfl⟩)
     go_roundw
     case rel => exact ⟨1, by omega, by first | rfl | trivial, by first | rfl | trivial, hn2⟩
     case measure => simp [intOf]
   ·have hb : (si == 2) = false := by simpa using h2
    have hn2 : Hid ((1 ≤ 1 → e'.wrong i = false) ∧ (2 ≤ 1 → e'.wrong j = false)) := hid ⟨fun _ => by rw [HWI.out]; simp [h2], by omega⟩
    clear hno h2
    go_wp2_with fail
    go_roundw
    case rel => exact ⟨1, by omega, by first | rfl | trivial, by first | rfl | trivial, hn2⟩
    case measure => simp [intOf]
  ·have hw1 := hno.out.1 (Nat.le_refl _)
   by_cases h2 : sj = 2
   ·subst h2
    cases mj with
    | true =>
     have hf : e'.bad i j = true := by rw [HB.out, HWJ.out]; simp
     have HFN := hid hf
     clear hf hno hw1
     go_wp2_with (go_at_call 67; with_reducible refine M2.out.mono ?_; rintro e w' ⟨rfl, rfl⟩)
     go_ret
     exact ⟨k', HKK.out, by rw [HE.out, HFN.out]; rfl, by rw [HE.out]; exact HX.out.tail⟩
    | false =>
     have hn2 : Hid ((1 ≤ 2 → e'.wrong i = false) ∧ (2 ≤ 2 → e'.wrong j = false)) := hid ⟨fun _ => hw1, fun _ => by rw [HWJ.out]; rfl⟩
     clear hno hw1
     go_wp2_with (go_at_call 67; with_reducible refine M2.out.mono ?_; rintro e w' ⟨rfl, rfl⟩)
     go_roundw
     case rel => exact ⟨2, by omega, by first | rfl | trivial, by first | rfl | trivial, hn2⟩
     case measure => simp [intOf]
   ·have hb : (sj == 2) = false := by simpa using h2
    have hn2 : Hid ((1 ≤ 2 → e'.wrong i = false) ∧ (2 ≤ 2 → e'.wrong j = false)) := hid ⟨fun _ => hw1, fun _ => by rw [HWJ.out]; simp [h2]⟩
    clear hno hw1 h2
    go_wp2_with fail
    go_roundw
    case rel => exact ⟨2, by omega, by first | rfl | trivial, by first | rfl | trivial, hn2⟩
    case measure => simp [intOf]
  ·have hf : e'.bad i j = false := by rw [HB.out, hno.out.1 (by omega), hno.out.2 (by omega)]; rfl
   have HFN := hid hf
   clear hf hno
   go_wp2_with fail
   go_ret
   exact ⟨k', HKK.out, by rw [HE.out, HFN.out]; rfl, by rw [HE.out]; exact HX.out.tail⟩
end Go.Proofs.YtmfngjclccehaaaGreatDoor
/- The reference's engine: one transaction is noted to be ahead of another one. -/
namespace Go.Proofs.YtmfngjclccehaaaGreatDoor
open Go Go.RowKit Go.Sep
theorem Tryz.info90 : (Tryz.prog.info? 90).map (fun i => (i.zero, i.size, i.bytes)) = some (some (.pointer none), 1, 8) := by kernel_rfl
theorem RenV.set_own (k : RenV) (i : Nat) {v : RtxV} (hv : v.own = (k.v i).own) (m : Nat) : ((k.set i v).v m).own = (k.v m).own := by
 unfold RenV.set RenV.v at *
 simp only [List.getElem?_set]
 by_cases h : i = m
 ·subst h
  by_cases hl : i < k.tv.length
  ·simp only [hl, if_true, Option.getD_some]; exact hv
  ·simp [hl]
 ·simp [h]
theorem ra_step (w0 w : World) (b : Nat) (bs : List Nat) (k : RenV) (e : Eng) (i j : Nat) (L : List HProp) (hs : S w0 w (renO b bs k e :: L)) (hi : i < e.txs.length) :
  ∃ aa ca ln xs X, ln = (e.tx i).aft.length ∧ S w0 w (sl 90 1 (.slice aa ln ca) ln xs :: X :: L) ∧ (∀ W M, S w0 W (X :: M) → W.cell? ⟨blkOf bs i, 10, none⟩ = some (.slice aa ln ca) ∧ W.frozen? ⟨blkOf bs i, 10, none⟩ = false) ∧ ca ≤ maxLen ∧ ln ≤ ca ∧
   (∀ W v', S w0 W (sl 90 1 v' (ln + 1) (xs ++ [ptr bs j]) :: X :: L) → ∃ k', (k'.txv = k.txv ∧ ∀ m, (k'.v m).own = (k.v m).own) ∧ S w0 (W.setCell ⟨blkOf bs i, 10, none⟩ v') (renO b bs k' (e.upd i fun x => { x with aft := x.aft ++ [j] }) :: L)) := by
 have h2 := hs.ra_open hi
 obtain ⟨aa, ca, hva, hca, hca2, _⟩ := h2.sl_val
 rw [hva] at h2
 exact ⟨aa, ca, _, _, _, rfl, h2, fun W M h => by rw [← hva]; exact h.ra_see, hca2, hca, fun W v' h => ⟨k.set i { k.v i with av := v' }, ⟨rfl, fun m => RenV.set_own k i (by rfl) m⟩, h.ra_close hi⟩⟩
theorem rf_step (w0 w : World) (b : Nat) (bs : List Nat) (k : RenV) (e : Eng) (i j : Nat) (L : List HProp) (hs : S w0 w (renO b bs k e :: L)) (hi : i < e.txs.length) :
  ∃ aa ca ln xs X, ln = (e.tx i).fore.length ∧ S w0 w (sl 90 1 (.slice aa ln ca) ln xs :: X :: L) ∧ (∀ W M, S w0 W (X :: M) → W.cell? ⟨blkOf bs i, 11, none⟩ = some (.slice aa ln ca) ∧ W.frozen? ⟨blkOf bs i, 11, none⟩ = false) ∧ ca ≤ maxLen ∧ ln ≤ ca ∧
   (∀ W v', S w0 W (sl 90 1 v' (ln + 1) (xs ++ [ptr bs j]) :: X :: L) → ∃ k', (k'.txv = k.txv ∧ ∀ m, (k'.v m).own = (k.v m).own) ∧ S w0 (W.setCell ⟨blkOf bs i, 11, none⟩ v') (renO b bs k' (e.upd i fun x => { x with fore := x.fore ++ [j] }) :: L)) := by
 have h2 := hs.rf_open hi
 obtain ⟨aa, ca, hva, hca, hca2, _⟩ := h2.sl_val
 rw [hva] at h2
 exact ⟨aa, ca, _, _, _, rfl, h2, fun W M h => by rw [← hva]; exact h.rf_see, hca2, hca, fun W v' h => ⟨k.set i { k.v i with fv := v' }, ⟨rfl, fun m => RenV.set_own k i (by rfl) m⟩, h.rf_close hi⟩⟩
set_option maxRecDepth 40000 in
set_option maxHeartbeats 8000000 in
theorem rahead_any (w0 w : World) (b : Nat) (bs : List Nat) (k : RenV) (e : Eng) (i j : Nat) (L : List HProp) (hs : S w0 w (renO b bs k e :: L)) (hi : i < e.txs.length) (hj : j < e.txs.length) (hij : i ≠ j)
  (ha : (e.tx i).aft.length + 1 ≤ 1000000000000) (hf : (e.tx j).fore.length + 1 ≤ 1000000000000) (hr : ∀ x ∈ e.txs, ∀ m ∈ x.fore ++ x.aft, m < e.txs.length) :
  Calls Tryz.prog 53 #[ptr bs i, ptr bs j] w fun r w' => ∃ k', (k'.txv = k.txv ∧ ∀ m, (k'.v m).own = (k.v m).own) ∧ r = .returned (.bool ((e.note i j).bad i j)) ∧ S w0 w' (renO b bs k' (e.note i j) :: L) := by
 obtain ⟨i0, hi0, hz0, hz1, hz2⟩ := info_parts Tryz.info90
 obtain ⟨aa, ca, ln, xs, X, hln, h2, hc, hm1, hm2, hcl⟩ := ra_step w0 w b bs k e i j L hs hi
 rw [← hln] at ha
 have c0 := (hc w _ h2.swap).1
 have hsa := h2.alloc #[ptr bs j] 90
 have hna := news_blk hsa
 have hf2 : ((e.upd i fun x => { x with aft := x.aft ++ [j] }).tx j).fore.length + 1 ≤ 1000000000000 := by rw [Eng.upd_ne hij]; exact hf
 have HA := hid hsa.tail; have HN := hid hna; have HC := hid hc; have HCL := hid hcl; have HB := hid ha; have HF := hid hf2
 have HR := hid (note_refs hr hi hj); have HI := hid hi; have HJ := hid hj
 have HLN := hid (Eng.note_len e i j)
 have HU := hid (Eng.upd_len e i fun x => { x with aft := x.aft ++ [j] })
 clear hs h2 hc hcl hsa hna ha hf hf2 hr hi hj hij hln
 unfold maxLen at hm1
 unfold ptr
 go_enter Tryz.func53, Tryz.ntmps53
 go_upto_region 2 with (at_builtin; refine wpList_append rfl (.tmp 9) (.tmp 11) 52 rfl 90 i0 _ 1 8 Tryz.underlying52 hi0 hz0 hz1 hz2 rfl (by decide) HA.out rfl (some ⟨w.heap.size, 0, none⟩) 1 1 [ptr bs j] rfl rfl HN.out (one_ptr bs j) (by have := HB.out; unfold maxLen; omega) (by have := HB.out; omega) ?_; intro v1 w5 hs1; obtain ⟨a1, c1, rfl, _, _, _⟩ := hs1.sl_val; have q := HC.out _ _ hs1.tail; have q1 := q.1; have q2 := q.2; have HS := hid (HCL.out _ _ hs1); clear hs1 q)
 clear q1 q2 HA HN HC HCL HB c0 hm1 hm2
 obtain ⟨k1, ho1, hs1⟩ := HS.out
 clear HS
 generalize World.setCell w5 _ _ = w6 at hs1 ⊢
 have hj1 : j < (e.upd i fun x => { x with aft := x.aft ++ [j] }).txs.length := by rw [HU.out]; exact HJ.out
 obtain ⟨aa2, ca2, ln2, xs2, X2, hln2, h2, hc, hm1, hm2, hcl⟩ := rf_step w0 w6 b bs k1 _ j i L hs1 hj1
 rw [← hln2] at HF
 have c0 := (hc w6 _ h2.swap).1
 have hsa := h2.alloc #[ptr bs i] 90
 have hna := news_blk hsa
 have HA := hid hsa.tail; have HN := hid hna; have HC := hid hc; have HCL := hid hcl; have HO := hid ho1
 clear hs1 h2 hc hcl hsa hna hln2 ho1 hj1
 unfold maxLen at hm1
 go_upto_region 3 with (at_builtin; refine wpList_append rfl (.tmp 19) (.tmp 21) 52 rfl 90 i0 _ 1 8 Tryz.underlying52 hi0 hz0 hz1 hz2 rfl (by decide) HA.out rfl (some ⟨w6.heap.size, 0, none⟩) 1 1 [ptr bs i] rfl rfl HN.out (one_ptr bs i) (by have := HF.out; unfold maxLen; omega) (by have := HF.out; omega) ?_; intro v1 w7 hs1; obtain ⟨a2, c2, rfl, _, _, _⟩ := hs1.sl_val; have q := HC.out _ _ hs1.tail; have q1 := q.1; have q2 := q.2; have HS := hid (HCL.out _ _ hs1); clear hs1 q)
 clear q1 q2 HA HN HC HCL HF c0 hm1 hm2
 obtain ⟨k', hk', hs'⟩ := HS.out
 clear HS
 generalize World.setCell w7 _ _ = wz at hs' ⊢
 have HKK : Hid (k'.txv = k.txv ∧ ∀ m, (k'.v m).own = (k.v m).own) := hid ⟨hk'.1.trans HO.out.1, fun m => (hk'.2 m).trans (HO.out.2 m)⟩
 clear hk' HO
 have hI : i < (e.note i j).txs.length := by rw [HLN.out]; exact HI.out
 have hJ : j < (e.note i j).txs.length := by rw [HLN.out]; exact HJ.out
 replace hs' : S w0 wz (renO b bs k' (e.note i j) :: L) := hs'
 generalize hE : e.note i j = e' at *
 have HE := hid hE
 clear hE
 have hfr := HR.out
 have m1 := rbetween_any w0 wz b bs k' e' i _ hs' hI (hfr _ (Eng.tx_mem hI))
 have m2 := rbetween_any w0 wz b bs k' e' j _ hs' hJ (hfr _ (Eng.tx_mem hJ))
 have s1 := (hs'.ren_txc hI).2.state
 have s2 := (hs'.ren_txc hJ).2.state
 have hwi : e'.wrong i = (decide ((e'.tx i).state = 2) && e'.middle i) := rfl
 have hwj : e'.wrong j = (decide ((e'.tx j).state = 2) && e'.middle j) := rfl
 have hbd : e'.bad i j = (e'.wrong i || e'.wrong j) := rfl
 have HB := hid (show e'.bad i j = ((decide ((e'.tx i).state = 2) && e'.middle i) || (decide ((e'.tx j).state = 2) && e'.middle j)) by rw [hbd, hwi, hwj])
 generalize (e'.tx i).state = si at *
 generalize (e'.tx j).state = sj at *
 generalize e'.middle i = mi at *
 generalize e'.middle j = mj at *
 have HX := hid hs'; have M1 := hid m1; have M2 := hid m2
 clear hs' hfr m1 m2 hwi hwj hbd HR HLN HI HJ hI hJ HU
 by_cases h1 : si = 2 <;> by_cases h2 : sj = 2 <;> cases mi <;> cases mj
 all_goals
  have H1 := hid h1; have H2 := hid h2
  try have hb1 : (si == 2) = false := by simpa using h1
  try have hb2 : (sj == 2) = false := by simpa using h2
  first | subst h1 | clear h1
  first | subst h2 | clear h2
  go_wp2_with (go_at_call 68; first | (with_reducible refine M1.out.mono ?_; rintro e w' ⟨rfl, rfl⟩) | (with_reducible refine M2.out.mono ?_; rintro e w' ⟨rfl, rfl⟩))
  go_ret
  exact ⟨k', HKK.out, by rw [HE.out, HB.out]; first | rfl | simp [H1.out, H2.out], by rw [HE.out]; exact HX.out⟩
end Go.Proofs.YtmfngjclccehaaaGreatDoor
/- The reference's engine: what a transaction read, and what it wrote, taken out, and put back with one thing more. No walk in sight. -/
namespace Go.Proofs.YtmfngjclccehaaaGreatDoor
open Go Go.RowKit Go.Sep
variable {w w0 : World} {L : List HProp} {b : Nat} {bs : List Nat} {k : RenV} {e : Eng} {i : Nat}
def roX (b : Nat) (bs : List Nat) (k : RenV) (e : Eng) (i : Nat) : HProp :=
 sep (blk (blkOf bs i) 103 (rtxF (k.v i) (e.tx i))) (sep (pur ((e.tx i).writes = ownMap (k.v i).own)) (sep (sl 129 4 (k.v i).rv (e.tx i).reads.length (fcells opc (readOps ((i : Int) + 1) (e.tx i).reads))) (sep (sl 90 1 (k.v i).av (e.tx i).aft.length (ptrs bs (e.tx i).aft)) (sep (sl 90 1 (k.v i).fv (e.tx i).fore.length (ptrs bs (e.tx i).fore)) (renX b bs k e i)))))
theorem _root_.Go.Sep.S.ro_open (h : S w0 w (renO b bs k e :: L)) (hi : i < e.txs.length) : S w0 w (sl 101 2 (k.v i).ov (k.v i).own.length (pcells (k.v i).own) :: roX b bs k e i :: L) := by
 refine (h.ren_tx hi).conv ?_
 simp only [all, roX]
 rw [rtxK_parts]
 ac_rfl
theorem _root_.Go.Sep.S.ro_see (h : S w0 w (roX b bs k e i :: L)) : w.cell? ⟨blkOf bs i, 7, none⟩ = some (k.v i).ov ∧ w.frozen? ⟨blkOf bs i, 7, none⟩ = false :=
 ⟨h.sep_elim.blk_cell 7 rfl, h.sep_elim.blk_free 7⟩
theorem _root_.Go.Sep.S.ro_close {v' : Value} {p : Int × Int} (hi : i < e.txs.length) (h : S w0 w (sl 101 2 v' ((k.v i).own.length + 1) (pcells (k.v i).own ++ pcells [p]) :: roX b bs k e i :: L)) :
  S w0 (w.setCell ⟨blkOf bs i, 7, none⟩ v') (renO b bs (k.set i { k.v i with ov := v', own := (k.v i).own ++ [p] }) (e.wput i p) :: L) := by
 let x : Tx := { e.tx i with writes := mput (e.tx i).writes p.1 p.2 }
 let v : RtxV := { k.v i with ov := v', own := (k.v i).own ++ [p] }
 have h0 := h.swap.sep_elim
 have h1 := h0.blk_set 7 (by simp [rtxF]) v'
 obtain ⟨hw, h2⟩ := h1.swap.sep_elim.pur_elim
 have hp : x.writes = ownMap v.own := by
  show mput (e.tx i).writes p.1 p.2 = ownMap ((k.v i).own ++ [p])
  rw [ownMap_snoc, hw]
 have h3 : S w0 (w.setCell ⟨blkOf bs i, 7, none⟩ v') (rtxK bs i v x :: renX b bs k e i :: L) := by
  refine (S.pur_intro hp h2).conv ?_
  rw [rtxK_parts]
  have e1 : (rtxF (k.v i) (e.tx i)).set 7 v' = rtxF v x := rfl
  have e2 : pcells (k.v i).own ++ pcells [p] = pcells v.own := by simp [v, pcells]
  have e3 : (k.v i).own.length + 1 = v.own.length := by simp [v]
  rw [e1, e2, e3]
  simp only [all]
  show _ = sep (sep _ (sep _ (sep (sl _ 4 (k.v i).rv (e.tx i).reads.length (fcells opc (readOps ((i : Int) + 1) (e.tx i).reads))) (sep (sl _ 2 v' _ _) (sep (sl _ 1 (k.v i).av (e.tx i).aft.length (ptrs bs (e.tx i).aft)) (sl _ 1 (k.v i).fv (e.tx i).fore.length (ptrs bs (e.tx i).fore))))))) _
  ac_rfl
 unfold Eng.wput
 rw [Eng.upd_eq hi]
 exact h3.ren_back hi
def rrX (b : Nat) (bs : List Nat) (k : RenV) (e : Eng) (i : Nat) : HProp :=
 sep (blk (blkOf bs i) 103 (rtxF (k.v i) (e.tx i))) (sep (pur ((e.tx i).writes = ownMap (k.v i).own)) (sep (sl 101 2 (k.v i).ov (k.v i).own.length (pcells (k.v i).own)) (sep (sl 90 1 (k.v i).av (e.tx i).aft.length (ptrs bs (e.tx i).aft)) (sep (sl 90 1 (k.v i).fv (e.tx i).fore.length (ptrs bs (e.tx i).fore)) (renX b bs k e i)))))
theorem _root_.Go.Sep.S.rr_open (h : S w0 w (renO b bs k e :: L)) (hi : i < e.txs.length) : S w0 w (sl 129 4 (k.v i).rv (e.tx i).reads.length (fcells opc (readOps ((i : Int) + 1) (e.tx i).reads)) :: rrX b bs k e i :: L) := by
 refine (h.ren_tx hi).conv ?_
 simp only [all, rrX]
 rw [rtxK_parts]
 ac_rfl
theorem _root_.Go.Sep.S.rr_see (h : S w0 w (rrX b bs k e i :: L)) : w.cell? ⟨blkOf bs i, 6, none⟩ = some (k.v i).rv ∧ w.frozen? ⟨blkOf bs i, 6, none⟩ = false :=
 ⟨h.sep_elim.blk_cell 6 rfl, h.sep_elim.blk_free 6⟩
theorem _root_.Go.Sep.S.rr_close {v' : Value} {r : Int × Int} (hi : i < e.txs.length) (h : S w0 w (sl 129 4 v' ((e.tx i).reads.length + 1) (fcells opc (readOps ((i : Int) + 1) (e.tx i).reads) ++ opc ⟨(i : Int) + 1, r.1, false, r.2⟩) :: rrX b bs k e i :: L)) :
  S w0 (w.setCell ⟨blkOf bs i, 6, none⟩ v') (renO b bs (k.set i { k.v i with rv := v' }) (e.upd i fun x => { x with reads := x.reads ++ [r] }) :: L) := by
 let x : Tx := { e.tx i with reads := (e.tx i).reads ++ [r] }
 let v : RtxV := { k.v i with rv := v' }
 have h1 := h.swap.sep_elim.blk_set 6 (by simp [rtxF]) v'
 have h3 : S w0 (w.setCell ⟨blkOf bs i, 6, none⟩ v') (rtxK bs i v x :: renX b bs k e i :: L) := by
  refine h1.conv ?_
  rw [rtxK_parts]
  have e1 : (rtxF (k.v i) (e.tx i)).set 6 v' = rtxF v x := rfl
  have e2 : fcells opc (readOps ((i : Int) + 1) (e.tx i).reads) ++ opc ⟨(i : Int) + 1, r.1, false, r.2⟩ = fcells opc (readOps ((i : Int) + 1) x.reads) := by
   show _ = fcells opc (readOps ((i : Int) + 1) ((e.tx i).reads ++ [r]))
   unfold readOps
   rw [List.map_append, fcells_append, List.map_singleton, fcells_one]
  have e3 : (e.tx i).reads.length + 1 = x.reads.length := by simp [x]
  rw [e1, e2, e3]
  simp only [all]
  show _ = sep (sep _ (sep (pur ((e.tx i).writes = ownMap (k.v i).own)) (sep (sl _ 4 v' _ _) (sep (sl _ 2 (k.v i).ov (k.v i).own.length (pcells (k.v i).own)) (sep (sl _ 1 (k.v i).av (e.tx i).aft.length (ptrs bs (e.tx i).aft)) (sl _ 1 (k.v i).fv (e.tx i).fore.length (ptrs bs (e.tx i).fore))))))) _
  ac_rfl
 rw [Eng.upd_eq hi]
 exact h3.ren_back hi
end Go.Proofs.YtmfngjclccehaaaGreatDoor
/- The reference's engine: its steps' number, and its block. No walk in sight. -/
namespace Go.Proofs.YtmfngjclccehaaaGreatDoor
open Go Go.RowKit Go.Sep
variable {w w0 : World} {L : List HProp} {M : Nat} {T : List Nat} {b : Nat} {bs : List Nat} {k : RenV} {e : Eng} {i : Nat}
theorem _root_.Go.Sep.S.ren_count (h : S w0 w (renO b bs k e :: L)) (c : Int) : S w0 (w.setCell ⟨b, 13, none⟩ (.int .i64 c)) (renO b bs k { e with count := c } :: L) := by
 obtain ⟨hp, h⟩ := h.sep_elim.pur_elim
 obtain ⟨h1, h2⟩ := h.renG_parts
 have h3 := h2.set 1 (by simp) (.int .i64 c)
 exact .sep_intro (.pur_intro hp (S.renG_join h1 h3))
theorem ren_blk_ne (h : S w0 w (renO b bs k e :: L)) (hi : i < e.txs.length) : blkOf bs i ≠ b := by
 intro he
 have h1 := (h.ren_tx hi).sep_elim.blk_heap
 obtain ⟨_, h2⟩ := h.sep_elim.pur_elim
 obtain ⟨_, h3⟩ := h2.renG_parts
 have h4 : S w0 w (shp b 56 16 :: cells b 12 [k.txv, .int .i64 e.count, .map (some k.wb), k.hv] :: sl 90 1 k.txv e.txs.length (ptrs bs (List.range e.txs.length)) :: mp encI (fun _ => True) k.wb (ienc e.wr) :: sl 129 4 k.hv e.hist.length (fcells opc e.hist) :: all (rtxPs bs k.tv e.txs) :: L) := h3.conv (by simp only [all]; ac_rfl)
 obtain ⟨c, hc, _⟩ := holds_shape (h4.at (b := b) (i := none) (t := .shape 56 16) (by rintro _ rfl; simp)).2
 rw [he, hc] at h1
 simp at h1
theorem Room.upd {f : Tx → Tx} (h : Room M T k e) (hs : (f (e.tx i)).state = 1 → (e.tx i).state = 1) : Room M T k (e.upd i f) := by
 intro j hj
 rw [Eng.upd_len] at hj
 have h1 := h j hj
 rw [Eng.upd_tx]
 split
 ·rename_i hc
  rw [← hc.1] at h1 ⊢
  by_cases hx : (f (e.tx i)).state = 1
  ·have := hs hx
   simp only [hx, this, true_or, if_true] at h1 ⊢
   exact h1
  ·by_cases hT : i ∈ T
   ·simp only [hT, or_true, if_true] at h1 ⊢
    exact h1
   ·simp only [hx, hT, or_self, if_false]
    omega
 ·exact h1
end Go.Proofs.YtmfngjclccehaaaGreatDoor
/- Transactions at the same time: no two things happen at one step. No walk in sight. -/
namespace Go.Proofs.YtmfngjclccehaaaGreatDoor
open Go Go.RowKit Go.Sep
variable {e : Eng} {i j : Nat}
structure Times (e : Eng) : Prop where
 begun : ∀ j, j < e.txs.length → (e.tx j).begun ≤ e.count
 ended : ∀ j, j < e.txs.length → (e.tx j).ended ≤ e.count
 apart : ∀ i j, i < e.txs.length → j < e.txs.length → 2 ≤ (e.tx i).state → (e.tx i).ended ≠ (e.tx j).begun
theorem Times.start : Times Eng.zero := by
 refine ⟨fun j h => ?_, fun j h => ?_, fun i j h => ?_⟩ <;> simp [Eng.zero] at h
theorem Times.upd {f : Tx → Tx} (h : Times e) (hb : (f (e.tx i)).begun = (e.tx i).begun) (he : (f (e.tx i)).ended = (e.tx i).ended) (hs : 2 ≤ (f (e.tx i)).state → 2 ≤ (e.tx i).state) : Times (e.upd i f) := by
 have hbb : ∀ j, ((e.upd i f).tx j).begun = (e.tx j).begun := fun j => by
  rw [Eng.upd_tx]; split
  ·rename_i hc; rw [← hc.1]; exact hb
  ·rfl
 have hee : ∀ j, ((e.upd i f).tx j).ended = (e.tx j).ended := fun j => by
  rw [Eng.upd_tx]; split
  ·rename_i hc; rw [← hc.1]; exact he
  ·rfl
 have hss : ∀ j, 2 ≤ ((e.upd i f).tx j).state → 2 ≤ (e.tx j).state := fun j => by
  rw [Eng.upd_tx]; split
  ·rename_i hc; rw [← hc.1]; exact hs
  ·exact id
 refine ⟨fun j hj => ?_, fun j hj => ?_, fun m j hm hj hst => ?_⟩
 ·rw [Eng.upd_len] at hj; rw [hbb]; exact h.begun j hj
 ·rw [Eng.upd_len] at hj; rw [hee]; exact h.ended j hj
 ·rw [Eng.upd_len] at hm hj; rw [hbb, hee]; exact h.apart m j hm hj (hss m hst)
theorem Times.note (h : Times e) (a b : Nat) : Times (e.note a b) := (h.upd rfl rfl id).upd rfl rfl id
theorem Times.opens (h : Times e) (i : Nat) : Times (e.opens i) := h.upd rfl rfl (by simp)
theorem Times.wput (h : Times e) (i : Nat) (w : Int × Int) : Times (e.wput i w) := h.upd rfl rfl id
theorem Times.lets (h : Times e) (i : Nat) : Times (e.lets i) := ⟨h.begun, h.ended, h.apart⟩
theorem Times.over {f : Tx → Tx} (h : Times e) (hb : (f (e.tx i)).begun = (e.tx i).begun) (he : (f (e.tx i)).ended = e.count + 1) : Times { e.upd i f with count := e.count + 1 } := by
 have hbb : ∀ j, ((e.upd i f).tx j).begun = (e.tx j).begun := fun j => by
  rw [Eng.upd_tx]; split
  ·rename_i hc; rw [← hc.1]; exact hb
  ·rfl
 refine ⟨fun j hj => ?_, fun j hj => ?_, fun m j hm hj hst => ?_⟩
 ·have hj2 : j < e.txs.length := by rw [← Eng.upd_len e i f]; exact hj
  have := h.begun j hj2
  show ((e.upd i f).tx j).begun ≤ e.count + 1
  rw [hbb]; omega
 ·have hj2 : j < e.txs.length := by rw [← Eng.upd_len e i f]; exact hj
  have := h.ended j hj2
  show ((e.upd i f).tx j).ended ≤ e.count + 1
  rw [Eng.upd_tx]; split
  ·rename_i hc; rw [← hc.1, he]; omega
  ·omega
 ·have hj2 : j < e.txs.length := by rw [← Eng.upd_len e i f]; exact hj
  have hm2 : m < e.txs.length := by rw [← Eng.upd_len e i f]; exact hm
  have h1 := h.begun j hj2
  show ((e.upd i f).tx m).ended ≠ ((e.upd i f).tx j).begun
  have hst2 : 2 ≤ ((e.upd i f).tx m).state := hst
  rw [hbb]
  rw [Eng.upd_tx] at hst2 ⊢
  split
  ·rename_i hc; rw [← hc.1, he]; omega
  ·rename_i hc
   rw [if_neg hc] at hst2
   exact h.apart m j hm2 hj2 hst2
theorem Times.mark (h : Times e) (i : Nat) (why : Int) : Times (e.mark i why) := h.over rfl rfl
theorem Times.left (h : Times e) (i : Nat) (why : Int) : Times (e.left i why) := (h.mark i why).lets i
theorem Times.putsL {g : Eng → Nat → Int → Eng} (hg : ∀ e i why, Times e → Times (g e i why)) (i : Nat) (key : Int) : ∀ (l : List Nat) (e : Eng), Times e → Times (Go.Proofs.YtmfngjclccehaaaGreatDoor.putsL g i key l e)
 | [], e, h => h
 | j :: l, e, h => by
  unfold Go.Proofs.YtmfngjclccehaaaGreatDoor.putsL
  split
  ·exact Times.putsL hg i key l e h
  ·dsimp only
   split
   ·exact hg _ _ _ (h.note j i)
   ·exact Times.putsL hg i key l _ (h.note j i)
theorem Times.putsG {g : Eng → Nat → Int → Eng} (hg : ∀ e i why, Times e → Times (g e i why)) (h : Times e) (i : Nat) (w : Int × Int) : Times (Go.Proofs.YtmfngjclccehaaaGreatDoor.putsG g e i w) := by
 unfold Go.Proofs.YtmfngjclccehaaaGreatDoor.putsG
 split
 ·exact hg _ _ _ h
 ·split
  ·exact Times.putsL hg i w.1 _ _ (h.wput i w)
  ·exact h.wput i w
theorem Times.freesL {g : Eng → Nat → Int → Eng} (hg : ∀ e i why, Times e → Times (g e i why)) : ∀ (l : List (Int × Int)) (e : Eng), Times e → Times (Go.Proofs.YtmfngjclccehaaaGreatDoor.freesL g l e)
 | [], e, h => h
 | w :: l, e, h => by
  unfold Go.Proofs.YtmfngjclccehaaaGreatDoor.freesL
  exact Times.freesL hg l _ (Times.putsG hg (h.opens _) _ _)
theorem Times.goesN : ∀ (n : Nat) (e : Eng) (i : Nat) (why : Int), Times e → Times (Go.Proofs.YtmfngjclccehaaaGreatDoor.goesN n e i why)
 | 0, e, i, why, h => h
 | n + 1, e, i, why, h => by
  unfold Go.Proofs.YtmfngjclccehaaaGreatDoor.goesN freesG
  exact Times.freesL (Times.goesN n) _ _ ((h.mark i why).lets i)
end Go.Proofs.YtmfngjclccehaaaGreatDoor
/- The reference's engine: gone. -/
namespace Go.Proofs.YtmfngjclccehaaaGreatDoor
open Go Go.RowKit Go.Sep
theorem rmark_eq (e : Eng) (i : Nat) (why : Int) : ((({ e with count := e.count + 1 } : Eng).upd i fun x => { x with state := 3 }).upd i fun x => { x with why := why }).upd i (fun x => { x with ended := e.count + 1 }) = e.mark i why := by
 unfold Eng.mark Eng.upd
 simp only [Eng.mk.injEq, and_true, true_and]
 apply List.ext_getElem?
 intro j
 simp only [List.getElem?_modify]
 by_cases h : i = j
 ·subst h; cases e.txs[i]? <;> simp
 ·simp [h]
def RGoesAny (n : Nat) : Prop := ∀ (w0 w : World) (b : Nat) (bs : List Nat) (e : Eng) (i : Nat) (why : Int) (L : List HProp) (N : Nat) (U : List Task) (M : Nat), OkT N e U → Times e → i < e.txs.length → (e.tx i).alive = true → (∀ u ∈ U, u.who ≠ i) → e.open_ ≤ n → N ≤ 100000000 → M ≤ 1000000 → S w0 w (renP M [] b bs e :: L) →
 Calls Tryz.prog 54 #[.pointer (some ⟨b, 0, none⟩), .int .i64 ((i : Int) + 1), .int .i64 why] w fun r w' => r = .returned (.tuple #[]) ∧ S w0 w' (renP M [] b bs (goesN n e i why) :: L)
def RDropsAny (n : Nat) : Prop := ∀ (w0 w : World) (b : Nat) (bs : List Nat) (e : Eng) (i : Nat) (L : List HProp) (N : Nat) (U : List Task) (M : Nat), OkT N (e.lets i) ((e.heirs i).map .hand ++ U) → Times e → (e.lets i).open_ ≤ n → N ≤ 100000000 → M ≤ 1000000 → (∀ k, (lineAt e.t k).length ≤ 800000) → (e.t.hold.map (·.1)).Nodup → S w0 w (renP M [] b bs e :: L) →
 Calls Tryz.prog 64 #[.pointer (some ⟨b, 0, none⟩), .int .i64 ((i : Int) + 1)] w fun r w' => r = .returned (.tuple #[]) ∧ S w0 w' (renP M [] b bs (freesG (goesN n) e i) :: L)
set_option maxRecDepth 40000 in
set_option maxHeartbeats 8000000 in
theorem rgoes_step (n : Nat) (hf : RDropsAny n) : RGoesAny (n + 1) := by
 intro w0 w b bs e i why L N U M hok hti hi ha hne ho hN hM hs
 obtain ⟨h1, h2⟩ := hok.left hi ha hne why
 obtain ⟨k, K, Qs, ⟨hS, hST, hRm⟩, hs⟩ := hs.ren_open
 have hO : S w0 w (renO b bs k e :: refP 47 109 b K e.last :: rtabP 3 b 2 Qs :: L) := hs.conv (by simp only [all]; ac_rfl)
 have hc := hO.ren_c.2
 have c12 := hc.txs
 have c13 := hc.count
 have f13 := hc.free 13 (by omega) (by omega)
 obtain ⟨a, cap, hv, hle, hcap, hrow⟩ := hc.row
 obtain ⟨g, o, rfl, ci⟩ := hrow i hi
 rw [hv] at c12
 unfold maxLen at hcap
 unfold ptr at ci
 have hx := (hO.ren_txc hi).2
 have x1 := hx.state
 have x2 := hx.why
 have x5 := hx.ended
 have fx := hx.free
 have hbb := ren_blk_ne hO hi
 have hcnt := hok.cnt
 have hfew := hok.few
 have hs1 := hO.ren_count (e.count + 1)
 have hi1 : i < ({ e with count := e.count + 1 } : Eng).txs.length := hi
 have hs2 := hs1.ren_set hi1 (fun x => { x with state := 3 }) (j := 1) (u := .int .i64 3) (by omega) rfl rfl rfl rfl rfl
 have hs3 := hs2.ren_set (by rw [Eng.upd_len]; exact hi1) (fun x => { x with why := why }) (j := 2) (u := .int .i64 why) (by omega) rfl rfl rfl rfl rfl
 have hs4 := hs3.ren_set (by rw [Eng.upd_len, Eng.upd_len]; exact hi1) (fun x => { x with ended := e.count + 1 }) (j := 5) (u := .int .i64 (e.count + 1)) (by omega) rfl rfl rfl rfl rfl
 rw [rmark_eq] at hs4
 have hRm2 : Room M [] k (e.mark i why) := Room.upd (f := fun x => { x with state := 3, why := why, ended := e.count + 1 }) hRm (by simp)
 have hs5 := S.ren_shut (e := e.mark i why) (M := M) (T := []) ⟨hS, hST, hRm2⟩ (hs4.conv (M := refP 47 109 b K e.last :: rtabP 3 b 2 Qs :: renO b bs k (e.mark i why) :: L) (by simp only [all]; ac_rfl))
 obtain ⟨Q, hQ⟩ := hok.tab
 have hlen : ∀ kk, (lineAt e.t kk).length ≤ 800000 := by
  intro kk
  unfold lineAt
  rw [hQ.tab.line kk]
  have := few (S := (List.range e.txs.length).map fun m : Nat => (m : Int) + 1) (hQ.tab.nod kk) (fun x hx => by
   have := hQ.key kk x hx
   simp only [List.mem_map, List.mem_range]
   exact ⟨(x - 1).toNat, by omega, by omega⟩)
  simp only [List.length_map, List.length_range] at this
  rw [List.length_tail]; omega
 have hcall := hf w0 _ b bs (e.mark i why) i L N U M h1 (hti.mark i why) (by show (e.left i why).open_ ≤ n; omega) hN hM hlen hQ.hold hs5
 clear hlen hQ
 have HC := hid hcall
 have hbb' := Ne.symm hbb
 clear hok h1 h2 hs hO hc hv hrow hx hs1 hs2 hs3 hs4 hs5 hcall hf ha hne hRm hRm2 hS hST hti
 go_enter Tryz.func54, Tryz.ntmps54
 go_wp2_with fail
 with_reducible refine HC.out.mono ?_
 rintro r w' ⟨rfl, hs'⟩
 have H4 := hid hs'
 clear hs'
 go_wp2_with fail
 go_end0
 exact ⟨rfl, H4.out⟩
end Go.Proofs.YtmfngjclccehaaaGreatDoor
/- The reference's table: Drop. -/
namespace Go.Sep
open Go Go.RowKit
def upto (Qs : List (List Int)) (tx : Int) (k : Nat) : List (List Int) := (Qs.take k).map (fun l => strike l tx) ++ Qs.drop k
theorem upto_zero (Qs : List (List Int)) (tx : Int) : upto Qs tx 0 = Qs := by simp [upto]
theorem upto_all {Qs : List (List Int)} {k : Nat} (h : Qs.length = k) (tx : Int) : upto Qs tx k = Qs.map fun l => strike l tx := by
 unfold upto; rw [← h, List.take_length, List.drop_length, List.append_nil]
theorem upto_at {Qs : List (List Int)} {tx : Int} {k : Nat} {q : List Int} (hk : k < Qs.length) (h : (upto Qs tx k)[k]? = some q) : Qs[k]? = some q := by
 unfold upto at h
 rw [List.getElem?_append_right (by simp; omega)] at h
 simp only [List.length_map, List.length_take, Nat.min_eq_left (Nat.le_of_lt hk), Nat.sub_self, List.getElem?_drop, Nat.add_zero] at h
 exact h
theorem upto_set {Qs : List (List Int)} {tx : Int} {k : Nat} {q : List Int} (h : Qs[k]? = some q) : (upto Qs tx k).set k (strike q tx) = upto Qs tx (k + 1) := by
 obtain ⟨hk, hq⟩ := List.getElem?_eq_some_iff.1 h
 unfold upto
 rw [List.set_append_right _ _ (by simp; omega)]
 simp only [List.length_map, List.length_take, Nat.min_eq_left (Nat.le_of_lt hk), Nat.sub_self]
 rw [List.drop_eq_getElem_cons hk, List.set_cons_zero, List.take_succ_eq_append_getElem hk, List.map_append, hq]
 simp
theorem routK_one {tx k : Int} {q : List Int} {y : Int} {l : List Int} (h : q.head? = some tx) (hs : strike q tx = y :: l) : routK tx k q = [(k, y)] := by
 unfold routK; rw [if_pos h, hs]; rfl
theorem routK_none {tx k : Int} {q : List Int} (h : q.head? ≠ some tx ∨ strike q tx = []) : routK tx k q = [] := by
 unfold routK
 by_cases e : q.head? = some tx
 ·rcases h with h | h
  ·exact absurd e h
  ·rw [if_pos e, h]; rfl
 ·rw [if_neg e]
theorem rout_le (Qs : List (List Int)) (tx : Int) : ∀ n, (rout Qs tx n).length ≤ n
 | 0 => by simp [rout]
 | n + 1 => by
  rw [rout_succ, List.length_append]
  have := rout_le Qs tx n
  have : (routK tx n (qf Qs n)).length ≤ 1 := by
   unfold routK; split
   ·cases strike (qf Qs n) tx <;> simp [firstL]
   ·simp
  omega
end Go.Sep
namespace Go.Proofs.YtmfngjclccehaaaGreatDoor
open Go Go.RowKit Go.Sep
set_option maxRecDepth 40000 in
set_option maxHeartbeats 8000000 in
theorem rdrop_any (w0 w : World) {bo : Nat} (b : Nat) (Qs : List (List Int)) (tx : Int) (L : List HProp) (hs : S w0 w (rtabP 3 b bo Qs :: L)) (hN : ∀ q ∈ Qs, q.length ≤ 900000) :
  Calls Tryz.prog 88 #[.pointer (some ⟨b, bo, none⟩), .int .i64 tx] w fun e w' => ∃ v, e = .returned v ∧
   S w0 w' (sl 101 2 v (rout Qs tx 10).length (pcells (rout Qs tx 10)) :: rtabP 3 b bo (Qs.map fun l => strike l tx) :: L) := by
 obtain ⟨kv0, hs1⟩ := hs.ex_elim
 have hlen := hs1.rtabK_len
 have harr := hs1.rtabK_arr
 have hadd : ∀ j u, kv0[j]? = some u → w.cell? ((⟨b, bo, none⟩ : Addr).add j) = some u := by
  intro j u hj
  rw [addr_add']; exact harr j u hj
 have hkl := hlen.1
 have hs2 : S w0 w (sl 101 2 (.slice none 0 0) (rout Qs tx 0).length (pcells (rout Qs tx 0)) :: rtabK 3 b bo kv0 (upto Qs tx 0) :: L) := by
  rw [upto_zero]; exact hs1.sl_nil
 have HA := hid hadd; have HL := hid hlen; have HK := hid hkl; have H2 := hid hs2; have HN := hid hN
 clear hadd harr hs hs1 hs2 hlen hkl hN
 go_enter Tryz.func88, Tryz.ntmps88
 go_wp2_with (refine wpList_load_arr rfl 49 (.tmp 13) rfl ⟨b, bo, none⟩ rfl 10 48 Tryz.underlying49 kv0 (by rw [HK.out]; exact Tryz.size49) HA.out ?_)
 go_loopw [5, 15] (fun vo c wr => ∃ (k : Nat) (kv : List Value), k ≤ 10 ∧ c = .int .i64 k ∧ Hid (∀ j, k ≤ j → kv[j]? = kv0[j]?) ∧ S w0 wr (sl 101 2 vo (rout Qs tx k).length (pcells (rout Qs tx k)) :: rtabK 3 b bo kv (upto Qs tx k) :: L)) (fun _ c _ => 10 - (intOf c).toNat)
 case atStart => exact ⟨0, kv0, Nat.zero_le _, rfl, hid (fun _ _ => rfl), H2.out⟩
 case round =>
  rename World => wr
  obtain ⟨k, kv, hk, rfl, hsame, hsr⟩ := hrel
  clear H2
  by_cases hlt : k < 10
  ·obtain ⟨v, q, X, hkv, hQ, hsl, hcell, _, hput⟩ := hsr.swap.rtabK_key k hlt
   obtain ⟨ao, co, rfl, hco, hco2, _⟩ := hsr.sl_val
   unfold maxLen at hco2
   have hQ0 := upto_at (by rw [HL.out.2]; exact hlt) hQ
   have hkv0 : kv0[k]? = some v := by rw [← hsame.out k (Nat.le_refl _)]; exact hkv
   have hql := HN.out q (List.mem_of_getElem? hQ0)
   have hqf : qf Qs k = q := by rw [qf_nat, hQ0]; rfl
   obtain ⟨a, c, rfl, hc1, hc2, _⟩ := hsl.sl_val
   have hix := fun W => run_index_arr (w := W) Tryz.underlying49 Tryz.underlying48 rfl Tryz.size48 hlt hkv0
   have hup := upto_set (tx := tx) hQ0
   have hkvn : ∀ v' : Value, ∀ j, k + 1 ≤ j → (kv.set k v')[j]? = kv0[j]? := fun v' j hj => by
    rw [List.getElem?_set_ne (by omega)]; exact hsame.out j (by omega)
   have hcf : ∀ (W : World) (M : List HProp), S w0 W (X :: M) → W.cell? ⟨b, bo + k, none⟩ = some (.slice a q.length c) ∧ W.frozen? ⟨b, bo + k, none⟩ = false := fun W M h => by
    obtain ⟨x1, x2, _⟩ := hcell W M h
    exact ⟨x1, x2⟩
   have hfin : ∀ (W : World) (v' : Value) (M : List HProp), S w0 W (sl 3 1 v' (strike q tx).length (icells (strike q tx)) :: X :: M) → S w0 (W.setCell ⟨b, bo + k, none⟩ v') (rtabK 3 b bo (kv.set k v') (upto Qs tx (k + 1)) :: M) := fun W v' M h => by
    have h2 := hput W v' (strike q tx) M h
    rw [hup] at h2
    exact h2
   have H3 := hid (hsl.sl_nil (e := 3) (size := 1))
   have HCF := hid hcf; have HFIN := hid hfin; have HKV := hid hkvn; have HQF := hid hqf; have hro := rout_le Qs tx k
   clear hkv hQ hsl hcell hput hQ0 hkv0 hup hkvn hcf hfin hsr hsame hqf
   have hkb0 : (0 : Int) ≤ (k : Int) := by omega
   have hkb : (k : Int) < 10 := by omega
   go_wp2_with fail
   go_loopw [8, 21] (fun vl cj wx => ∃ j : Nat, j ≤ q.length ∧ cj = .int .i64 j ∧ S w0 wx (sl 3 1 vl (strike (q.take j) tx).length (icells (strike (q.take j) tx)) :: sl 3 1 (.slice a q.length c) q.length (icells q) :: X :: sl 101 2 (.slice ao (rout Qs tx k).length co) (rout Qs tx k).length (pcells (rout Qs tx k)) :: L)) (fun _ c _ => q.length - (intOf c).toNat)
   case atStart => exact ⟨0, Nat.zero_le _, rfl, H3.out⟩
   case round =>
    rename World => wx
    obtain ⟨j, hj, rfl, hsx⟩ := hrel
    clear H3
    by_cases hjl : j < q.length
    ·have hp : q[j]? = some q[j] := by simp [hjl]
     generalize q[j] = y at hp
     obtain ⟨g, o, rfl, _, d0⟩ := hsx.swap.sl_int hp
     have hsk := strike_snoc (q.take j) y tx
     rw [← take_succ_get hp] at hsk
     have hsl := strike_le (q.take j) tx
     rw [List.length_take] at hsl
     by_cases hy : y = tx
     ·subst hy
      rw [if_pos rfl] at hsk
      have HX := hid hsk; have H4 := hid hsx
      clear hsk hsx hp
      go_wp2_with fail
      go_roundw
      case rel => exact ⟨j + 1, by omega, by go_num, by rw [HX.out]; exact H4.out⟩
      case measure => simp [intOf]; omega
     ·have hyb : (y != tx) = true := by simpa using hy
      rw [if_neg hy] at hsk
      obtain ⟨al, cl, rfl, hcl, hcl2, _⟩ := hsx.sl_val
      unfold maxLen at hcl2
      obtain ⟨i0, hi0, hz0, hz1, hz2⟩ := info_parts Tryz.info3
      have hs1 := hsx.alloc #[.int .i64 y] 3
      have hn1 := news_blk hs1
      have hs2 := hs1.tail
      have HX := hid hsk; have HN1 := hid hn1; have H9 := hid hs2
      clear hs1 hs2 hn1 hsx hsk hp hy
      go_wp2_with (at_builtin; refine wpList_append rfl (.tmp 28) (.tmp 30) 48 rfl 3 i0 _ 1 8 Tryz.underlying48 hi0 hz0 hz1 hz2 rfl (by decide) H9.out rfl (some ⟨wx.heap.size, 0, none⟩) 1 1 [.int .i64 y] rfl rfl HN1.out (by simp [Value.oneCell']) (by unfold maxLen; omega) (by omega) ?_; intro v1 w5 hs1; have HS := hid hs1; clear hs1)
      go_roundw
      case rel => exact ⟨j + 1, by omega, by go_num, by rw [HX.out, List.length_append, List.length_singleton, icells_append]; exact HS.out⟩
      case measure => simp [intOf]; omega
    ·obtain rfl : j = q.length := by omega
     rw [List.take_length] at hsx
     obtain ⟨al, cl, rfl, hcl, hcl2, _⟩ := hsx.sl_val
     unfold maxLen at hcl2
     have hsl := strike_le q tx
     clear hjl
     by_cases hq0 : 0 < q.length
     ·have hp : q[0]? = some q[0] := by simp [hq0]
      generalize q[0] = z at hp
      obtain ⟨g, o, rfl, _, d0⟩ := hsx.swap.sl_int hp
      rw [Nat.add_zero] at d0
      have hqb : (0 : Int) < (q.length : Int) := by omega
      have hhd : q.head? = some z := by rw [List.head?_eq_getElem?]; exact hp
      have HHD := hid hhd
      clear hp hhd
      by_cases hz : z = tx
      ·rw [hz] at d0
       have HHD2 := hid (HHD.out.trans (congrArg some hz))
       clear HHD hz
       by_cases hs0 : 0 < (strike q tx).length
       ·have hsp : (strike q tx)[0]? = some (strike q tx)[0] := by simp [hs0]
        generalize hy0 : (strike q tx)[0] = y0 at hsp
        obtain ⟨g2, o2, rfl, _, f0⟩ := hsx.sl_int hsp
        rw [Nat.add_zero] at f0
        have hsb : (0 : Int) < ((strike q tx).length : Int) := by omega
        have hrk : routK tx k q = [((k : Int), y0)] := by
         cases hst : strike q tx with
         | nil => rw [hst] at hs0; simp at hs0
         | cons y1 l1 =>
          rw [hst] at hsp
          simp only [List.getElem?_cons_zero, Option.some.injEq] at hsp
          rw [routK_one HHD2.out hst, hsp]
        clear hy0 hsp
        have hsy := hsx.conv (M := sl 101 2 (.slice ao (rout Qs tx k).length co) (rout Qs tx k).length (pcells (rout Qs tx k)) :: sl 3 1 (.slice (some ⟨g2, o2, none⟩) (strike q tx).length cl) (strike q tx).length (icells (strike q tx)) :: sl 3 1 (.slice (some ⟨g, o, none⟩) q.length c) q.length (icells q) :: X :: L) (by simp only [all]; ac_rfl)
        have hs1 := hsy.alloc #[.int .i64 (k : Int), .int .i64 y0] 101
        have hn1 := news_blk hs1
        have hs2 := hs1.tail
        obtain ⟨i0, hi0, hz0, hz1, hz2⟩ := info_parts Tryz.info101
        have HR := hid hrk; have HN1 := hid hn1; have H9 := hid hs2
        clear hs1 hs2 hn1 hsx hsy hrk
        go_wp2_with (at_builtin; refine wpList_append rfl (.tmp 48) (.tmp 54) 22 rfl 101 i0 _ 2 16 Tryz.underlying22 hi0 hz0 hz1 hz2 rfl (by decide) H9.out rfl (some ⟨wx.heap.size, 0, none⟩) 1 1 [.int .i64 (k : Int), .int .i64 y0] rfl rfl HN1.out (by simp [Value.oneCell']) (by unfold maxLen; omega) (by omega) ?_; intro v1 w5 hs1; have HS := hid hs1; have hd := HCF.out w5 _ (hs1.conv (M := X :: sl 101 2 v1 ((rout Qs tx k).length + 1) (pcells (rout Qs tx k) ++ [.int .i64 (k : Int), .int .i64 y0]) :: sl 3 1 (.slice (some ⟨g2, o2, none⟩) (strike q tx).length cl) (strike q tx).length (icells (strike q tx)) :: sl 3 1 (.slice (some ⟨g, o, none⟩) q.length c) q.length (icells q) :: L) (by simp only [all]; ac_rfl)); have e1 := hd.1; have e2 := hd.2; clear hd hs1)
        have HZ := hid (HFIN.out w5 _ _ (HS.out.conv (M := sl 3 1 (.slice (some ⟨g, o, none⟩) q.length c) q.length (icells q) :: sl 3 1 (.slice (some ⟨g2, o2, none⟩) (strike q tx).length cl) (strike q tx).length (icells (strike q tx)) :: X :: sl 101 2 v1 ((rout Qs tx k).length + 1) (pcells (rout Qs tx k) ++ [.int .i64 (k : Int), .int .i64 y0]) :: L) (by simp only [all]; ac_rfl)).tail)
        go_roundw
        case rel => exact ⟨k + 1, _, by omega, by go_num, hid (HKV.out _), by rw [rout_succ, HQF.out, HR.out, pcells_append, List.length_append, List.length_singleton]; exact HZ.out.swap⟩
        case measure => simp [intOf]; omega
       ·have hs1 : (strike q tx).length = 0 := by omega
        have hst : strike q tx = [] := List.eq_nil_of_length_eq_zero hs1
        have hsb : ¬ (0 : Int) < ((strike q tx).length : Int) := by omega
        have hrk : routK tx k q = [] := routK_none (.inr hst)
        clear hst hs1 hs0
        have hd := HCF.out wx _ hsx.tail.tail
        have e1 := hd.1
        have e2 := hd.2
        have hz := HFIN.out wx _ _ hsx.swap.tail
        have HR := hid hrk; have HZ := hid hz
        clear hd hz hsx hrk
        go_wp2_with fail
        go_roundw
        case rel => exact ⟨k + 1, _, by omega, by go_num, hid (HKV.out _), by rw [rout_succ, HQF.out, HR.out, List.append_nil]; exact HZ.out.swap⟩
        case measure => simp [intOf]; omega
      ·have hzb : (z == tx) = false := by simpa using hz
       have hrk : routK tx k q = [] := routK_none (.inl (by rw [HHD.out]; intro e; exact hz (Option.some.inj e)))
       have hd := HCF.out wx _ hsx.tail.tail
       have e1 := hd.1
       have e2 := hd.2
       have hz1 := HFIN.out wx _ _ hsx.swap.tail
       have HR := hid hrk; have HZ := hid hz1
       clear hd hz1 hsx hrk
       go_wp2_with fail
       go_roundw
       case rel => exact ⟨k + 1, _, by omega, by go_num, hid (HKV.out _), by rw [rout_succ, HQF.out, HR.out, List.append_nil]; exact HZ.out.swap⟩
       case measure => simp [intOf]; omega
     ·have hqb : ¬ (0 : Int) < (q.length : Int) := by omega
      have hqn : q = [] := List.eq_nil_of_length_eq_zero (by omega)
      have hrk : routK tx k q = [] := routK_none (.inl (by rw [hqn]; simp))
      clear hqn hq0
      have hd := HCF.out wx _ hsx.tail.tail
      have e1 := hd.1
      have e2 := hd.2
      have hz := HFIN.out wx _ _ hsx.swap.tail
      have HR := hid hrk; have HZ := hid hz
      clear hd hz hsx hrk
      go_wp2_with fail
      go_roundw
      case rel => exact ⟨k + 1, _, by omega, by go_num, hid (HKV.out _), by rw [rout_succ, HQF.out, HR.out, List.append_nil]; exact HZ.out.swap⟩
      case measure => simp [intOf]; omega
  ·obtain rfl : k = 10 := by omega
   have H4 := hid hsr
   clear hsr hsame
   go_wp2_with fail
   go_ret
   exact ⟨_, rfl, by
    have h := H4.out
    rw [upto_all HL.out.2] at h
    exact (S.swap (.ex_intro kv h.swap))⟩
end Go.Proofs.YtmfngjclccehaaaGreatDoor
namespace Go.Sep
open Go Go.RowKit
end Go.Sep
