/- The program's engine: Read. -/
import Derived.Test.YtmfngjclccehaaaGreatDoorZ0
import Derived.Test.YtmfngjclccehaaaGreatDoorZ13
import Derived.Test.YtmfngjclccehaaaGreatDoorZ8
import Derived.Test.YtmfngjclccehaaaGreatDoorZ10
import Derived.Test.YtmfngjclccehaaaGreatDoorZ1
import Derived.Test.YtmfngjclccehaaaGreatDoorZ3
import Derived.Deep.DeepCutAuto
import Derived.Deep.CutBlock
/- The reference's engine: Begin. -/
namespace Go.Proofs.YtmfngjclccehaaaGreatDoor
open Go Go.RowKit Go.Sep
section
variable {w w0 : World} {L : List HProp} {b : Nat} {bs : List Nat} {k : RenV} {e : Eng} {i : Nat}
def brX (b : Nat) (bs : List Nat) (k : RenV) (e : Eng) : HProp :=
 sep (pur (k.tv.length = e.txs.length ∧ bs.length = e.txs.length ∧ bs.Nodup)) (sep (shp b 56 16) (sep (cells b 12 [k.txv, .int .i64 e.count, .map (some k.wb), k.hv]) (sep (mp encI (fun _ => True) k.wb (ienc e.wr)) (sep (sl 129 4 k.hv e.hist.length (fcells opc e.hist)) (all (rtxPs bs k.tv e.txs))))))
theorem _root_.Go.Sep.S.br_open (h : S w0 w (renO b bs k e :: L)) : S w0 w (sl 90 1 k.txv e.txs.length (ptrs bs (List.range e.txs.length)) :: brX b bs k e :: L) := by
 obtain ⟨h0, h⟩ := h.sep_elim.pur_elim
 obtain ⟨⟨h1, _, h3⟩, h⟩ := h.renG_parts
 refine S.swap (.sep_intro (.pur_intro ⟨h0, h1, h3⟩ (h.conv ?_)))
 simp only [all]; ac_rfl
theorem _root_.Go.Sep.S.br_see (h : S w0 w (brX b bs k e :: L)) : w.cell? ⟨b, 12, none⟩ = some k.txv ∧ w.frozen? ⟨b, 12, none⟩ = false ∧ w.cell? ⟨b, 13, none⟩ = some (.int .i64 e.count) ∧ ∀ i, i < e.txs.length → blkOf bs i < w.heap.size := by
 obtain ⟨⟨h0, h1, h3⟩, h⟩ := h.sep_elim.pur_elim
 have h4 : S w0 w (cells b 12 [k.txv, .int .i64 e.count, .map (some k.wb), k.hv] :: all (rtxPs bs k.tv e.txs) :: shp b 56 16 :: mp encI (fun _ => True) k.wb (ienc e.wr) :: sl 129 4 k.hv e.hist.length (fcells opc e.hist) :: L) := h.conv (by simp only [all]; ac_rfl)
 refine ⟨h4.cells_cell 0 rfl, h4.cells_free 0 (show _ = some k.txv from rfl), h4.cells_cell 1 rfl, fun i hi => ?_⟩
 have hl : i < (rtxPs bs k.tv e.txs).length := by rw [rtxPs_length]; exact hi
 have h5 : S w0 w ((rtxPs bs k.tv e.txs)[i] :: all ((rtxPs bs k.tv e.txs).set i emp) :: cells b 12 [k.txv, .int .i64 e.count, .map (some k.wb), k.hv] :: shp b 56 16 :: mp encI (fun _ => True) k.wb (ienc e.wr) :: sl 129 4 k.hv e.hist.length (fcells opc e.hist) :: L) := by
  refine h4.conv ?_
  simp only [all]
  rw [all_set _ i hl emp, emp_sep, all_pick _ i hl]
  ac_rfl
 rw [rtxPs_get hl] at h5
 exact h5.rtx_see.2.lt
def rnewCells (level start begun : Int) : List Value := [.int .i64 level, .int .i64 0, .int .i64 0, .int .i64 start, .int .i64 begun, .int .i64 0, .slice none 0 0, .slice none 0 0, .int .i64 0, .int .i64 0, .slice none 0 0, .slice none 0 0]
theorem rtxPs_snoc {bs : List Nat} {bx : Nat} {tv : List RtxV} {txs : List Tx} {x : Tx} {v : RtxV} (hb : bs.length = txs.length) (ht : tv.length = txs.length) (hr : ∀ y ∈ txs, ∀ j ∈ y.fore ++ y.aft, j < txs.length) :
  rtxPs (bs ++ [bx]) (tv ++ [v]) (txs ++ [x]) = rtxPs bs tv txs ++ [rtxK (bs ++ [bx]) txs.length v x] := by
 apply List.ext_getElem (by simp [rtxPs])
 intro j h1 h2
 rw [rtxPs_length, List.length_append, List.length_singleton] at h1
 simp only [rtxPs, List.getElem_map, List.getElem_range, List.getElem_append, List.length_map, List.length_range]
 by_cases hj : j < txs.length
 ·rw [dif_pos hj, List.getElem?_append_left (by omega), List.getElem?_append_left hj]
  have hx : (txs[j]?).getD .zero ∈ txs := by simp [hj]
  generalize (txs[j]?).getD .zero = y at hx
  have h3 := hr y hx
  unfold rtxK rtxR
  rw [blkOf_old (by omega), ptrs_old (fun m hm => by have := h3 m (by simp [hm]); omega), ptrs_old (fun m hm => by have := h3 m (by simp [hm]); omega)]
 ·obtain rfl : j = txs.length := by omega
  rw [dif_neg hj]
  simp only [List.getElem?_append_right (Nat.le_refl _), Nat.sub_self, List.getElem?_cons_zero, Option.getD_some, List.getElem_singleton]
  rw [List.getElem?_append_right (by omega), ht, Nat.sub_self]
  rfl
theorem _root_.Go.Sep.S.br_close {bx : Nat} {v' : Value} {level start begun : Int} (hr : ∀ y ∈ e.txs, ∀ j ∈ y.fore ++ y.aft, j < e.txs.length) (hne : ∀ i, i < e.txs.length → blkOf bs i ≠ bx)
  (h : S w0 w (sl 90 1 v' (e.txs.length + 1) (ptrs bs (List.range e.txs.length) ++ [.pointer (some ⟨bx, 0, none⟩)]) :: brX b bs k e :: blk bx 103 (rnewCells level start begun) :: L)) :
  S w0 (w.setCell ⟨b, 12, none⟩ v') (renO b (bs ++ [bx]) ⟨k.tv ++ [.none], v', k.hv, k.wb⟩ { e with txs := e.txs ++ [newTx level start begun] } :: L) ∧ k.tv.length = e.txs.length := by
 have h0 : S w0 w (brX b bs k e :: sl 90 1 v' (e.txs.length + 1) (ptrs bs (List.range e.txs.length) ++ [.pointer (some ⟨bx, 0, none⟩)]) :: blk bx 103 (rnewCells level start begun) :: L) := h.swap
 obtain ⟨⟨h1, h2, h3⟩, h4⟩ := h0.sep_elim.pur_elim
 have h5 : S w0 w (cells b 12 [k.txv, .int .i64 e.count, .map (some k.wb), k.hv] :: shp b 56 16 :: mp encI (fun _ => True) k.wb (ienc e.wr) :: sl 129 4 k.hv e.hist.length (fcells opc e.hist) :: all (rtxPs bs k.tv e.txs) :: sl 90 1 v' (e.txs.length + 1) (ptrs bs (List.range e.txs.length) ++ [.pointer (some ⟨bx, 0, none⟩)]) :: blk bx 103 (rnewCells level start begun) :: L) := h4.conv (by simp only [all]; ac_rfl)
 have h6 := h5.set 0 (by simp) v'
 have h7 := S.pur_intro (p := ([] : List (Int × Int)) = ownMap []) rfl (S.sl_nil (e := 129) (size := 4) (S.sl_nil (e := 101) (size := 2) (S.sl_nil (e := 90) (size := 1) (S.sl_nil (e := 90) (size := 1) h6))))
 have hps : rtxPs (bs ++ [bx]) (k.tv ++ [.none]) (e.txs ++ [newTx level start begun]) = rtxPs bs k.tv e.txs ++ [rtxK (bs ++ [bx]) e.txs.length .none (newTx level start begun)] := rtxPs_snoc h2 h1 hr
 have hpt : ptrs (bs ++ [bx]) (List.range (e.txs.length + 1)) = ptrs bs (List.range e.txs.length) ++ [.pointer (some ⟨bx, 0, none⟩)] := by
  rw [List.range_succ]
  unfold ptrs
  rw [List.map_append, List.map_cons, List.map_nil]
  have e1 : ptr (bs ++ [bx]) e.txs.length = .pointer (some ⟨bx, 0, none⟩) := by unfold ptr; rw [← h2, blkOf_new]
  rw [e1]
  congr 1
  apply List.map_congr_left
  intro j hj
  rw [List.mem_range] at hj
  unfold ptr
  rw [blkOf_old (by omega)]
 have hnb : (bs ++ [bx]).Nodup := by
  rw [List.nodup_append]
  refine ⟨h3, by simp, fun a ha c hc => ?_⟩
  rw [List.mem_singleton] at hc
  subst hc
  obtain ⟨j, hj⟩ := List.getElem?_of_mem ha
  have hjl := (List.getElem?_eq_some_iff.1 hj).1
  intro e1
  have := hne j (by omega)
  unfold blkOf at this
  rw [hj] at this
  exact this e1
 refine ⟨.sep_intro (.pur_intro (by simp [h1]) ?_), h1⟩
 refine S.renG_join ⟨by simp [h2], by rw [rtxPs_length], hnb⟩ ?_
 simp only [List.length_append, List.length_singleton]
 rw [hps, hpt, all_append]
 have hbx : blkOf (bs ++ [bx]) e.txs.length = bx := by rw [← h2, blkOf_new]
 refine h7.conv ?_
 have hK : rtxK (bs ++ [bx]) e.txs.length .none (newTx level start begun) = sep (blk bx 103 (rnewCells level start begun)) (sep (pur (([] : List (Int × Int)) = ownMap [])) (sep (sl 129 4 (.slice none 0 0) 0 []) (sep (sl 101 2 (.slice none 0 0) 0 []) (sep (sl 90 1 (.slice none 0 0) 0 []) (sl 90 1 (.slice none 0 0) 0 []))))) := by
  unfold rtxK
  rw [hbx]
  rfl
 simp only [all, sep_emp]
 rw [hK]
 ac_rfl
end
set_option linter.unusedSimpArgs false in
set_option maxRecDepth 100000 in
set_option maxHeartbeats 8000000 in
theorem rbegin_any (w0 w : World) (b : Nat) (bs : List Nat) (e : Eng) (level : Int) (L : List HProp) (N M : Nat) (hok : OkT N e []) (hs : S w0 w (renP M [] b bs e :: L)) :
  Calls Tryz.prog 15 #[.pointer (some ⟨b, 0, none⟩), .int .i64 level] w fun r w' => r = .returned (.tuple #[.int .i64 (e.begin_ level).2.1, .int .i64 (e.begin_ level).2.2]) ∧ ∃ bs', S w0 w' (renP M [] b bs' (e.begin_ level).1 :: L) := by
 have HS := hid hs
 obtain ⟨k, K, Qs, ⟨hS, hST, hRm⟩, hs⟩ := hs.ren_open
 have hO := hs.ren_o
 have hc := hO.ren_c.2
 have c12 := hc.txs
 have c13 := hc.count
 have f13 := hc.free 13 (by omega) (by omega)
 obtain ⟨a, cap, hv, hle, hcap, hrow⟩ := hc.row
 rw [hv] at c12
 unfold maxLen at hcap
 have hal : ∀ j, j < e.txs.length → Calls Tryz.prog 47 #[.pointer (some ⟨blkOf bs j, 0, none⟩)] w fun r w' => r = .returned (.bool (e.tx j).alive) ∧ w = w' := fun j hj => ralive_any _ _ w (hok.at hj).state.1 (hO.ren_txc hj).2.state
 have hN200 := hok.few
 have hcnt := hok.cnt
 have hopn : ∀ m, (e.txs.take m).countP Tx.alive ≤ e.txs.length := fun m => Nat.le_trans List.countP_le_length (by rw [List.length_take]; omega)
 have hrefs : ∀ y ∈ e.txs, ∀ j ∈ y.fore ++ y.aft, j < e.txs.length := fun y hy => (hok.txs y hy).refs
 have hset := (hO.ren_count (e.count + 1))
 have hset2 : S w0 (w.setCell ⟨b, 13, none⟩ (.int .i64 (e.count + 1))) (sl 90 1 (.slice a e.txs.length cap) e.txs.length (ptrs bs (List.range e.txs.length)) :: brX b bs k { e with count := e.count + 1 } :: refP 47 109 b K e.last :: rtabP 3 b 2 Qs :: L) := by
  rw [← hv]; exact hset.br_open
 have hq : ∀ W {M M' : List HProp}, S w0 W (brX b bs k { e with count := e.count + 1 } :: M) → S w0 W (refP 47 109 b K e.last :: M') → W.cell? ⟨b, 12, none⟩ = some (.slice a e.txs.length cap) ∧ W.cell? ⟨b, 13, none⟩ = some (.int .i64 (e.count + 1)) ∧ W.cell? ⟨b, 1, none⟩ = some (.int .i64 e.last) := fun W M M' h h2 => by
  obtain ⟨g1, _, g3, _⟩ := h.br_see
  obtain ⟨v, h3⟩ := h2.ref_elim
  exact ⟨by rw [g1, hv], g3, h3.c0_cell 1 rfl⟩
 have hf12 : ∀ W {M : List HProp}, S w0 W (brX b bs k { e with count := e.count + 1 } :: M) → W.frozen? ⟨b, 12, none⟩ = false := fun W M h => h.br_see.2.1
 have hne : ∀ W {M : List HProp}, S w0 W (brX b bs k { e with count := e.count + 1 } :: M) → ∀ i, i < e.txs.length → blkOf bs i ≠ W.heap.size := fun W M h i hi => by
  have := h.br_see.2.2.2 i hi; omega
 have hcl : ∀ W (v' : Value) (b16 : Nat) (Y : HProp), (∀ i, i < e.txs.length → blkOf bs i ≠ b16) → S w0 W (sl 90 1 v' (e.txs.length + 1) (ptrs bs (List.range e.txs.length) ++ [.pointer (some ⟨b16, 0, none⟩)]) :: brX b bs k { e with count := e.count + 1 } :: blk b16 103 (rnewCells level e.last (e.count + 1)) :: refP 47 109 b K e.last :: rtabP 3 b 2 Qs :: Y :: L) →
   ∃ bs', S w0 (W.setCell ⟨b, 12, none⟩ v') (renP M [] b bs' { e with count := e.count + 1, txs := e.txs ++ [{ Tx.zero with level := level, start := e.last, begun := e.count + 1 }] } :: L) := fun W v' b16 Y hn h => by
  obtain ⟨g, gl⟩ := S.br_close (e := { e with count := e.count + 1 }) hrefs hn h
  have gl2 : k.tv.length = e.txs.length := gl
  refine ⟨bs ++ [b16], ?_⟩
  have g2 := g.conv (M := Y :: refP 47 109 b K e.last :: rtabP 3 b 2 Qs :: renO b (bs ++ [b16]) ⟨k.tv ++ [.none], v', k.hv, k.wb⟩ { e with count := e.count + 1, txs := e.txs ++ [newTx level e.last (e.count + 1)] } :: L) (by simp only [all]; ac_rfl)
  have hR2 : Room M [] ⟨k.tv ++ [.none], v', k.hv, k.wb⟩ { e with count := e.count + 1, txs := e.txs ++ [newTx level e.last (e.count + 1)] } := by
   intro j hj
   simp only [List.length_append, List.length_singleton] at hj
   by_cases hlt : j < e.txs.length
   ·have h1 := hRm j hlt
    have e1 : (⟨k.tv ++ [.none], v', k.hv, k.wb⟩ : RenV).v j = k.v j := by unfold RenV.v; simp only; rw [List.getElem?_append_left (by omega)]
    have e2 : ({ e with count := e.count + 1, txs := e.txs ++ [newTx level e.last (e.count + 1)] } : Eng).tx j = e.tx j := by unfold Eng.tx; simp only; rw [List.getElem?_append_left hlt]
    rw [e1, e2]; exact h1
   ·obtain rfl : j = e.txs.length := by omega
    have e1 : (⟨k.tv ++ [.none], v', k.hv, k.wb⟩ : RenV).v e.txs.length = .none := by unfold RenV.v; simp only; rw [← gl2]; simp
    have e2 : ({ e with count := e.count + 1, txs := e.txs ++ [newTx level e.last (e.count + 1)] } : Eng).tx e.txs.length = newTx level e.last (e.count + 1) := by unfold Eng.tx; simp
    rw [e1, e2]
    simp [RtxV.none, newTx, Tx.zero]
  exact S.ren_shut (k := ⟨k.tv ++ [.none], v', k.hv, k.wb⟩) (e := { e with count := e.count + 1, txs := e.txs ++ [newTx level e.last (e.count + 1)] }) ⟨hS, hST, hR2⟩ g2.tail
 have hlen : ∀ W bs' e2, S w0 W (renP M [] b bs' e2 :: L) → ∃ a2 cap2, W.cell? ⟨b, 12, none⟩ = some (.slice a2 e2.txs.length cap2) := fun W bs' e2 h => by
  obtain ⟨k2, _, _, _, h2⟩ := h.ren_open
  have g := h2.ren_o
  obtain ⟨a2, cap2, hv2, _⟩ := g.ren_c.2.row
  have := g.ren_c.2.txs
  rw [hv2] at this
  exact ⟨a2, cap2, this⟩
 have hrowl : e.txs.length + 1 ≤ 1000000000000 := by omega
 have HROW := hid hrow; have HAL := hid hal; have HOP := hid hopn; have HSET := hid hset2; have HQ := hid hq; have HF := hid hf12; have HNE := hid hne; have HCL := hid hcl; have HA := hid hrowl; have HLEN := hid hlen; have HCNT := hid hcnt; have HFEW := hid hN200
 clear hs hO hc hv hrow hal hopn hset hset2 hq hf12 hne hcl hrowl hok hrefs hlen hcnt hN200 hS hST hRm
 go_enter Tryz.func15, Tryz.ntmps15
 go_wp2_with fail
 go_loopw [6, 14] (fun f c wr => ∃ m : Nat, m ≤ e.txs.length ∧ c = .int .i64 m ∧ f = .int .i64 ((e.txs.take m).countP Tx.alive : Nat) ∧ w = wr) (fun _ c _ => e.txs.length - (intOf c).toNat)
 case atStart => exact ⟨0, Nat.zero_le _, rfl, by simp, rfl⟩
 case round =>
  obtain ⟨m, hm, rfl, rfl, rfl⟩ := hrel
  have hol := HOP.out m
  have h200 := HFEW.out
  by_cases hlt : m < e.txs.length
  ·obtain ⟨g, o, rfl, ci⟩ := HROW.out m hlt
   unfold ptr at ci
   have hst := open_take hlt
   have hal := HAL.out m hlt
   generalize hf : (e.txs.take m).countP Tx.alive = f at *
   generalize (e.tx m).alive = al at *
   have HST := hid hst; have HC := hid hal
   clear hst hf hal
   cases al with
   | true =>
    have hf2 : (e.txs.take (m + 1)).countP Tx.alive = f + 1 := by rw [HST.out, if_pos rfl]
    have HF2 := hid hf2
    clear hf2 HST
    go_wp2_with (go_at_call 47; with_reducible refine HC.out.mono ?_; rintro r w' ⟨rfl, rfl⟩)
    go_roundw
    case rel => exact ⟨m + 1, by omega, by go_num, by rw [HF2.out]; go_num, by first | rfl | trivial⟩
    case measure => simp [intOf]; omega
   | false =>
    have hf2 : (e.txs.take (m + 1)).countP Tx.alive = f := by rw [HST.out, if_neg (by simp)]; rfl
    have HF2 := hid hf2
    clear hf2 HST
    go_wp2_with (go_at_call 47; with_reducible refine HC.out.mono ?_; rintro r w' ⟨rfl, rfl⟩)
    go_roundw
    case rel => exact ⟨m + 1, by omega, by go_num, by rw [HF2.out], by first | rfl | trivial⟩
    case measure => simp [intOf]; omega
  ·obtain rfl : m = e.txs.length := by omega
   have hop : (e.txs.take e.txs.length).countP Tx.alive = e.open_ := by rw [List.take_length]; rfl
   rw [hop] at hol ⊢
   clear HROW HAL
   by_cases hlv : level < 0 ∨ 2 < level
   ·have hf : e.begin_ level = (e, 0, 1) := by unfold Eng.begin_; rw [if_pos hlv]
    have hb : decide ((0 : Int) ≤ level ∧ level ≤ 2) = false := decide_eq_false (by omega)
    have hI : Calls Tryz.prog 44 #[.int .i64 level, .int .i64 0, .int .i64 2] w fun r w' => r = .returned (.bool false) ∧ w = w' := by have := in_any level 0 2 w; rw [hb] at this; exact this
    have HF2 := hid hf; have HI := hid hI
    clear hf hop hlv hb hI
    go_wp2_with (go_at_call 44; with_reducible refine HI.out.mono ?_; rintro r w' ⟨rfl, rfl⟩)
    go_ret2
    exact ⟨by rw [HF2.out]; rfl, bs, by rw [HF2.out]; exact HS.out⟩
   have hb : decide ((0 : Int) ≤ level ∧ level ≤ 2) = true := decide_eq_true (by omega)
   have hI : Calls Tryz.prog 44 #[.int .i64 level, .int .i64 0, .int .i64 2] w fun r w' => r = .returned (.bool true) ∧ w = w' := by have := in_any level 0 2 w; rw [hb] at this; exact this
   have HI := hid hI
   clear hI hb
   by_cases hfull : 200 ≤ e.txs.length
   ·have hf : e.begin_ level = (e, 0, 12) := by unfold Eng.begin_; rw [if_neg hlv, if_pos hfull]
    have HF2 := hid hf
    have hfi : (200 : Int) ≤ (e.txs.length : Int) := by omega
    clear hf hop hlv
    go_wp2_with (go_at_call 44; with_reducible refine HI.out.mono ?_; rintro r w' ⟨rfl, rfl⟩)
    go_ret2
    exact ⟨by rw [HF2.out]; rfl, bs, by rw [HF2.out]; exact HS.out⟩
   have hfi : ¬ (200 : Int) ≤ (e.txs.length : Int) := by omega
   by_cases hsix : 6 ≤ e.open_
   ·have hf : e.begin_ level = (e, 0, 4) := by unfold Eng.begin_; rw [if_neg hlv, if_neg hfull, if_pos hsix]
    have HF2 := hid hf
    have hsi : (6 : Int) ≤ (e.open_ : Int) := by omega
    clear hf hop hlv
    go_wp2_with (go_at_call 44; with_reducible refine HI.out.mono ?_; rintro r w' ⟨rfl, rfl⟩)
    go_ret2
    exact ⟨by rw [HF2.out]; rfl, bs, by rw [HF2.out]; exact HS.out⟩
   have hsi : ¬ (6 : Int) ≤ (e.open_ : Int) := by omega
   have hf : e.begin_ level = ({ e with count := e.count + 1, txs := e.txs ++ [{ Tx.zero with level := level, start := e.last, begun := e.count + 1 }] }, (e.txs.length : Int) + 1, 0) := by unfold Eng.begin_; rw [if_neg hlv, if_neg hfull, if_neg hsix]
   have HF2 := hid hf
   have hc1 := HCNT.out.1
   have hc2 := HCNT.out.2
   clear hf hop hlv HOP
   obtain ⟨i0, hi0, hz0, hz1, hz2⟩ := info_parts Tryz.info90
   go_upto_region 15 with (go_at_call 44; with_reducible refine HI.out.mono ?_; rintro r w' ⟨rfl, rfl⟩)
   have HS0 := HSET
   clear HSET
   obtain ⟨ar, har⟩ : ∃ x, x = a := ⟨_, rfl⟩
   obtain ⟨cr, hcr⟩ : ∃ x, x = cap := ⟨_, rfl⟩
   rw [← har, ← hcr] at HS0 HQ
   clear har hcr
   go_cut [] (fun wx => ∃ bs', S w0 wx (renP M [] b bs' { e with count := e.count + 1, txs := e.txs ++ [{ Tx.zero with level := level, start := e.last, begun := e.count + 1 }] } :: L))
   case first =>
    refine region_U (S := fun w' => w'.cell? ⟨b, 12, none⟩ = some (.slice ar e.txs.length cr) ∧ w'.cell? ⟨b, 13, none⟩ = some (.int .i64 (e.count + 1)) ∧ w'.cell? ⟨b, 1, none⟩ = some (.int .i64 e.last)) (u := 21) (by kernel_rfl) (HQ.out _ (HS0.out.drew.nth 1 rfl) (HS0.out.drew.nth 2 rfl)) (fun hHeld => ?_)
    refine anyU_take (i := 0) (v := ?_) rfl (by kernel_rfl) (fun _ _ _ h => h) (Or.inl ⟨by rfl, ?_⟩) hHeld ?_
    rotate_left
    ·(intro w hSw; (try dsimp only at hSw); go_simp) <;> with_reducible rfl
    try simp only [putU]
    refine anyU_take (i := 1) (v := ?_) rfl (by kernel_rfl) (fun _ _ _ h => h) (Or.inl ⟨by rfl, ?_⟩) hHeld ?_
    rotate_left
    ·(intro w hSw; (try dsimp only at hSw); go_simp) <;> with_reducible rfl
    try simp only [putU]
    refine anyU_take (i := 2) (v := ?_) rfl (by kernel_rfl) (fun _ _ _ h => h) (Or.inl ⟨by rfl, ?_⟩) hHeld ?_
    rotate_left
    ·(intro w hSw; (try dsimp only at hSw); go_simp) <;> with_reducible rfl
    try simp only [putU]
    refine anyU_take (i := 3) (v := ?_) rfl (by kernel_rfl) (fun _ _ _ h => h) (Or.inl ⟨by rfl, ?_⟩) hHeld ?_
    rotate_left
    ·(intro w hSw; (try dsimp only at hSw); go_simp) <;> with_reducible rfl
    try simp only [putU]
    refine anyU_take (i := 4) (v := ?_) rfl (by kernel_rfl) (fun _ _ _ h => h) (Or.inl ⟨by rfl, ?_⟩) hHeld ?_
    rotate_left
    ·(intro w hSw; (try dsimp only at hSw); go_simp) <;> with_reducible rfl
    try simp only [putU]
    refine anyU_take (i := 5) (v := ?_) rfl (by kernel_rfl) (fun _ _ _ h => h) (Or.inl ⟨by rfl, ?_⟩) hHeld ?_
    rotate_left
    ·(intro w hSw; (try dsimp only at hSw); go_simp) <;> with_reducible rfl
    try simp only [putU]
    refine anyU_take (i := 6) (v := ?_) rfl (by kernel_rfl) (fun _ _ _ h => h) (Or.inl ⟨by rfl, ?_⟩) hHeld ?_
    rotate_left
    ·(intro w hSw; (try dsimp only at hSw); go_simp) <;> with_reducible rfl
    try simp only [putU]
    refine anyU_take (i := 7) (v := ?_) rfl (by kernel_rfl) (fun _ _ _ h => h) (Or.inl ⟨by rfl, ?_⟩) hHeld ?_
    rotate_left
    ·(intro w hSw; (try dsimp only at hSw); go_simp) <;> with_reducible rfl
    try simp only [putU]
    refine anyU_take (i := 8) (v := ?_) rfl (by kernel_rfl) (fun _ _ _ h => h) (Or.inl ⟨by rfl, ?_⟩) hHeld ?_
    rotate_left
    ·(intro w hSw; (try dsimp only at hSw); go_simp) <;> with_reducible rfl
    try simp only [putU]
    refine anyU_take (i := 9) (v := ?_) rfl (by kernel_rfl) (fun _ _ _ h => h) (Or.inl ⟨by rfl, ?_⟩) hHeld ?_
    rotate_left
    ·(intro w hSw; (try dsimp only at hSw); go_simp) <;> with_reducible rfl
    try simp only [putU]
    refine anyU_take (i := 10) (v := ?_) rfl (by kernel_rfl) (fun _ _ _ h => h) (Or.inl ⟨by rfl, ?_⟩) hHeld ?_
    rotate_left
    ·(intro w hSw; (try dsimp only at hSw); go_simp) <;> with_reducible rfl
    try simp only [putU]
    refine anyU_take (i := 11) (v := ?_) rfl (by kernel_rfl) (fun _ _ _ h => h) (Or.inl ⟨by rfl, ?_⟩) hHeld ?_
    rotate_left
    ·(intro w hSw; (try dsimp only at hSw); go_simp) <;> with_reducible rfl
    try simp only [putU]
    refine anyU_take (i := 12) (v := ?_) rfl (by kernel_rfl) (fun _ _ _ h => h) (Or.inl ⟨by rfl, ?_⟩) hHeld ?_
    rotate_left
    ·(intro w hSw; (try dsimp only at hSw); go_simp) <;> with_reducible rfl
    try simp only [putU]
    refine anyU_take (i := 13) (v := ?_) rfl (by kernel_rfl) (fun _ _ _ h => h) (Or.inl ⟨by rfl, ?_⟩) hHeld ?_
    rotate_left
    ·(intro w hSw; (try dsimp only at hSw); go_simp) <;> with_reducible rfl
    try simp only [putU]
    refine anyU_take (i := 14) (v := ?_) rfl (by kernel_rfl) (fun _ _ _ h => h) (Or.inl ⟨by rfl, ?_⟩) hHeld ?_
    rotate_left
    ·(intro w hSw; (try dsimp only at hSw); go_simp) <;> with_reducible rfl
    try simp only [putU]
    refine anyU_take (i := 15) (v := ?_) rfl (by kernel_rfl) (fun _ _ _ h => h) (Or.inl ⟨by rfl, ?_⟩) hHeld ?_
    rotate_left
    ·(intro w hSw; (try dsimp only at hSw); go_simp) <;> with_reducible rfl
    try simp only [putU]
    have HS := hid HS0.out.drew
    clear hHeld
    refine anyU_world (fun w => Hid (S w0 w _)) HS (fun w1 HS => ?_)
    clear HS0
    refine anyU_next (rs := [16]) (by kernel_rfl) (by simp) ?_
    refine NextU.cons rfl (fun K hK => ?_) ?_
    ·go_simp
     have hne := HNE.out _ (HS.out.nth 1 rfl)
     have HNX := hid hne
     clear hne
     replace HS := hid (HS.out.alloc (rnewCells level e.last (e.count + 1)).toArray 103)
     generalize w1.heap.size = b16 at HS HNX ⊢
     refine act_any (fun w => Hid (S w0 w _)) HS (fun w2 HS => ?_)
     refine hK.out _ _ (fun _ => (HQ.out _ (HS.out.nth 2 rfl) (HS.out.nth 3 rfl))) ?_
     clear hK K
     refine anyU_next (rs := [17]) (by kernel_rfl) (by simp) ?_
     refine NextU.cons rfl (fun K hK => ?_) ?_
     ·go_simp
      replace HS := hid (HS.out.alloc_slU (e := 90) (size := 1) [.pointer (some ⟨b16, 0, none⟩)] 1 rfl (by unfold maxLen; omega))
      generalize w2.heap.size = b17 at HS ⊢
      refine act_any (fun w => Hid (S w0 w _)) HS (fun w3 HS => ?_)
      refine hK.out _ _ (fun _ => (HQ.out _ (HS.out.nth 3 rfl) (HS.out.nth 4 rfl))) ?_
      clear hK K
      refine anyU_next (rs := [18]) (by kernel_rfl) (by simp) ?_
      refine NextU.cons rfl (fun K hK => ?_) ?_
      ·refine step_appU rfl (.tmp 45) (.tmp 58) 52 rfl 90 i0 _ 1 8 Tryz.underlying52 hi0 hz0 hz1 hz2 rfl (by decide) HS.out 2 (by rfl) (by rfl) _ 1 1 [.pointer (some ⟨b16, 0, none⟩)] (by rfl) rfl (HS.out.news_slK 0 (by rfl)) (one_pt _) HA.out (by decide) ?_
       intro v18 w4 hs
       replace HS := hid hs
       clear hs
       obtain ⟨p18, c18, rfl, _, _, _⟩ := HS.out.sl_val
       refine hK.out _ _ (fun _ => (HQ.out _ (HS.out.nth 3 rfl) (HS.out.nth 4 rfl))) ?_
       clear hK K
       try simp only [putU]
       refine anyU_pure (i := 19) (v := ?_) rfl (by kernel_rfl) (fun _ _ _ h => h) (Or.inl ⟨by rfl, ?_⟩) (fun _ => (HQ.out _ (HS.out.nth 3 rfl) (HS.out.nth 4 rfl))) ?_
       rotate_left
       ·(intro w _; go_simp) <;> with_reducible rfl
       try simp only [putU]
       refine anyU_take (i := 20) (v := ?_) rfl (by kernel_rfl) (fun _ _ _ h => h) (Or.inl ⟨by rfl, ?_⟩) (HQ.out _ (HS.out.nth 3 rfl) (HS.out.nth 4 rfl)) ?_
       rotate_left
       ·(intro w hSw; (try dsimp only at hSw); go_simp) <;> with_reducible rfl
       try simp only [putU]
       refine anyU_next (rs := [21]) (by kernel_rfl) (by simp) ?_
       refine NextU.cons rfl (fun K hK => ?_) ?_
       ·have q1 := HF.out _ (HS.out.nth 3 rfl)
        have q0 := (HQ.out _ (HS.out.nth 3 rfl) (HS.out.nth 4 rfl)).1
        go_simp
        refine hK.out _ _ (fun h => Bool.noConfusion (show true = false from h)) ?_
        clear hK K q0 q1
        refine anyU_done (by kernel_rfl) ?_ _
        go_wp2_with fail
        go_meet
        have HZ := HS.out
        simp only [List.eraseIdx_cons_succ, List.eraseIdx_cons_zero] at HZ
        exact HCL.out _ _ _ _ HNX.out (HZ.conv (M := sl 90 1 (.slice p18 (e.txs.length + 1) c18) (e.txs.length + 1) (ptrs bs (List.range e.txs.length) ++ [.pointer (some ⟨b16, 0, none⟩)]) :: brX b bs k { e with count := e.count + 1 } :: blk b16 103 (rnewCells level e.last (e.count + 1)) :: refP 47 109 b K e.last :: rtabP 3 b 2 Qs :: sl 90 1 (.slice (some ⟨b17, 0, none⟩) 1 1) 1 [.pointer (some ⟨b16, 0, none⟩)] :: L) (by simp only [all]; ac_rfl))
       exact NextU.nil
      exact NextU.nil
     exact NextU.nil
    exact NextU.nil
   ·rename World => wX
    obtain ⟨bs', hs9⟩ := hcut
    obtain ⟨a2, cap2, c12b⟩ := HLEN.out _ _ _ hs9
    simp only [List.length_append, List.length_singleton] at c12b
    have H9 := hid hs9
    clear hs9
    go_wp2_with fail
    go_ret2
    exact ⟨by rw [HF2.out]; rfl, bs', by rw [HF2.out]; exact H9.out⟩
end Go.Proofs.YtmfngjclccehaaaGreatDoor
namespace Go.Proofs.YtmfngjclccehaaaGreatDoor
open Go Go.RowKit Go.Sep
section
variable {w w0 : World} {L : List HProp} {b : Nat} {bs : List Nat} {k : EngV} {e : Eng} {i : Nat}
def rdX (b : Nat) (bs : List Nat) (k : EngV) (e : Eng) (i : Nat) : HProp :=
 sep (blk (blkOf bs i) 123 (txF (k.v i) (e.tx i))) (sep (mp encI (fun _ => True) (k.v i).mb (ienc (e.tx i).writes)) (sep (sl 120 1 (k.v i).fv (e.tx i).fore.length (ptrs bs (e.tx i).fore)) (sep (sl 120 1 (k.v i).av (e.tx i).aft.length (ptrs bs (e.tx i).aft)) (engX b bs k e i))))
theorem _root_.Go.Sep.S.rd_open (h : S w0 w (engO b bs k e :: L)) (hi : i < e.txs.length) : S w0 w (sl 139 2 (k.v i).rv (e.tx i).reads.length (pcells (e.tx i).reads) :: rdX b bs k e i :: L) := by
 refine (h.eng_tx hi).conv ?_
 simp only [all, rdX]
 rw [txK_parts]
 ac_rfl
theorem _root_.Go.Sep.S.rd_see (h : S w0 w (rdX b bs k e i :: L)) : w.cell? ⟨blkOf bs i, 5, none⟩ = some (k.v i).rv ∧ w.frozen? ⟨blkOf bs i, 5, none⟩ = false ∧ w.cell? ⟨b, 16, none⟩ = some (.map (some k.wb)) ∧ MapAt encI (fun _ => True) w k.wb (ienc e.wr) := by
 have h1 : S w0 w (blk (blkOf bs i) 123 (txF (k.v i) (e.tx i)) :: engX b bs k e i :: mp encI (fun _ => True) (k.v i).mb (ienc (e.tx i).writes) :: sl 120 1 (k.v i).fv (e.tx i).fore.length (ptrs bs (e.tx i).fore) :: sl 120 1 (k.v i).av (e.tx i).aft.length (ptrs bs (e.tx i).aft) :: L) :=
  h.conv (by simp only [all, rdX]; ac_rfl)
 obtain ⟨_, h2⟩ := h1.swap.sep_elim.pur_elim
 obtain ⟨_, h3, _, h5, _⟩ := h2.engG_see
 exact ⟨h1.blk_cell 5 rfl, h1.blk_free 5, (h3 2 _ rfl).1, h5⟩
theorem _root_.Go.Sep.S.rd_close {v' : Value} {r : Int × Int} (hi : i < e.txs.length) (h : S w0 w (sl 139 2 v' ((e.tx i).reads.length + 1) (pcells (e.tx i).reads ++ pcells [r]) :: rdX b bs k e i :: L)) :
  ∃ k', k'.txv = k.txv ∧ S w0 (w.setCell ⟨blkOf bs i, 5, none⟩ v') (engO b bs k' (e.upd i fun x => { x with reads := x.reads ++ [r] }) :: L) := by
 let x : Tx := { e.tx i with reads := (e.tx i).reads ++ [r] }
 let v : TxV := { k.v i with rv := v' }
 have h1 : S w0 w (blk (blkOf bs i) 123 (txF (k.v i) (e.tx i)) :: sl 139 2 v' ((e.tx i).reads.length + 1) (pcells (e.tx i).reads ++ pcells [r]) :: mp encI (fun _ => True) (k.v i).mb (ienc (e.tx i).writes) :: sl 120 1 (k.v i).fv (e.tx i).fore.length (ptrs bs (e.tx i).fore) :: sl 120 1 (k.v i).av (e.tx i).aft.length (ptrs bs (e.tx i).aft) :: engX b bs k e i :: L) :=
  h.conv (by simp only [all, rdX]; ac_rfl)
 have h2 := h1.blk_set 5 (by simp [txF]) v'
 have h3 : S w0 (w.setCell ⟨blkOf bs i, 5, none⟩ v') (txK bs (blkOf bs i) v x :: engX b bs k e i :: L) := by
  refine h2.conv ?_
  rw [txK_parts]
  have e1 : (txF (k.v i) (e.tx i)).set 5 v' = txF v x := rfl
  have e2 : pcells (e.tx i).reads ++ pcells [r] = pcells x.reads := by simp [x, pcells]
  have e3 : (e.tx i).reads.length + 1 = x.reads.length := by simp [x]
  rw [e1, e2, e3]
  simp only [all]
  show _ = sep (sep _ (sep (sl _ 2 v' _ _) (sep (mp encI (fun _ => True) (k.v i).mb (ienc (e.tx i).writes)) (sep (sl _ 1 (k.v i).fv (e.tx i).fore.length (ptrs bs (e.tx i).fore)) (sl _ 1 (k.v i).av (e.tx i).aft.length (ptrs bs (e.tx i).aft)))))) _
  ac_rfl
 have h4 := h3.eng_back hi
 refine ⟨k.set i v, rfl, ?_⟩
 have e4 : (e.upd i fun x => { x with reads := x.reads ++ [r] }) = { e with txs := e.txs.set i x } := by
  have := Eng.upd_set hi fun x => { x with reads := x.reads ++ [r] }
  show ({ e with txs := _ } : Eng) = _
  rw [show e.txs.modify i (fun x => { x with reads := x.reads ++ [r] }) = e.txs.set i x from this]
 rw [e4]
 exact h4
def rdV (b : Nat) (bs : List Nat) (k : EngV) (e : Eng) (i vb : Nat) (a v : Int) : HProp := sep (rdX b bs k e i) (blk vb 107 [.int .i64 a, .int .i64 v])
end
theorem Tryz.info139 : (Tryz.prog.info? 139).map (fun i => (i.zero, i.size, i.bytes)) = some (some (.agg #[.int .i64 0, .int .i64 0]), 2, 16) := by kernel_rfl
theorem one_pair (p : Int × Int) : ∀ u ∈ pcells [p], u.oneCell' = true := by
 intro u hu
 simp [pcells] at hu
 rcases hu with rfl | rfl <;> rfl
def ranErr (r : Option (Int × Int)) : Int := if r.isSome then 0 else 8
theorem readAns_eq (r : Option (Int × Int)) : readAns r = .tuple #[.agg #[.int .i64 ((r.map (·.1)).getD 0), .int .i64 ((r.map (·.2)).getD 0)], errV (ranErr r)] := by
 cases r with
 | none => rfl
 | some p => rfl
theorem tell_errV (x : Int) (w0 w : World) (L : List HProp) (hE : ErrT w0) (hs : S w0 w L) : Calls Tryz.prog 46 #[errV x] w fun ev w' => ev = .returned (.int .i64 x) ∧ S w0 w' L := by
 by_cases h : x = 0
 ·subst h
  rw [errV_0]
  exact (tell_nil w).mono fun ev w' ⟨h1, h2⟩ => ⟨h1, h2 ▸ hs⟩
 ·rw [errV_ne h]
  exact tell_no x w0 w L hE hs
set_option linter.unusedSimpArgs false in
set_option maxRecDepth 100000 in
set_option maxHeartbeats 8000000 in
theorem eread_any (w0 w : World) (b : Nat) (bs : List Nat) (e : Eng) (n key : Int) (L : List HProp) (N : Nat) (hE : ErrT w0) (hok : OkT N e []) (hN : N ≤ 90000000) (hs : S w0 w (engP b bs e :: L)) :
  Calls Tryz.prog 19 #[.pointer (some ⟨b, 0, none⟩), .int .i64 n, .int .i64 key] w fun r w' => r = .returned (.tuple #[.int .i64 (e.read n key).2.1, errV (e.read n key).2.2]) ∧ S w0 w' (engP b bs (e.read n key).1 :: L) := by
 have HS := hid hs
 obtain ⟨k, hs⟩ := hs.eng_open
 have hO : S w0 w (engO b bs k e :: storeP 107 b 0 e.V e.last :: tabP 3 b 11 e.t :: L) := hs.conv (by simp only [all]; ac_rfl)
 rcases e.err_cases n true with ⟨h1, h2⟩ | ⟨i, rfl, hi, ⟨h1, h2, h3⟩ | ⟨h1, h2⟩⟩
 ·have hf : e.read n key = (e, 0, 7) := by unfold Eng.read; rw [if_pos (by rw [h1]; decide), h1]
  have HF := hid hf; have HC := hid (of_miss w0 w b bs k e n true _ hO h2)
  clear hs hO h1 h2 hf hok
  go_enter Tryz.func19, Tryz.ntmps19
  go_wp2_with fail
  with_reducible refine HC.out.mono ?_
  rintro r w' ⟨rfl, rfl⟩
  go_wp2_with fail
  go_ret2
  exact ⟨by rw [HF.out]; rfl, by rw [HF.out]; exact HS.out⟩
 ·have hf : e.read ((i : Int) + 1) key = (e, 0, 6) := by unfold Eng.read; rw [if_pos (by rw [h1]; decide), h1]
  have HF := hid hf; have HC := hid (of_shut w0 w b bs k e i _ hO hi h3)
  clear hs hO h1 h2 h3 hf hok
  go_enter Tryz.func19, Tryz.ntmps19
  go_wp2_with fail
  with_reducible refine HC.out.mono ?_
  rintro r w' ⟨rfl, rfl⟩
  go_wp2_with fail
  go_ret2
  exact ⟨by rw [HF.out]; rfl, by rw [HF.out]; exact HS.out⟩
 ·have hi2 : ((i : Int) + 1).toNat - 1 = i := by omega
  have hc := of_ok w0 w b bs k e i true _ hO hi h2
  unfold ptr at hc
  have hx := (hO.eng_txc hi).2
  have c0 := hx.level
  have c2 := hx.start
  have c6 := hx.writes
  have l6 := Tryz.look2 hx.map key
  have HC := hid hc
  cases hw : mget (e.tx i).writes key with
  | some v =>
   have hf : e.read ((i : Int) + 1) key = (e, v, 0) := by unfold Eng.read; rw [if_neg (by rw [h1]; decide)]; simp only [hi2, hw]
   have HF := hid hf
   rw [hw] at l6
   simp only [Option.getD_some, Option.isSome_some] at l6
   clear hs hO h1 h2 hf hc hok hi2 hx hw
   go_enter Tryz.func19, Tryz.ntmps19
   go_wp2_with fail
   with_reducible refine HC.out.mono ?_
   rintro r w' ⟨rfl, rfl⟩
   go_wp2_with fail
   go_ret2
   exact ⟨by rw [HF.out]; rfl, by rw [HF.out]; exact HS.out⟩
  | none =>
   rw [hw] at l6
   simp only [Option.getD_none, Option.isSome_none] at l6
   have hl := last_any b 0 e.last w hs.store_last.1
   have HL := hid hl
   by_cases hk : keyOk key
   ·obtain ⟨kn, rfl⟩ : ∃ kn : Nat, key = kn := ⟨key.toNat, by have := hk.1; omega⟩
    have hkn : kn < 10 := by have := hk.2; omega
    obtain ⟨vs, hvs⟩ : ∃ vs, e.V[kn]? = some vs := ⟨e.V[kn]'(by rw [hok.v10]; exact hkn), by simp⟩
    have hvl := hok.row_le vs (List.mem_of_getElem? hvs)
    have hrow : e.row (kn : Int) = vs := by unfold Eng.row; simp [hvs]
    have hcall := fun at_ => read_any b 0 e.V e.last at_ kn vs w0 w _ hkn hs hvs (by omega)
    obtain ⟨r, hr⟩ : ∃ r, readV vs (e.asOf i) = r := ⟨_, rfl⟩
    obtain ⟨va, hva⟩ : ∃ va, (r.map (·.1)).getD 0 = va := ⟨_, rfl⟩
    obtain ⟨vv, hvv⟩ : ∃ vv, (r.map (·.2)).getD 0 = vv := ⟨_, rfl⟩
    obtain ⟨E, hEE⟩ : ∃ E, ranErr r = E := ⟨_, rfl⟩
    obtain ⟨fr, hfr⟩ : ∃ fr, (mget e.wr va).getD 0 = fr := ⟨_, rfl⟩
    have hE2 : (E == 2) = false := by rw [← hEE]; unfold ranErr; split <;> rfl
    obtain ⟨e1, he1⟩ : ∃ e1, (e.upd i fun x => { x with reads := x.reads ++ [((kn : Int), fr)] }) = e1 := ⟨_, rfl⟩
    have hf : e.read ((i : Int) + 1) (kn : Int) = if (e.tx i).level = 2 then (if (e1.sees i (kn : Int)).2 = true then ((e1.sees i (kn : Int)).1, vv, E) else ((e1.sees i (kn : Int)).1.goes i 13, 0, 13)) else (e1, vv, E) := by
     unfold Eng.read
     rw [if_neg (by rw [h1]; decide)]
     simp only [hi2, hw, hrow, hr, hva, hvv, hfr, he1]
     rw [if_neg (by simpa using hk)]
     rw [← hEE]; rfl
    have hok1 : OkT (N + 1) e1 [] := by rw [← he1]; exact hok.reads_in hi _
    have hlen1 : e1.txs.length = e.txs.length := by rw [← he1]; exact Eng.upd_len ..
    have hst1 : (e1.tx i).state = 0 := by rw [← he1]; exact (Eng.upd_keep (·.state) (fun x => { x with reads := x.reads ++ [((kn : Int), fr)] }) (fun _ => rfl) i).trans (h2 rfl)
    have hlv1 : (e1.tx i).level = (e.tx i).level := by rw [← he1]; exact Eng.upd_keep (·.level) (fun x => { x with reads := x.reads ++ [((kn : Int), fr)] }) (fun _ => rfl) i
    have hi1 : i < e1.txs.length := by omega
    obtain ⟨hok2, hlen2, hst2, _⟩ := sees_ok hok1 hi1 (kn : Int)
    have hrn : (e.tx i).reads.length + 1 ≤ 1000000000000 := by have := hok.reads _ (Eng.tx_mem hi); omega
    have hal1 : (e1.tx i).alive = true := by simp [Tx.alive, hst1]
    have hi3 : i < (e1.sees i (kn : Int)).1.txs.length := by omega
    have hal3 : ((e1.sees i (kn : Int)).1.tx i).alive = true := by unfold Tx.alive; rw [hst2, hst1]; rfl
    have hrdo : ∀ W M, S w0 W (storeP 107 b 0 e.V e.last :: tabP 3 b 11 e.t :: engO b bs k e :: M) → S w0 W (sl 139 2 (k.v i).rv (e.tx i).reads.length (pcells (e.tx i).reads) :: rdX b bs k e i :: storeP 107 b 0 e.V e.last :: tabP 3 b 11 e.t :: M) := fun W M h =>
     S.rd_open (h.conv (M := engO b bs k e :: storeP 107 b 0 e.V e.last :: tabP 3 b 11 e.t :: M) (by simp only [all]; ac_rfl)) hi
    obtain ⟨ar, cr, hvr, hcr, hcr2, _⟩ := (hrdo _ _ hs).sl_val
    rw [hvr] at hrdo
    have hq0 : ∀ (vb : Nat) W M, S w0 W (rdV b bs k e i vb va vv :: M) → W.cell? ⟨blkOf bs i, 5, none⟩ = some (.slice ar (e.tx i).reads.length cr) ∧ W.cell? ⟨b, 16, none⟩ = some (.map (some k.wb)) ∧ (Instr.lookup 53 (.map (some k.wb)) (.int .i64 va) false).run Tryz.prog W = .ok (.int .i64 fr) W ∧ W.cell? ⟨vb, 0, none⟩ = some (.int .i64 va) := fun vb W M h => by
     obtain ⟨g1, g2, g3, g4⟩ := h.sep_elim.rd_see
     have g5 := Tryz.look1 g4 va
     rw [hfr] at g5
     exact ⟨by rw [g1, hvr], g3, g5, h.sep_elim.swap.blk_cell 0 rfl⟩
    have hf0 : ∀ (vb : Nat) W M, S w0 W (rdV b bs k e i vb va vv :: M) → W.frozen? ⟨blkOf bs i, 5, none⟩ = false := fun vb W M h => h.sep_elim.rd_see.2.1
    have hcl : ∀ (vb : Nat) W v' M, S w0 W (sl 139 2 v' ((e.tx i).reads.length + 1) (pcells (e.tx i).reads ++ pcells [((kn : Int), fr)]) :: rdV b bs k e i vb va vv :: storeP 107 b 0 e.V e.last :: tabP 3 b 11 e.t :: M :: L) →
      S w0 (W.setCell ⟨blkOf bs i, 5, none⟩ v') (engP b bs e1 :: blk vb 107 [.int .i64 va, .int .i64 vv] :: L) := fun vb W v' M h => by
     have g1 : S w0 W (sl 139 2 v' ((e.tx i).reads.length + 1) (pcells (e.tx i).reads ++ pcells [((kn : Int), fr)]) :: rdX b bs k e i :: blk vb 107 [.int .i64 va, .int .i64 vv] :: storeP 107 b 0 e.V e.last :: tabP 3 b 11 e.t :: M :: L) := h.conv (by simp only [all, rdV]; ac_rfl)
     obtain ⟨k', _, g2⟩ := S.rd_close hi g1
     rw [he1] at g2
     have g3 : S w0 (W.setCell ⟨blkOf bs i, 5, none⟩ v') (storeP 107 b 0 e1.V e1.last :: tabP 3 b 11 e1.t :: engO b bs k' e1 :: blk vb 107 [.int .i64 va, .int .i64 vv] :: M :: L) := by
      rw [show e1.V = e.V by rw [← he1]; rfl, show e1.last = e.last by rw [← he1]; rfl, show e1.t = e.t by rw [← he1]; rfl]
      exact g2.conv (by simp only [all]; ac_rfl)
     exact (g3.eng_shut).conv (M := M :: engP b bs e1 :: blk vb 107 [.int .i64 va, .int .i64 vv] :: L) (by simp only [all]; ac_rfl) |>.tail
    have hlv : ∀ W M, S w0 W (engP b bs e1 :: M) → W.cell? ⟨blkOf bs i, 0, none⟩ = some (.int .i64 (e.tx i).level) := fun W M h => by
     obtain ⟨k', g⟩ := h.eng_open
     have g2 : S w0 W (engO b bs k' e1 :: storeP 107 b 0 e1.V e1.last :: tabP 3 b 11 e1.t :: M) := g.conv (by simp only [all]; ac_rfl)
     rw [← hlv1]; exact (g2.eng_txc hi1).2.level
    have HRD := hid hrdo; have HQ0 := hid hq0; have HF0 := hid hf0; have HCL0 := hid hcl; have HLV := hid hlv; have HA := hid hrn
    have HOK1 := hid hok1; have HOK2 := hid hok2; have HI1 := hid hi1; have HAL1 := hid hal1; have HI2 := hid hi3; have HAL2 := hid hal3; have HKEY := hid hk
    obtain ⟨i0, hi0, hz0, hz1, hz2⟩ := info_parts Tryz.info139
    by_cases hl0 : (e.tx i).level = 0
    ·
     have hat : e.asOf i = e.last := by unfold Eng.asOf; rw [if_pos hl0]
     have hcl2 := hcall e.last
     rw [← hat, hr, readAns_eq, hva, hvv, hEE, hat] at hcl2
     have hff : e.read ((i : Int) + 1) (kn : Int) = (e1, vv, E) := by rw [hf, if_neg (by omega)]
     have HRC := hid hcl2; have HFF := hid hff
     rw [hl0] at c0 HLV
     clear hs hO h1 h2 hc hok hi2 hx hw hl hk hkn hvs hvl hrow hcall hr hva hvv hEE hfr he1 hf hok1 hlen1 hst1 hlv1 hok2 hlen2 hst2 hrn hi1 hal1 hi3 hal3 hrdo hvr hcr hcr2 hq0 hf0 hcl hlv hl0 hat hcl2 hff HOK1 HOK2 HI1 HAL1 HI2 HAL2 HKEY
     go_enter Tryz.func19, Tryz.ntmps19
     go_wp2_with fail
     with_reducible refine HC.out.mono ?_
     rintro r1 w1 ⟨rfl, rfl⟩
     go_wp2_with (go_at_call 48; with_reducible refine HL.out.mono ?_; rintro r1 w1 ⟨rfl, rfl⟩)
     with_reducible refine HRC.out.mono ?_
     rintro r1 wv ⟨rfl, hs2⟩
     have hs3 := HRD.out _ _ ((hs2.alloc #[.int .i64 va, .int .i64 vv] 107).conv (M := storeP 107 b 0 e.V e.last :: tabP 3 b 11 e.t :: engO b bs k e :: blk wv.heap.size 107 [.int .i64 va, .int .i64 vv] :: L) (by simp only [all]; ac_rfl))
     have hs3 : S w0 _ (sl 139 2 (.slice ar (e.tx i).reads.length cr) (e.tx i).reads.length (pcells (e.tx i).reads) :: rdV b bs k e i wv.heap.size va vv :: storeP 107 b 0 e.V e.last :: tabP 3 b 11 e.t :: L) := hs3.conv (by simp only [all, rdV]; ac_rfl)
     have H3 := hid hs3
     clear hs2 hs3 HC HL HRC
     go_wp2_with fail
     with_reducible refine (tell_errV E w0 _ _ hE H3.out).mono ?_
     rintro r1 w3 ⟨rfl, hs4⟩
     have H4 := hid hs4
     clear hs4 H3
     go_wp2_with fail
     have HS0 := H4
     have HQ := hid (HQ0.out wv.heap.size); have HF := hid (HF0.out wv.heap.size); have HCL := hid (HCL0.out wv.heap.size)
     clear HQ0 HF0 HCL0 H4 HRD
     refine region_U (S := fun w' => w'.cell? ⟨blkOf bs i, 5, none⟩ = some (.slice ar (e.tx i).reads.length cr) ∧ w'.cell? ⟨b, 16, none⟩ = some (.map (some k.wb)) ∧ (Instr.lookup 53 (.map (some k.wb)) (.int .i64 va) false).run Tryz.prog w' = .ok (.int .i64 fr) w' ∧ w'.cell? ⟨wv.heap.size, 0, none⟩ = some (.int .i64 va)) (u := 18) (by kernel_rfl) (HQ.out _ _ (HS0.out.drew.nth 1 rfl)) (fun hHeld => ?_)
     refine anyU_take (i := 0) (v := ?_) rfl (by kernel_rfl) (fun _ _ _ h => h) (Or.inl ⟨by rfl, ?_⟩) hHeld ?_
     rotate_left
     ·(intro w hSw; (try dsimp only at hSw); go_simp) <;> with_reducible rfl
     try simp only [putU]
     refine anyU_take (i := 1) (v := ?_) rfl (by kernel_rfl) (fun _ _ _ h => h) (Or.inl ⟨by rfl, ?_⟩) hHeld ?_
     rotate_left
     ·(intro w hSw; (try dsimp only at hSw); go_simp) <;> with_reducible rfl
     try simp only [putU]
     refine anyU_take (i := 2) (v := ?_) rfl (by kernel_rfl) (fun _ _ _ h => h) (Or.inl ⟨by rfl, ?_⟩) hHeld ?_
     rotate_left
     ·(intro w hSw; (try dsimp only at hSw); go_simp) <;> with_reducible rfl
     try simp only [putU]
     refine anyU_take (i := 3) (v := ?_) rfl (by kernel_rfl) (fun _ _ _ h => h) (Or.inl ⟨by rfl, ?_⟩) hHeld ?_
     rotate_left
     ·(intro w hSw; (try dsimp only at hSw); go_simp) <;> with_reducible rfl
     try simp only [putU]
     refine anyU_take (i := 4) (v := ?_) rfl (by kernel_rfl) (fun _ _ _ h => h) (Or.inl ⟨by rfl, ?_⟩) hHeld ?_
     rotate_left
     ·(intro w hSw; (try dsimp only at hSw); go_simp) <;> with_reducible rfl
     try simp only [putU]
     refine anyU_take (i := 5) (v := ?_) rfl (by kernel_rfl) (fun _ _ _ h => h) (Or.inl ⟨by rfl, ?_⟩) hHeld ?_
     rotate_left
     ·(intro w hSw; (try dsimp only at hSw); go_simp) <;> with_reducible rfl
     try simp only [putU]
     refine anyU_take (i := 6) (v := ?_) rfl (by kernel_rfl) (fun _ _ _ h => h) (Or.inl ⟨by rfl, ?_⟩) hHeld ?_
     rotate_left
     ·(intro w hSw; (try dsimp only at hSw); go_simp) <;> with_reducible rfl
     try simp only [putU]
     refine anyU_take (i := 7) (v := ?_) rfl (by kernel_rfl) (fun _ _ _ h => h) (Or.inl ⟨by rfl, ?_⟩) hHeld ?_
     rotate_left
     ·(intro w hSw; (try dsimp only at hSw); go_simp) <;> with_reducible rfl
     try simp only [putU]
     refine anyU_take (i := 8) (v := ?_) rfl (by kernel_rfl) (fun _ _ _ h => h) (Or.inl ⟨by rfl, ?_⟩) hHeld ?_
     rotate_left
     ·(intro w hSw; (try dsimp only at hSw); go_simp) <;> with_reducible rfl
     try simp only [putU]
     refine anyU_take (i := 9) (v := ?_) rfl (by kernel_rfl) (fun _ _ _ h => h) (Or.inl ⟨by rfl, ?_⟩) hHeld ?_
     rotate_left
     ·(intro w hSw; (try dsimp only at hSw); go_simp) <;> with_reducible rfl
     try simp only [putU]
     refine anyU_take (i := 10) (v := ?_) rfl (by kernel_rfl) (fun _ _ _ h => h) (Or.inl ⟨by rfl, ?_⟩) hHeld ?_
     rotate_left
     ·(intro w hSw; (try dsimp only at hSw); go_simp) <;> with_reducible rfl
     try simp only [putU]
     refine anyU_take (i := 11) (v := ?_) rfl (by kernel_rfl) (fun _ _ _ h => h) (Or.inl ⟨by rfl, ?_⟩) hHeld ?_
     rotate_left
     ·(intro w hSw; (try dsimp only at hSw); go_simp) <;> with_reducible rfl
     try simp only [putU]
     refine anyU_take (i := 12) (v := ?_) rfl (by kernel_rfl) (fun _ _ _ h => h) (Or.inl ⟨by rfl, ?_⟩) hHeld ?_
     rotate_left
     ·(intro w hSw; (try dsimp only at hSw); go_simp) <;> with_reducible rfl
     try simp only [putU]
     refine anyU_take (i := 13) (v := ?_) rfl (by kernel_rfl) (fun _ _ _ h => h) (Or.inl ⟨by rfl, ?_⟩) hHeld ?_
     rotate_left
     ·(intro w hSw; (try dsimp only at hSw); go_simp) <;> with_reducible rfl
     try simp only [putU]
     have HS := hid HS0.out.drew
     clear hHeld
     refine anyU_world (fun w => Hid (S w0 w _)) HS (fun w1 HS => ?_)
     clear HS0
     refine anyU_next (rs := [14]) (by kernel_rfl) (by simp) ?_
     refine NextU.cons rfl (fun K hK => ?_) ?_
     ·go_simp
      replace HS := hid (HS.out.alloc_slU (e := 139) (size := 2) (pcells [((kn : Int), fr)]) 1 rfl (by unfold maxLen; omega))
      generalize w1.heap.size = b14 at HS ⊢
      refine act_any (fun w => Hid (S w0 w _)) HS (fun w2 HS => ?_)
      refine hK.out _ _ (fun _ => (HQ.out _ _ (HS.out.nth 2 rfl))) ?_
      clear hK K
      refine anyU_next (rs := [15]) (by kernel_rfl) (by simp) ?_
      refine NextU.cons rfl (fun K hK => ?_) ?_
      ·refine step_appU rfl (.tmp 64) (.tmp 74) 121 rfl 139 i0 _ 2 16 Tryz.underlying121 hi0 hz0 hz1 hz2 rfl (by decide) HS.out 1 (by rfl) (by rfl) _ 1 1 (pcells [((kn : Int), fr)]) (by rfl) rfl (HS.out.news_slK 0 (by rfl)) (one_pair _) HA.out (by decide) ?_
       intro v15 w3 hs
       replace HS := hid hs
       clear hs
       obtain ⟨p15, c15, rfl, _, _, _⟩ := HS.out.sl_val
       refine hK.out _ _ (fun _ => (HQ.out _ _ (HS.out.nth 2 rfl))) ?_
       clear hK K
       try simp only [putU]
       refine anyU_pure (i := 16) (v := ?_) rfl (by kernel_rfl) (fun _ _ _ h => h) (Or.inl ⟨by rfl, ?_⟩) (fun _ => (HQ.out _ _ (HS.out.nth 2 rfl))) ?_
       rotate_left
       ·(intro w _; go_simp) <;> with_reducible rfl
       try simp only [putU]
       refine anyU_take (i := 17) (v := ?_) rfl (by kernel_rfl) (fun _ _ _ h => h) (Or.inl ⟨by rfl, ?_⟩) (HQ.out _ _ (HS.out.nth 2 rfl)) ?_
       rotate_left
       ·(intro w hSw; (try dsimp only at hSw); go_simp) <;> with_reducible rfl
       try simp only [putU]
       refine anyU_next (rs := [18]) (by kernel_rfl) (by simp) ?_
       refine NextU.cons rfl (fun K hK => ?_) ?_
       ·have q1 := (HQ.out _ _ (HS.out.nth 2 rfl)).1
        have q2 := HF.out _ _ (HS.out.nth 2 rfl)
        go_simp
        refine hK.out _ _ (fun h => Bool.noConfusion (show true = false from h)) ?_
        clear hK K q1 q2
        refine anyU_done (by kernel_rfl) ?_ _
        have HZ := HS.out
        simp only [List.eraseIdx_cons_succ, List.eraseIdx_cons_zero] at HZ
        have h5 := HCL.out _ _ _ (HZ.conv (M := sl 139 2 (.slice p15 ((e.tx i).reads.length + 1) c15) ((e.tx i).reads.length + 1) (pcells (e.tx i).reads ++ pcells [((kn : Int), fr)]) :: rdV b bs k e i wv.heap.size va vv :: storeP 107 b 0 e.V e.last :: tabP 3 b 11 e.t :: sl 139 2 (.slice (some ⟨b14, 0, none⟩) 1 1) 1 (pcells [((kn : Int), fr)]) :: L) (by simp only [all]; ac_rfl))
        have H5 := hid h5
        have q0 := HLV.out _ _ h5
        have q9 := h5.swap.blk_cell 1 rfl
        clear HZ h5 HS HCL HQ HF HLV
        go_wp2_with fail
        go_ret2
        exact ⟨by rw [HFF.out]; rfl, by rw [HFF.out]; exact H5.out.swap.tail⟩
       exact NextU.nil
      exact NextU.nil
     exact NextU.nil
    ·by_cases hl2 : (e.tx i).level = 2
     ·
      have hat : e.asOf i = (e.tx i).start := by unfold Eng.asOf; rw [if_neg hl0]
      have hcl2 := hcall (e.tx i).start
      rw [← hat, hr, readAns_eq, hva, hvv, hEE, hat] at hcl2
      rw [if_pos hl2] at hf
      have hff := hf
      have HRC := hid hcl2; have HFF := hid hff
      rw [hl2] at c0 HLV
      clear hs hO h1 h2 hc hok hi2 hx hw hl hk hkn hvs hvl hrow hcall hr hva hvv hEE hfr he1 hf hok1 hlen1 hst1 hlv1 hok2 hlen2 hst2 hrn hi1 hal1 hi3 hal3 hrdo hvr hcr hcr2 hq0 hf0 hcl hlv hl0 hl2 hat hcl2 hff
      go_enter Tryz.func19, Tryz.ntmps19
      go_wp2_with fail
      with_reducible refine HC.out.mono ?_
      rintro r1 w1 ⟨rfl, rfl⟩
      go_wp2_with fail
      with_reducible refine HRC.out.mono ?_
      rintro r1 wv ⟨rfl, hs2⟩
      have hs3 := HRD.out _ _ ((hs2.alloc #[.int .i64 va, .int .i64 vv] 107).conv (M := storeP 107 b 0 e.V e.last :: tabP 3 b 11 e.t :: engO b bs k e :: blk wv.heap.size 107 [.int .i64 va, .int .i64 vv] :: L) (by simp only [all]; ac_rfl))
      have hs3 : S w0 _ (sl 139 2 (.slice ar (e.tx i).reads.length cr) (e.tx i).reads.length (pcells (e.tx i).reads) :: rdV b bs k e i wv.heap.size va vv :: storeP 107 b 0 e.V e.last :: tabP 3 b 11 e.t :: L) := hs3.conv (by simp only [all, rdV]; ac_rfl)
      have H3 := hid hs3
      clear hs2 hs3 HC HL HRC
      go_wp2_with fail
      with_reducible refine (tell_errV E w0 _ _ hE H3.out).mono ?_
      rintro r1 w3 ⟨rfl, hs4⟩
      have H4 := hid hs4
      clear hs4 H3
      go_wp2_with fail
      have HS0 := H4
      have HQ := hid (HQ0.out wv.heap.size); have HF := hid (HF0.out wv.heap.size); have HCL := hid (HCL0.out wv.heap.size)
      clear HQ0 HF0 HCL0 H4 HRD
      refine region_U (S := fun w' => w'.cell? ⟨blkOf bs i, 5, none⟩ = some (.slice ar (e.tx i).reads.length cr) ∧ w'.cell? ⟨b, 16, none⟩ = some (.map (some k.wb)) ∧ (Instr.lookup 53 (.map (some k.wb)) (.int .i64 va) false).run Tryz.prog w' = .ok (.int .i64 fr) w' ∧ w'.cell? ⟨wv.heap.size, 0, none⟩ = some (.int .i64 va)) (u := 18) (by kernel_rfl) (HQ.out _ _ (HS0.out.drew.nth 1 rfl)) (fun hHeld => ?_)
      refine anyU_take (i := 0) (v := ?_) rfl (by kernel_rfl) (fun _ _ _ h => h) (Or.inl ⟨by rfl, ?_⟩) hHeld ?_
      rotate_left
      ·(intro w hSw; (try dsimp only at hSw); go_simp) <;> with_reducible rfl
      try simp only [putU]
      refine anyU_take (i := 1) (v := ?_) rfl (by kernel_rfl) (fun _ _ _ h => h) (Or.inl ⟨by rfl, ?_⟩) hHeld ?_
      rotate_left
      ·(intro w hSw; (try dsimp only at hSw); go_simp) <;> with_reducible rfl
      try simp only [putU]
      refine anyU_take (i := 2) (v := ?_) rfl (by kernel_rfl) (fun _ _ _ h => h) (Or.inl ⟨by rfl, ?_⟩) hHeld ?_
      rotate_left
      ·(intro w hSw; (try dsimp only at hSw); go_simp) <;> with_reducible rfl
      try simp only [putU]
      refine anyU_take (i := 3) (v := ?_) rfl (by kernel_rfl) (fun _ _ _ h => h) (Or.inl ⟨by rfl, ?_⟩) hHeld ?_
      rotate_left
      ·(intro w hSw; (try dsimp only at hSw); go_simp) <;> with_reducible rfl
      try simp only [putU]
      refine anyU_take (i := 4) (v := ?_) rfl (by kernel_rfl) (fun _ _ _ h => h) (Or.inl ⟨by rfl, ?_⟩) hHeld ?_
      rotate_left
      ·(intro w hSw; (try dsimp only at hSw); go_simp) <;> with_reducible rfl
      try simp only [putU]
      refine anyU_take (i := 5) (v := ?_) rfl (by kernel_rfl) (fun _ _ _ h => h) (Or.inl ⟨by rfl, ?_⟩) hHeld ?_
      rotate_left
      ·(intro w hSw; (try dsimp only at hSw); go_simp) <;> with_reducible rfl
      try simp only [putU]
      refine anyU_take (i := 6) (v := ?_) rfl (by kernel_rfl) (fun _ _ _ h => h) (Or.inl ⟨by rfl, ?_⟩) hHeld ?_
      rotate_left
      ·(intro w hSw; (try dsimp only at hSw); go_simp) <;> with_reducible rfl
      try simp only [putU]
      refine anyU_take (i := 7) (v := ?_) rfl (by kernel_rfl) (fun _ _ _ h => h) (Or.inl ⟨by rfl, ?_⟩) hHeld ?_
      rotate_left
      ·(intro w hSw; (try dsimp only at hSw); go_simp) <;> with_reducible rfl
      try simp only [putU]
      refine anyU_take (i := 8) (v := ?_) rfl (by kernel_rfl) (fun _ _ _ h => h) (Or.inl ⟨by rfl, ?_⟩) hHeld ?_
      rotate_left
      ·(intro w hSw; (try dsimp only at hSw); go_simp) <;> with_reducible rfl
      try simp only [putU]
      refine anyU_take (i := 9) (v := ?_) rfl (by kernel_rfl) (fun _ _ _ h => h) (Or.inl ⟨by rfl, ?_⟩) hHeld ?_
      rotate_left
      ·(intro w hSw; (try dsimp only at hSw); go_simp) <;> with_reducible rfl
      try simp only [putU]
      refine anyU_take (i := 10) (v := ?_) rfl (by kernel_rfl) (fun _ _ _ h => h) (Or.inl ⟨by rfl, ?_⟩) hHeld ?_
      rotate_left
      ·(intro w hSw; (try dsimp only at hSw); go_simp) <;> with_reducible rfl
      try simp only [putU]
      refine anyU_take (i := 11) (v := ?_) rfl (by kernel_rfl) (fun _ _ _ h => h) (Or.inl ⟨by rfl, ?_⟩) hHeld ?_
      rotate_left
      ·(intro w hSw; (try dsimp only at hSw); go_simp) <;> with_reducible rfl
      try simp only [putU]
      refine anyU_take (i := 12) (v := ?_) rfl (by kernel_rfl) (fun _ _ _ h => h) (Or.inl ⟨by rfl, ?_⟩) hHeld ?_
      rotate_left
      ·(intro w hSw; (try dsimp only at hSw); go_simp) <;> with_reducible rfl
      try simp only [putU]
      refine anyU_take (i := 13) (v := ?_) rfl (by kernel_rfl) (fun _ _ _ h => h) (Or.inl ⟨by rfl, ?_⟩) hHeld ?_
      rotate_left
      ·(intro w hSw; (try dsimp only at hSw); go_simp) <;> with_reducible rfl
      try simp only [putU]
      have HS := hid HS0.out.drew
      clear hHeld
      refine anyU_world (fun w => Hid (S w0 w _)) HS (fun w1 HS => ?_)
      clear HS0
      refine anyU_next (rs := [14]) (by kernel_rfl) (by simp) ?_
      refine NextU.cons rfl (fun K hK => ?_) ?_
      ·go_simp
       replace HS := hid (HS.out.alloc_slU (e := 139) (size := 2) (pcells [((kn : Int), fr)]) 1 rfl (by unfold maxLen; omega))
       generalize w1.heap.size = b14 at HS ⊢
       refine act_any (fun w => Hid (S w0 w _)) HS (fun w2 HS => ?_)
       refine hK.out _ _ (fun _ => (HQ.out _ _ (HS.out.nth 2 rfl))) ?_
       clear hK K
       refine anyU_next (rs := [15]) (by kernel_rfl) (by simp) ?_
       refine NextU.cons rfl (fun K hK => ?_) ?_
       ·refine step_appU rfl (.tmp 64) (.tmp 74) 121 rfl 139 i0 _ 2 16 Tryz.underlying121 hi0 hz0 hz1 hz2 rfl (by decide) HS.out 1 (by rfl) (by rfl) _ 1 1 (pcells [((kn : Int), fr)]) (by rfl) rfl (HS.out.news_slK 0 (by rfl)) (one_pair _) HA.out (by decide) ?_
        intro v15 w3 hs
        replace HS := hid hs
        clear hs
        obtain ⟨p15, c15, rfl, _, _, _⟩ := HS.out.sl_val
        refine hK.out _ _ (fun _ => (HQ.out _ _ (HS.out.nth 2 rfl))) ?_
        clear hK K
        try simp only [putU]
        refine anyU_pure (i := 16) (v := ?_) rfl (by kernel_rfl) (fun _ _ _ h => h) (Or.inl ⟨by rfl, ?_⟩) (fun _ => (HQ.out _ _ (HS.out.nth 2 rfl))) ?_
        rotate_left
        ·(intro w _; go_simp) <;> with_reducible rfl
        try simp only [putU]
        refine anyU_take (i := 17) (v := ?_) rfl (by kernel_rfl) (fun _ _ _ h => h) (Or.inl ⟨by rfl, ?_⟩) (HQ.out _ _ (HS.out.nth 2 rfl)) ?_
        rotate_left
        ·(intro w hSw; (try dsimp only at hSw); go_simp) <;> with_reducible rfl
        try simp only [putU]
        refine anyU_next (rs := [18]) (by kernel_rfl) (by simp) ?_
        refine NextU.cons rfl (fun K hK => ?_) ?_
        ·have q1 := (HQ.out _ _ (HS.out.nth 2 rfl)).1
         have q2 := HF.out _ _ (HS.out.nth 2 rfl)
         go_simp
         refine hK.out _ _ (fun h => Bool.noConfusion (show true = false from h)) ?_
         clear hK K q1 q2
         refine anyU_done (by kernel_rfl) ?_ _
         have HZ := HS.out
         simp only [List.eraseIdx_cons_succ, List.eraseIdx_cons_zero] at HZ
         have h5 := HCL.out _ _ _ (HZ.conv (M := sl 139 2 (.slice p15 ((e.tx i).reads.length + 1) c15) ((e.tx i).reads.length + 1) (pcells (e.tx i).reads ++ pcells [((kn : Int), fr)]) :: rdV b bs k e i wv.heap.size va vv :: storeP 107 b 0 e.V e.last :: tabP 3 b 11 e.t :: sl 139 2 (.slice (some ⟨b14, 0, none⟩) 1 1) 1 (pcells [((kn : Int), fr)]) :: L) (by simp only [all]; ac_rfl))
         have H5 := hid h5
         have q0 := HLV.out _ _ h5
         have q9 := h5.swap.blk_cell 1 rfl
         clear HZ h5 HS HCL HQ HF HLV
         have hsaw := saw_any w0 _ b bs e1 i (kn : Int) _ (N + 1) [] HOK1.out HI1.out HAL1.out HKEY.out (by omega) H5.out
         unfold ptr at hsaw
         have HSAW := hid hsaw
         clear hsaw
         cases hsv : (e1.sees i (kn : Int)).2 with
         | true =>
          rw [hsv] at HSAW
          have hff : e.read ((i : Int) + 1) (kn : Int) = ((e1.sees i (kn : Int)).1, vv, E) := by rw [HFF.out, if_pos hsv]
          have HFF2 := hid hff
          clear hff HFF hsv
          go_wp2_with (go_at_call 57; with_reducible refine HSAW.out.mono ?_; rintro r w5 ⟨rfl, hs5⟩; have H6 := hid hs5; have q8 := hs5.swap.blk_cell 1 rfl; clear hs5)
          go_ret2
          exact ⟨by rw [HFF2.out]; rfl, by rw [HFF2.out]; exact H6.out.swap.tail⟩
         | false =>
          rw [hsv] at HSAW
          have hff : e.read ((i : Int) + 1) (kn : Int) = ((e1.sees i (kn : Int)).1.goes i 13, 0, 13) := by rw [HFF.out, if_neg (by rw [hsv]; decide)]
          have HFF2 := hid hff
          clear hff HFF hsv
          go_wp2_with (go_at_call 57; with_reducible refine HSAW.out.mono ?_; rintro r w5 ⟨rfl, hs5⟩; have H6 := hid hs5; have q8 := hs5.swap.blk_cell 1 rfl; clear hs5)
          have hgo := goes_any (e1.sees i (kn : Int)).1.open_ w0 w5 b bs _ i 13 _ (N + 602) [] HOK2.out HI2.out HAL2.out (by simp) (Nat.le_refl _) (by omega) H6.out
          have HGO := hid hgo
          clear hgo
          with_reducible refine HGO.out.mono ?_
          rintro r w6 ⟨rfl, hs6⟩
          have H7 := hid hs6
          clear hs6
          go_wp2_with fail
          go_ret2
          exact ⟨by rw [HFF2.out]; rfl, by rw [HFF2.out]; exact H7.out.swap.tail⟩
        exact NextU.nil
       exact NextU.nil
      exact NextU.nil
     ·
      have hat : e.asOf i = (e.tx i).start := by unfold Eng.asOf; rw [if_neg hl0]
      have hcl2 := hcall (e.tx i).start
      rw [← hat, hr, readAns_eq, hva, hvv, hEE, hat] at hcl2
      have hff : e.read ((i : Int) + 1) (kn : Int) = (e1, vv, E) := by rw [hf, if_neg hl2]
      have HRC := hid hcl2; have HFF := hid hff
      have hb0 : ((e.tx i).level == 0) = false := by simpa using hl0
      have hb2 : ((e.tx i).level == 2) = false := by simpa using hl2
      clear hs hO h1 h2 hc hok hi2 hx hw hl hk hkn hvs hvl hrow hcall hr hva hvv hEE hfr he1 hf hok1 hlen1 hst1 hlv1 hok2 hlen2 hst2 hrn hi1 hal1 hi3 hal3 hrdo hvr hcr hcr2 hq0 hf0 hcl hlv hl0 hl2 hat hcl2 hff HOK1 HOK2 HI1 HAL1 HI2 HAL2 HKEY
      go_enter Tryz.func19, Tryz.ntmps19
      go_wp2_with fail
      with_reducible refine HC.out.mono ?_
      rintro r1 w1 ⟨rfl, rfl⟩
      go_wp2_with fail
      with_reducible refine HRC.out.mono ?_
      rintro r1 wv ⟨rfl, hs2⟩
      have hs3 := HRD.out _ _ ((hs2.alloc #[.int .i64 va, .int .i64 vv] 107).conv (M := storeP 107 b 0 e.V e.last :: tabP 3 b 11 e.t :: engO b bs k e :: blk wv.heap.size 107 [.int .i64 va, .int .i64 vv] :: L) (by simp only [all]; ac_rfl))
      have hs3 : S w0 _ (sl 139 2 (.slice ar (e.tx i).reads.length cr) (e.tx i).reads.length (pcells (e.tx i).reads) :: rdV b bs k e i wv.heap.size va vv :: storeP 107 b 0 e.V e.last :: tabP 3 b 11 e.t :: L) := hs3.conv (by simp only [all, rdV]; ac_rfl)
      have H3 := hid hs3
      clear hs2 hs3 HC HL HRC
      go_wp2_with fail
      with_reducible refine (tell_errV E w0 _ _ hE H3.out).mono ?_
      rintro r1 w3 ⟨rfl, hs4⟩
      have H4 := hid hs4
      clear hs4 H3
      go_wp2_with fail
      have HS0 := H4
      have HQ := hid (HQ0.out wv.heap.size); have HF := hid (HF0.out wv.heap.size); have HCL := hid (HCL0.out wv.heap.size)
      clear HQ0 HF0 HCL0 H4 HRD
      refine region_U (S := fun w' => w'.cell? ⟨blkOf bs i, 5, none⟩ = some (.slice ar (e.tx i).reads.length cr) ∧ w'.cell? ⟨b, 16, none⟩ = some (.map (some k.wb)) ∧ (Instr.lookup 53 (.map (some k.wb)) (.int .i64 va) false).run Tryz.prog w' = .ok (.int .i64 fr) w' ∧ w'.cell? ⟨wv.heap.size, 0, none⟩ = some (.int .i64 va)) (u := 18) (by kernel_rfl) (HQ.out _ _ (HS0.out.drew.nth 1 rfl)) (fun hHeld => ?_)
      refine anyU_take (i := 0) (v := ?_) rfl (by kernel_rfl) (fun _ _ _ h => h) (Or.inl ⟨by rfl, ?_⟩) hHeld ?_
      rotate_left
      ·(intro w hSw; (try dsimp only at hSw); go_simp) <;> with_reducible rfl
      try simp only [putU]
      refine anyU_take (i := 1) (v := ?_) rfl (by kernel_rfl) (fun _ _ _ h => h) (Or.inl ⟨by rfl, ?_⟩) hHeld ?_
      rotate_left
      ·(intro w hSw; (try dsimp only at hSw); go_simp) <;> with_reducible rfl
      try simp only [putU]
      refine anyU_take (i := 2) (v := ?_) rfl (by kernel_rfl) (fun _ _ _ h => h) (Or.inl ⟨by rfl, ?_⟩) hHeld ?_
      rotate_left
      ·(intro w hSw; (try dsimp only at hSw); go_simp) <;> with_reducible rfl
      try simp only [putU]
      refine anyU_take (i := 3) (v := ?_) rfl (by kernel_rfl) (fun _ _ _ h => h) (Or.inl ⟨by rfl, ?_⟩) hHeld ?_
      rotate_left
      ·(intro w hSw; (try dsimp only at hSw); go_simp) <;> with_reducible rfl
      try simp only [putU]
      refine anyU_take (i := 4) (v := ?_) rfl (by kernel_rfl) (fun _ _ _ h => h) (Or.inl ⟨by rfl, ?_⟩) hHeld ?_
      rotate_left
      ·(intro w hSw; (try dsimp only at hSw); go_simp) <;> with_reducible rfl
      try simp only [putU]
      refine anyU_take (i := 5) (v := ?_) rfl (by kernel_rfl) (fun _ _ _ h => h) (Or.inl ⟨by rfl, ?_⟩) hHeld ?_
      rotate_left
      ·(intro w hSw; (try dsimp only at hSw); go_simp) <;> with_reducible rfl
      try simp only [putU]
      refine anyU_take (i := 6) (v := ?_) rfl (by kernel_rfl) (fun _ _ _ h => h) (Or.inl ⟨by rfl, ?_⟩) hHeld ?_
      rotate_left
      ·(intro w hSw; (try dsimp only at hSw); go_simp) <;> with_reducible rfl
      try simp only [putU]
      refine anyU_take (i := 7) (v := ?_) rfl (by kernel_rfl) (fun _ _ _ h => h) (Or.inl ⟨by rfl, ?_⟩) hHeld ?_
      rotate_left
      ·(intro w hSw; (try dsimp only at hSw); go_simp) <;> with_reducible rfl
      try simp only [putU]
      refine anyU_take (i := 8) (v := ?_) rfl (by kernel_rfl) (fun _ _ _ h => h) (Or.inl ⟨by rfl, ?_⟩) hHeld ?_
      rotate_left
      ·(intro w hSw; (try dsimp only at hSw); go_simp) <;> with_reducible rfl
      try simp only [putU]
      refine anyU_take (i := 9) (v := ?_) rfl (by kernel_rfl) (fun _ _ _ h => h) (Or.inl ⟨by rfl, ?_⟩) hHeld ?_
      rotate_left
      ·(intro w hSw; (try dsimp only at hSw); go_simp) <;> with_reducible rfl
      try simp only [putU]
      refine anyU_take (i := 10) (v := ?_) rfl (by kernel_rfl) (fun _ _ _ h => h) (Or.inl ⟨by rfl, ?_⟩) hHeld ?_
      rotate_left
      ·(intro w hSw; (try dsimp only at hSw); go_simp) <;> with_reducible rfl
      try simp only [putU]
      refine anyU_take (i := 11) (v := ?_) rfl (by kernel_rfl) (fun _ _ _ h => h) (Or.inl ⟨by rfl, ?_⟩) hHeld ?_
      rotate_left
      ·(intro w hSw; (try dsimp only at hSw); go_simp) <;> with_reducible rfl
      try simp only [putU]
      refine anyU_take (i := 12) (v := ?_) rfl (by kernel_rfl) (fun _ _ _ h => h) (Or.inl ⟨by rfl, ?_⟩) hHeld ?_
      rotate_left
      ·(intro w hSw; (try dsimp only at hSw); go_simp) <;> with_reducible rfl
      try simp only [putU]
      refine anyU_take (i := 13) (v := ?_) rfl (by kernel_rfl) (fun _ _ _ h => h) (Or.inl ⟨by rfl, ?_⟩) hHeld ?_
      rotate_left
      ·(intro w hSw; (try dsimp only at hSw); go_simp) <;> with_reducible rfl
      try simp only [putU]
      have HS := hid HS0.out.drew
      clear hHeld
      refine anyU_world (fun w => Hid (S w0 w _)) HS (fun w1 HS => ?_)
      clear HS0
      refine anyU_next (rs := [14]) (by kernel_rfl) (by simp) ?_
      refine NextU.cons rfl (fun K hK => ?_) ?_
      ·go_simp
       replace HS := hid (HS.out.alloc_slU (e := 139) (size := 2) (pcells [((kn : Int), fr)]) 1 rfl (by unfold maxLen; omega))
       generalize w1.heap.size = b14 at HS ⊢
       refine act_any (fun w => Hid (S w0 w _)) HS (fun w2 HS => ?_)
       refine hK.out _ _ (fun _ => (HQ.out _ _ (HS.out.nth 2 rfl))) ?_
       clear hK K
       refine anyU_next (rs := [15]) (by kernel_rfl) (by simp) ?_
       refine NextU.cons rfl (fun K hK => ?_) ?_
       ·refine step_appU rfl (.tmp 64) (.tmp 74) 121 rfl 139 i0 _ 2 16 Tryz.underlying121 hi0 hz0 hz1 hz2 rfl (by decide) HS.out 1 (by rfl) (by rfl) _ 1 1 (pcells [((kn : Int), fr)]) (by rfl) rfl (HS.out.news_slK 0 (by rfl)) (one_pair _) HA.out (by decide) ?_
        intro v15 w3 hs
        replace HS := hid hs
        clear hs
        obtain ⟨p15, c15, rfl, _, _, _⟩ := HS.out.sl_val
        refine hK.out _ _ (fun _ => (HQ.out _ _ (HS.out.nth 2 rfl))) ?_
        clear hK K
        try simp only [putU]
        refine anyU_pure (i := 16) (v := ?_) rfl (by kernel_rfl) (fun _ _ _ h => h) (Or.inl ⟨by rfl, ?_⟩) (fun _ => (HQ.out _ _ (HS.out.nth 2 rfl))) ?_
        rotate_left
        ·(intro w _; go_simp) <;> with_reducible rfl
        try simp only [putU]
        refine anyU_take (i := 17) (v := ?_) rfl (by kernel_rfl) (fun _ _ _ h => h) (Or.inl ⟨by rfl, ?_⟩) (HQ.out _ _ (HS.out.nth 2 rfl)) ?_
        rotate_left
        ·(intro w hSw; (try dsimp only at hSw); go_simp) <;> with_reducible rfl
        try simp only [putU]
        refine anyU_next (rs := [18]) (by kernel_rfl) (by simp) ?_
        refine NextU.cons rfl (fun K hK => ?_) ?_
        ·have q1 := (HQ.out _ _ (HS.out.nth 2 rfl)).1
         have q2 := HF.out _ _ (HS.out.nth 2 rfl)
         go_simp
         refine hK.out _ _ (fun h => Bool.noConfusion (show true = false from h)) ?_
         clear hK K q1 q2
         refine anyU_done (by kernel_rfl) ?_ _
         have HZ := HS.out
         simp only [List.eraseIdx_cons_succ, List.eraseIdx_cons_zero] at HZ
         have h5 := HCL.out _ _ _ (HZ.conv (M := sl 139 2 (.slice p15 ((e.tx i).reads.length + 1) c15) ((e.tx i).reads.length + 1) (pcells (e.tx i).reads ++ pcells [((kn : Int), fr)]) :: rdV b bs k e i wv.heap.size va vv :: storeP 107 b 0 e.V e.last :: tabP 3 b 11 e.t :: sl 139 2 (.slice (some ⟨b14, 0, none⟩) 1 1) 1 (pcells [((kn : Int), fr)]) :: L) (by simp only [all]; ac_rfl))
         have H5 := hid h5
         have q0 := HLV.out _ _ h5
         have q9 := h5.swap.blk_cell 1 rfl
         clear HZ h5 HS HCL HQ HF HLV
         go_wp2_with fail
         go_ret2
         exact ⟨by rw [HFF.out]; rfl, by rw [HFF.out]; exact H5.out.swap.tail⟩
        exact NextU.nil
       exact NextU.nil
      exact NextU.nil
   ·have hf : e.read ((i : Int) + 1) key = (e, 0, 2) := by
     unfold Eng.read
     rw [if_neg (by rw [h1]; decide)]
     simp only [hi2, hw]
     rw [if_pos hk]
    have HF := hid hf
    by_cases hl0 : (e.tx i).level = 0
    ·rw [hl0] at c0
     have HRN := hid (read_no b 0 key e.last w0 w _ HS.out hk)
     clear hs hO h1 h2 hf hc hok hi2 hx hw hl hk hl0
     go_enter Tryz.func19, Tryz.ntmps19
     go_wp2_with fail
     with_reducible refine HC.out.mono ?_
     rintro r1 w1 ⟨rfl, rfl⟩
     go_wp2_with (go_at_call 48; with_reducible refine HL.out.mono ?_; rintro r1 w1 ⟨rfl, rfl⟩)
     with_reducible refine HRN.out.mono ?_
     rintro r1 wv ⟨rfl, hs2⟩
     have H3 := hid (hs2.alloc #[.int .i64 0, .int .i64 0] 107)
     clear hs2 HC HL HRN
     go_wp2_with fail
     with_reducible refine (tell_no 2 w0 _ _ hE H3.out).mono ?_
     rintro r1 w3 ⟨rfl, hs4⟩
     have H4 := hid hs4
     clear hs4 H3
     go_wp2_with fail
     go_ret2
     exact ⟨by rw [HF.out]; rfl, by rw [HF.out]; exact H4.out.tail⟩
    ·have hb0 : ((e.tx i).level == 0) = false := by simpa using hl0
     have HRN := hid (read_no b 0 key (e.tx i).start w0 w _ HS.out hk)
     clear hs hO h1 h2 hf hc hok hi2 hx hw hl hk hl0
     go_enter Tryz.func19, Tryz.ntmps19
     go_wp2_with fail
     with_reducible refine HC.out.mono ?_
     rintro r1 w1 ⟨rfl, rfl⟩
     go_wp2_with fail
     with_reducible refine HRN.out.mono ?_
     rintro r1 wv ⟨rfl, hs2⟩
     have H3 := hid (hs2.alloc #[.int .i64 0, .int .i64 0] 107)
     clear hs2 HC HL HRN
     go_wp2_with fail
     with_reducible refine (tell_no 2 w0 _ _ hE H3.out).mono ?_
     rintro r1 w3 ⟨rfl, hs4⟩
     have H4 := hid hs4
     clear hs4 H3
     go_wp2_with fail
     go_ret2
     exact ⟨by rw [HF.out]; rfl, by rw [HF.out]; exact H4.out.tail⟩
end Go.Proofs.YtmfngjclccehaaaGreatDoor
