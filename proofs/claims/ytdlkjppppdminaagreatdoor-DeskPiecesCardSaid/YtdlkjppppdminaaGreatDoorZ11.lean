/- All of an engine over what each key has is just that. No walk in sight. -/
import Derived.Test.YtdlkjppppdminaaGreatDoorZ0
import Derived.Test.YtdlkjppppdminaaGreatDoorZ9
import Derived.Test.YtdlkjppppdminaaGreatDoorZ4
import Derived.Test.YtdlkjppppdminaaGreatDoorZ10
import Derived.Test.YtdlkjppppdminaaGreatDoorZ2
import Derived.Test.YtdlkjppppdminaaGreatDoorZ6
import Derived.Test.YtdlkjppppdminaaGreatDoorZ1
import Derived.Test.YtdlkjppppdminaaGreatDoorZ7
/- The program's engine: Begin. -/
namespace Go.Proofs.YtdlkjppppdminaaGreatDoor
open Go Go.RowKit Go.Sep
section
variable {w w0 : World} {L : List HProp} {b : Nat} {bs : List Nat} {k : EngV} {e : Eng} {i : Nat}
def bgX (b : Nat) (bs : List Nat) (k : EngV) (e : Eng) : HProp :=
 sep (pur (k.tv.length = e.txs.length ∧ bs.length = e.txs.length ∧ bs.Nodup)) (sep (shp b 108 18) (sep (cells b 14 [k.txv, .int .i64 e.count, .map (some k.wb), k.hv]) (sep (mp encI (fun _ => True) k.wb (ienc e.wr)) (sep (sl 121 4 k.hv e.hist.length (fcells opc e.hist)) (all (txPs bs k.tv e.txs))))))
theorem _root_.Go.Sep.S.bg_open (h : S w0 w (engO b bs k e :: L)) : S w0 w (sl 167 1 k.txv e.txs.length (ptrs bs (List.range e.txs.length)) :: bgX b bs k e :: L) := by
 obtain ⟨h0, h⟩ := h.sep_elim.pur_elim
 obtain ⟨⟨h1, _, h3⟩, h⟩ := h.engG_parts
 refine S.swap (.sep_intro (.pur_intro ⟨h0, h1, h3⟩ (h.conv ?_)))
 simp only [all]; ac_rfl
theorem _root_.Go.Sep.S.bg_see (h : S w0 w (bgX b bs k e :: L)) : w.cell? ⟨b, 14, none⟩ = some k.txv ∧ w.frozen? ⟨b, 14, none⟩ = false ∧ w.cell? ⟨b, 15, none⟩ = some (.int .i64 e.count) ∧ ∀ i, i < e.txs.length → blkOf bs i < w.heap.size := by
 obtain ⟨⟨h0, h1, h3⟩, h⟩ := h.sep_elim.pur_elim
 have h4 : S w0 w (cells b 14 [k.txv, .int .i64 e.count, .map (some k.wb), k.hv] :: all (txPs bs k.tv e.txs) :: shp b 108 18 :: mp encI (fun _ => True) k.wb (ienc e.wr) :: sl 121 4 k.hv e.hist.length (fcells opc e.hist) :: L) := h.conv (by simp only [all]; ac_rfl)
 refine ⟨h4.cells_cell 0 rfl, h4.cells_free 0 (show _ = some k.txv from rfl), h4.cells_cell 1 rfl, fun i hi => ?_⟩
 have hl : i < (txPs bs k.tv e.txs).length := by rw [txPs_length]; exact hi
 have h5 : S w0 w ((txPs bs k.tv e.txs)[i] :: all ((txPs bs k.tv e.txs).set i emp) :: cells b 14 [k.txv, .int .i64 e.count, .map (some k.wb), k.hv] :: shp b 108 18 :: mp encI (fun _ => True) k.wb (ienc e.wr) :: sl 121 4 k.hv e.hist.length (fcells opc e.hist) :: L) := by
  refine h4.conv ?_
  simp only [all]
  rw [all_set _ i hl emp, emp_sep, all_pick _ i hl]
  ac_rfl
 rw [txPs_get hl] at h5
 exact h5.tx_see.2.1
def newTx (level start begun : Int) : Tx := { Tx.zero with level := level, start := start, begun := begun }
def newCells (level start begun : Int) (m : Nat) : List Value := [.int .i64 level, .int .i64 0, .int .i64 start, .int .i64 begun, .int .i64 0, .slice none 0 0, .map (some m), .int .i64 0, .int .i64 0, .slice none 0 0, .slice none 0 0, .int .i64 0]
theorem blkOf_old {bs : List Nat} {x j : Nat} (h : j < bs.length) : blkOf (bs ++ [x]) j = blkOf bs j := by unfold blkOf; rw [List.getElem?_append_left h]
theorem blkOf_new (bs : List Nat) (x : Nat) : blkOf (bs ++ [x]) bs.length = x := by unfold blkOf; simp
theorem ptrs_old {bs : List Nat} {x : Nat} {l : List Nat} (h : ∀ j ∈ l, j < bs.length) : ptrs (bs ++ [x]) l = ptrs bs l := by
 unfold ptrs
 apply List.map_congr_left
 intro j hj
 unfold ptr
 rw [blkOf_old (h j hj)]
theorem txPs_snoc {bs : List Nat} {bx : Nat} {tv : List TxV} {txs : List Tx} {x : Tx} {v : TxV} (hb : bs.length = txs.length) (ht : tv.length = txs.length) (hr : ∀ y ∈ txs, ∀ j ∈ y.fore ++ y.aft, j < txs.length) :
  txPs (bs ++ [bx]) (tv ++ [v]) (txs ++ [x]) = txPs bs tv txs ++ [txK (bs ++ [bx]) bx v x] := by
 apply List.ext_getElem (by simp [txPs])
 intro j h1 h2
 rw [txPs_length, List.length_append, List.length_singleton] at h1
 simp only [txPs, List.getElem_map, List.getElem_range, List.getElem_append, List.length_map, List.length_range]
 by_cases hj : j < txs.length
 ·rw [dif_pos hj, List.getElem?_append_left (by omega), List.getElem?_append_left hj, blkOf_old (by omega)]
  have hx : (txs[j]?).getD .zero ∈ txs := by simp [hj]
  generalize (txs[j]?).getD .zero = y at hx
  have h3 := hr y hx
  unfold txK txR
  rw [ptrs_old (fun m hm => by have := h3 m (by simp [hm]); omega), ptrs_old (fun m hm => by have := h3 m (by simp [hm]); omega)]
 ·obtain rfl : j = txs.length := by omega
  rw [dif_neg hj]
  simp only [List.getElem?_append_right (Nat.le_refl _), Nat.sub_self, List.getElem?_cons_zero, Option.getD_some, List.getElem_singleton]
  rw [show txs.length = bs.length by omega, blkOf_new, List.getElem?_append_right (by omega), hb, ht, Nat.sub_self]
  rfl
theorem _root_.Go.Sep.S.bg_close {bx m : Nat} {v' : Value} {level start begun : Int} (hr : ∀ y ∈ e.txs, ∀ j ∈ y.fore ++ y.aft, j < e.txs.length) (hne : ∀ i, i < e.txs.length → blkOf bs i ≠ bx)
  (h : S w0 w (sl 167 1 v' (e.txs.length + 1) (ptrs bs (List.range e.txs.length) ++ [.pointer (some ⟨bx, 0, none⟩)]) :: bgX b bs k e :: blk bx 172 (newCells level start begun m) :: mp encI (fun _ => True) m [] :: L)) :
  ∃ k', S w0 (w.setCell ⟨b, 14, none⟩ v') (engO b (bs ++ [bx]) k' { e with txs := e.txs ++ [newTx level start begun] } :: L) := by
 have h0 : S w0 w (bgX b bs k e :: sl 167 1 v' (e.txs.length + 1) (ptrs bs (List.range e.txs.length) ++ [.pointer (some ⟨bx, 0, none⟩)]) :: blk bx 172 (newCells level start begun m) :: mp encI (fun _ => True) m [] :: L) := h.swap
 obtain ⟨⟨h1, h2, h3⟩, h4⟩ := h0.sep_elim.pur_elim
 have h5 : S w0 w (cells b 14 [k.txv, .int .i64 e.count, .map (some k.wb), k.hv] :: shp b 108 18 :: mp encI (fun _ => True) k.wb (ienc e.wr) :: sl 121 4 k.hv e.hist.length (fcells opc e.hist) :: all (txPs bs k.tv e.txs) :: sl 167 1 v' (e.txs.length + 1) (ptrs bs (List.range e.txs.length) ++ [.pointer (some ⟨bx, 0, none⟩)]) :: blk bx 172 (newCells level start begun m) :: mp encI (fun _ => True) m [] :: L) := h4.conv (by simp only [all]; ac_rfl)
 have h6 := h5.set 0 (by simp) v'
 have h7 := S.sl_nil (e := 181) (size := 2) (S.sl_nil (e := 167) (size := 1) (S.sl_nil (e := 167) (size := 1) h6))
 let v : TxV := ⟨.slice none 0 0, .slice none 0 0, .slice none 0 0, m⟩
 have hps : txPs (bs ++ [bx]) (k.tv ++ [v]) (e.txs ++ [newTx level start begun]) = txPs bs k.tv e.txs ++ [txK (bs ++ [bx]) bx v (newTx level start begun)] := txPs_snoc h2 h1 hr
 have hpt : ptrs (bs ++ [bx]) (List.range (e.txs.length + 1)) = ptrs bs (List.range e.txs.length) ++ [.pointer (some ⟨bx, 0, none⟩)] := by
  rw [List.range_succ]
  unfold ptrs
  rw [List.map_append, List.map_cons, List.map_nil]
  have e1 : ptr (bs ++ [bx]) e.txs.length = .pointer (some ⟨bx, 0, none⟩) := by unfold ptr; rw [← h2, blkOf_new]
  rw [e1]
  congr 1
  apply List.map_congr_left
  intro j hj
  rw [List.mem_range] at hj
  unfold ptr
  rw [blkOf_old (by omega)]
 have hnb : (bs ++ [bx]).Nodup := by
  rw [List.nodup_append]
  refine ⟨h3, by simp, fun a ha c hc => ?_⟩
  rw [List.mem_singleton] at hc
  subst hc
  obtain ⟨j, hj⟩ := List.getElem?_of_mem ha
  have hjl := (List.getElem?_eq_some_iff.1 hj).1
  intro e1
  have := hne j (by omega)
  unfold blkOf at this
  rw [hj] at this
  exact this e1
 refine ⟨⟨k.tv ++ [v], v', k.hv, k.wb⟩, .sep_intro (.pur_intro (by simp [h1]) ?_)⟩
 refine S.engG_join ⟨by simp [h2], by rw [txPs_length], hnb⟩ ?_
 simp only [List.length_append, List.length_singleton]
 rw [hps, hpt, all_append]
 refine h7.conv ?_
 simp only [all, sep_emp]
 show _ = sep _ (sep _ (sep _ (sep _ (sep (sep (all (txPs bs k.tv e.txs)) (sep (blk bx 172 (newCells level start begun m)) (sep (sl 181 2 (.slice none 0 0) 0 []) (sep (mp encI (fun _ => True) m []) (sep (sl 167 1 (.slice none 0 0) 0 []) (sl 167 1 (.slice none 0 0) 0 [])))))) _))))
 ac_rfl
end
theorem one_pt (x : Nat) : ∀ u ∈ [Value.pointer (some ⟨x, 0, none⟩)], u.oneCell' = true := by
 intro u hu; simp only [List.mem_singleton] at hu; subst hu; rfl
theorem open_take {e : Eng} {m : Nat} (h : m < e.txs.length) : (e.txs.take (m + 1)).countP Tx.alive = (e.txs.take m).countP Tx.alive + if (e.tx m).alive = true then 1 else 0 := by
 rw [take_succ_get (Eng.tx_some h), List.countP_append, List.countP_cons, List.countP_nil]; simp
set_option linter.unusedSimpArgs false in
set_option maxRecDepth 100000 in
set_option maxHeartbeats 8000000 in
theorem ebegin_any (w0 w : World) (b : Nat) (bs : List Nat) (e : Eng) (level : Int) (L : List HProp) (N : Nat) (hok : OkT N e []) (hs : S w0 w (engP b bs e :: L)) :
  Calls Tryz.prog 65 #[.pointer (some ⟨b, 0, none⟩), .int .i64 level] w fun r w' => r = .returned (.tuple #[.int .i64 (e.begin_ level).2.1, errV (e.begin_ level).2.2]) ∧ ∃ bs', S w0 w' (engP b bs' (e.begin_ level).1 :: L) := by
 have HS := hid hs
 obtain ⟨k, hs⟩ := hs.eng_open
 have hO : S w0 w (engO b bs k e :: storeP 99 b 0 e.V e.last :: tabP 3 b 11 e.t :: L) := hs.conv (by simp only [all]; ac_rfl)
 have hc := hO.eng_c.2
 have c14 := hc.txs
 have c15 := hc.count
 have f15 := hc.free 15 (by omega) (by omega)
 obtain ⟨a, cap, hv, hle, hcap, hrow⟩ := hc.row
 rw [hv] at c14
 unfold maxLen at hcap
 have htx : ∀ j, j < e.txs.length → TxC w bs (blkOf bs j) (k.v j) (e.tx j) := fun j hj => (hO.eng_txc hj).2
 have hN200 := hok.few
 have hcnt := hok.cnt
 have hopn : ∀ m, (e.txs.take m).countP Tx.alive ≤ e.txs.length := fun m => Nat.le_trans List.countP_le_length (by rw [List.length_take]; omega)
 have hrefs : ∀ y ∈ e.txs, ∀ j ∈ y.fore ++ y.aft, j < e.txs.length := fun y hy => (hok.txs y hy).refs
 have hset := (hO.eng_count (e.count + 1))
 have hset2 : S w0 (w.setCell ⟨b, 15, none⟩ (.int .i64 (e.count + 1))) (sl 167 1 (.slice a e.txs.length cap) e.txs.length (ptrs bs (List.range e.txs.length)) :: bgX b bs k { e with count := e.count + 1 } :: storeP 99 b 0 e.V e.last :: tabP 3 b 11 e.t :: L) := by
  rw [← hv]; exact hset.bg_open
 have hq : ∀ W {M M' : List HProp}, S w0 W (bgX b bs k { e with count := e.count + 1 } :: M) → S w0 W (storeP 99 b 0 e.V e.last :: M') → W.cell? ⟨b, 14, none⟩ = some (.slice a e.txs.length cap) ∧ W.cell? ⟨b, 15, none⟩ = some (.int .i64 (e.count + 1)) ∧ W.cell? ⟨b, 10, none⟩ = some (.int .i64 e.last) := fun W M M' h h2 => by
  obtain ⟨g1, _, g3, _⟩ := h.bg_see
  exact ⟨by rw [g1, hv], g3, h2.store_last.1⟩
 have hf14 : ∀ W {M : List HProp}, S w0 W (bgX b bs k { e with count := e.count + 1 } :: M) → W.frozen? ⟨b, 14, none⟩ = false := fun W M h => h.bg_see.2.1
 have hne : ∀ W {M : List HProp}, S w0 W (bgX b bs k { e with count := e.count + 1 } :: M) → ∀ i, i < e.txs.length → blkOf bs i ≠ W.heap.size := fun W M h i hi => by
  have := h.bg_see.2.2.2 i hi; omega
 have hla : ∀ W {M : List HProp}, S w0 W (storeP 99 b 0 e.V e.last :: M) → Calls Tryz.prog 104 #[.pointer (some ⟨b, 0, none⟩)] W fun r w' => r = .returned (.int .i64 e.last) ∧ W = w' := fun W M h => last_any b 0 e.last W h.store_last.1
 have hcl : ∀ W (v' : Value) (b16 m14 : Nat) (Y : HProp), (∀ i, i < e.txs.length → blkOf bs i ≠ b16) → S w0 W (sl 167 1 v' (e.txs.length + 1) (ptrs bs (List.range e.txs.length) ++ [.pointer (some ⟨b16, 0, none⟩)]) :: bgX b bs k { e with count := e.count + 1 } :: blk b16 172 (newCells level e.last (e.count + 1) m14) :: mp encI (fun _ => True) m14 [] :: storeP 99 b 0 e.V e.last :: tabP 3 b 11 e.t :: Y :: L) →
   ∃ bs', S w0 (W.setCell ⟨b, 14, none⟩ v') (engP b bs' { e with count := e.count + 1, txs := e.txs ++ [{ Tx.zero with level := level, start := e.last, begun := e.count + 1 }] } :: L) := fun W v' b16 m14 Y hn h => by
  obtain ⟨k', g⟩ := S.bg_close (e := { e with count := e.count + 1 }) hrefs hn h
  refine ⟨bs ++ [b16], ?_⟩
  have g2 := g.conv (M := Y :: storeP 99 b 0 e.V e.last :: tabP 3 b 11 e.t :: engO b (bs ++ [b16]) k' { e with count := e.count + 1, txs := e.txs ++ [newTx level e.last (e.count + 1)] } :: L) (by simp only [all]; ac_rfl)
  exact S.eng_shut (k := k') (e := { e with count := e.count + 1, txs := e.txs ++ [newTx level e.last (e.count + 1)] }) g2.tail
 have hlen : ∀ W bs' e2, S w0 W (engP b bs' e2 :: L) → ∃ a2 cap2, W.cell? ⟨b, 14, none⟩ = some (.slice a2 e2.txs.length cap2) := fun W bs' e2 h => by
  obtain ⟨k2, h2⟩ := h.eng_open
  have g : S w0 W (engO b bs' k2 e2 :: storeP 99 b 0 e2.V e2.last :: tabP 3 b 11 e2.t :: L) := h2.conv (by simp only [all]; ac_rfl)
  obtain ⟨a2, cap2, hv2, _⟩ := g.eng_c.2.row
  have := g.eng_c.2.txs
  rw [hv2] at this
  exact ⟨a2, cap2, this⟩
 have hrowl : e.txs.length + 1 ≤ 1000000000000 := by omega
 have HROW := hid hrow; have HTX := hid htx; have HOP := hid hopn; have HSET := hid hset2; have HQ := hid hq; have HF := hid hf14; have HNE := hid hne; have HLA := hid hla; have HCL := hid hcl; have HA := hid hrowl; have HLEN := hid hlen; have HCNT := hid hcnt; have HFEW := hid hN200
 clear hs hO hc hv hrow htx hopn hset hset2 hq hf14 hne hla hcl hrowl hok hrefs hlen hcnt hN200
 go_enter Tryz.func65, Tryz.ntmps65
 go_wp2_with fail
 go_loopw [6, 14] (fun f c wr => ∃ m : Nat, m ≤ e.txs.length ∧ c = .int .i64 m ∧ f = .int .i64 ((e.txs.take m).countP Tx.alive : Nat) ∧ wr = w) (fun _ c _ => e.txs.length - (intOf c).toNat)
 case atStart => exact ⟨0, Nat.zero_le _, rfl, by simp, rfl⟩
 case round =>
  obtain ⟨m, hm, rfl, rfl, rfl⟩ := hrel
  have hol := HOP.out m
  have h200 := HFEW.out
  by_cases hlt : m < e.txs.length
  ·obtain ⟨g, o, rfl, ci⟩ := HROW.out m hlt
   unfold ptr at ci
   have x1 := (HTX.out m hlt).state
   have hst := open_take hlt
   generalize hf : (e.txs.take m).countP Tx.alive = f at *
   have HST := hid hst
   clear hst hf
   by_cases h1 : (e.tx m).state ≤ 1
   ·have hb1 : decide ((e.tx m).state ≤ 1) = true := decide_eq_true h1
    have hf2 : (e.txs.take (m + 1)).countP Tx.alive = f + 1 := by rw [HST.out, if_pos (by simpa [Tx.alive] using h1)]
    have HF2 := hid hf2
    clear hf2 HST h1
    go_wp2_with fail
    go_roundw
    case rel => exact ⟨m + 1, by omega, by go_num, by rw [HF2.out]; go_num, by first | rfl | trivial⟩
    case measure => simp [intOf]; omega
   ·have hb1 : decide ((e.tx m).state ≤ 1) = false := decide_eq_false h1
    have hf2 : (e.txs.take (m + 1)).countP Tx.alive = f := by rw [HST.out, if_neg (by simpa [Tx.alive] using h1)]; rfl
    have HF2 := hid hf2
    clear hf2 HST h1
    go_wp2_with fail
    go_roundw
    case rel => exact ⟨m + 1, by omega, by go_num, by rw [HF2.out], by first | rfl | trivial⟩
    case measure => simp [intOf]; omega
  ·obtain rfl : m = e.txs.length := by omega
   have hop : (e.txs.take e.txs.length).countP Tx.alive = e.open_ := by rw [List.take_length]; rfl
   rw [hop] at hol ⊢
   have hlo : ∀ X : Eng × Int × Int, (level < 0 ∨ 2 < level) → e.begin_ level = (e, 0, 1) := fun _ h => by unfold Eng.begin_; rw [if_pos h]
   by_cases hl0 : level < 0
   ·have hf : e.begin_ level = (e, 0, 1) := hlo (e, 0, 0) (.inl hl0)
    have HF2 := hid hf
    clear hf hlo hop
    go_wp2_with fail
    go_ret2
    exact ⟨by rw [HF2.out]; rfl, bs, by rw [HF2.out]; exact HS.out⟩
   by_cases hl2 : 2 < level
   ·have hf : e.begin_ level = (e, 0, 1) := hlo (e, 0, 0) (.inr hl2)
    have HF2 := hid hf
    clear hf hlo hop
    go_wp2_with fail
    go_ret2
    exact ⟨by rw [HF2.out]; rfl, bs, by rw [HF2.out]; exact HS.out⟩
   clear hlo
   have hng : ¬ (level < 0 ∨ 2 < level) := by omega
   by_cases hfull : 200 ≤ e.txs.length
   ·have hf : e.begin_ level = (e, 0, 12) := by unfold Eng.begin_; rw [if_neg hng, if_pos hfull]
    have HF2 := hid hf
    have hfi : (200 : Int) ≤ (e.txs.length : Int) := by omega
    clear hf hop hng
    go_wp2_with fail
    go_ret2
    exact ⟨by rw [HF2.out]; rfl, bs, by rw [HF2.out]; exact HS.out⟩
   have hfi : ¬ (200 : Int) ≤ (e.txs.length : Int) := by omega
   by_cases hsix : 6 ≤ e.open_
   ·have hf : e.begin_ level = (e, 0, 4) := by unfold Eng.begin_; rw [if_neg hng, if_neg hfull, if_pos hsix]
    have HF2 := hid hf
    have hsi : (6 : Int) ≤ (e.open_ : Int) := by omega
    clear hf hop hng
    go_wp2_with fail
    go_ret2
    exact ⟨by rw [HF2.out]; rfl, bs, by rw [HF2.out]; exact HS.out⟩
   have hsi : ¬ (6 : Int) ≤ (e.open_ : Int) := by omega
   have hf : e.begin_ level = ({ e with count := e.count + 1, txs := e.txs ++ [{ Tx.zero with level := level, start := e.last, begun := e.count + 1 }] }, (e.txs.length : Int) + 1, 0) := by unfold Eng.begin_; rw [if_neg hng, if_neg hfull, if_neg hsix]
   have HF2 := hid hf
   have hc1 := HCNT.out.1
   have hc2 := HCNT.out.2
   clear hf hop hng HTX HROW HOP
   obtain ⟨i0, hi0, hz0, hz1, hz2⟩ := info_parts Tryz.info167
   go_upto_region 15 with fail
   have HS0 := HSET
   clear HSET
   obtain ⟨ar, har⟩ : ∃ x, x = a := ⟨_, rfl⟩
   obtain ⟨cr, hcr⟩ : ∃ x, x = cap := ⟨_, rfl⟩
   rw [← har, ← hcr] at HS0 HQ
   clear har hcr
   go_cut [] (fun wx => ∃ bs', S w0 wx (engP b bs' { e with count := e.count + 1, txs := e.txs ++ [{ Tx.zero with level := level, start := e.last, begun := e.count + 1 }] } :: L))
   case first =>
    refine region_U (S := fun w' => w'.cell? ⟨b, 14, none⟩ = some (.slice ar e.txs.length cr) ∧ w'.cell? ⟨b, 15, none⟩ = some (.int .i64 (e.count + 1)) ∧ w'.cell? ⟨b, 10, none⟩ = some (.int .i64 e.last)) (u := 21) (by kernel_rfl) (HQ.out _ (HS0.out.drew.nth 1 rfl) (HS0.out.drew.nth 2 rfl)) (fun hHeld => ?_)
    refine anyU_take (i := 0) (v := ?_) rfl (by kernel_rfl) (fun _ _ _ h => h) (Or.inl ⟨by rfl, ?_⟩) hHeld ?_
    rotate_left
    ·(intro w hSw; (try dsimp only at hSw); go_simp) <;> with_reducible rfl
    try simp only [putU]
    refine anyU_take (i := 1) (v := ?_) rfl (by kernel_rfl) (fun _ _ _ h => h) (Or.inl ⟨by rfl, ?_⟩) hHeld ?_
    rotate_left
    ·(intro w hSw; (try dsimp only at hSw); go_simp) <;> with_reducible rfl
    try simp only [putU]
    refine anyU_take (i := 2) (v := ?_) rfl (by kernel_rfl) (fun _ _ _ h => h) (Or.inl ⟨by rfl, ?_⟩) hHeld ?_
    rotate_left
    ·(intro w hSw; (try dsimp only at hSw); go_simp) <;> with_reducible rfl
    try simp only [putU]
    refine anyU_take (i := 3) (v := ?_) rfl (by kernel_rfl) (fun _ _ _ h => h) (Or.inl ⟨by rfl, ?_⟩) hHeld ?_
    rotate_left
    ·(intro w hSw; (try dsimp only at hSw); go_simp) <;> with_reducible rfl
    try simp only [putU]
    refine anyU_take (i := 4) (v := ?_) rfl (by kernel_rfl) (fun _ _ _ h => h) (Or.inl ⟨by rfl, ?_⟩) hHeld ?_
    rotate_left
    ·(intro w hSw; (try dsimp only at hSw); go_simp) <;> with_reducible rfl
    try simp only [putU]
    refine anyU_take (i := 5) (v := ?_) rfl (by kernel_rfl) (fun _ _ _ h => h) (Or.inl ⟨by rfl, ?_⟩) hHeld ?_
    rotate_left
    ·(intro w hSw; (try dsimp only at hSw); go_simp) <;> with_reducible rfl
    try simp only [putU]
    refine anyU_take (i := 6) (v := ?_) rfl (by kernel_rfl) (fun _ _ _ h => h) (Or.inl ⟨by rfl, ?_⟩) hHeld ?_
    rotate_left
    ·(intro w hSw; (try dsimp only at hSw); go_simp) <;> with_reducible rfl
    try simp only [putU]
    refine anyU_take (i := 7) (v := ?_) rfl (by kernel_rfl) (fun _ _ _ h => h) (Or.inl ⟨by rfl, ?_⟩) hHeld ?_
    rotate_left
    ·(intro w hSw; (try dsimp only at hSw); go_simp) <;> with_reducible rfl
    try simp only [putU]
    refine anyU_take (i := 8) (v := ?_) rfl (by kernel_rfl) (fun _ _ _ h => h) (Or.inl ⟨by rfl, ?_⟩) hHeld ?_
    rotate_left
    ·(intro w hSw; (try dsimp only at hSw); go_simp) <;> with_reducible rfl
    try simp only [putU]
    refine anyU_take (i := 10) (v := ?_) rfl (by kernel_rfl) (fun _ _ _ h => h) (Or.inl ⟨by rfl, ?_⟩) hHeld ?_
    rotate_left
    ·(intro w hSw; (try dsimp only at hSw); go_simp) <;> with_reducible rfl
    try simp only [putU]
    refine anyU_take (i := 11) (v := ?_) rfl (by kernel_rfl) (fun _ _ _ h => h) (Or.inl ⟨by rfl, ?_⟩) hHeld ?_
    rotate_left
    ·(intro w hSw; (try dsimp only at hSw); go_simp) <;> with_reducible rfl
    try simp only [putU]
    refine anyU_take (i := 12) (v := ?_) rfl (by kernel_rfl) (fun _ _ _ h => h) (Or.inl ⟨by rfl, ?_⟩) hHeld ?_
    rotate_left
    ·(intro w hSw; (try dsimp only at hSw); go_simp) <;> with_reducible rfl
    try simp only [putU]
    refine anyU_take (i := 13) (v := ?_) rfl (by kernel_rfl) (fun _ _ _ h => h) (Or.inl ⟨by rfl, ?_⟩) hHeld ?_
    rotate_left
    ·(intro w hSw; (try dsimp only at hSw); go_simp) <;> with_reducible rfl
    try simp only [putU]
    have HS := hid HS0.out.drew
    clear hHeld
    refine anyU_world (fun w => Hid (S w0 w _)) HS (fun w1 HS => ?_)
    clear HS0
    refine anyU_next (rs := [9, 14]) (by kernel_rfl) (by simp) ?_
    refine NextU.cons rfl (fun K hK => ?_) ?_
    ·go_simp
     go_wp2_with (go_at_call 104; with_reducible refine (HLA.out _ (HS.out.nth 2 rfl)).mono ?_; rintro r w9 ⟨rfl, rfl⟩)
     refine hK.out _ _ (fun _ => (HQ.out _ (HS.out.nth 1 rfl) (HS.out.nth 2 rfl))) ?_
     clear hK K
     refine anyU_next (rs := [14]) (by kernel_rfl) (by simp) ?_
     refine NextU.cons rfl (fun K hK => ?_) ?_
     ·have hmm := @run_makeMap Tryz.prog
      go_simp
      clear hmm
      replace HS := hid (HS.out.made (enc := Sep.encI) (ok := fun _ => True))
      generalize w1.heap.size = m14 at HS ⊢
      refine act_any (fun w => Hid (S w0 w _)) HS (fun w2 HS => ?_)
      refine hK.out _ _ (fun _ => (HQ.out _ (HS.out.nth 2 rfl) (HS.out.nth 3 rfl))) ?_
      clear hK K
      refine anyU_take (i := 15) (v := ?_) rfl (by kernel_rfl) (fun _ _ _ h => h) (Or.inl ⟨by rfl, ?_⟩) (HQ.out _ (HS.out.nth 2 rfl) (HS.out.nth 3 rfl)) ?_
      rotate_left
      ·(intro w hSw; (try dsimp only at hSw); go_simp) <;> with_reducible rfl
      try simp only [putU]
      refine anyU_next (rs := [16]) (by kernel_rfl) (by simp) ?_
      refine NextU.cons rfl (fun K hK => ?_) ?_
      ·go_simp
       have hne := HNE.out _ (HS.out.nth 2 rfl)
       have HNX := hid hne
       clear hne
       replace HS := hid (HS.out.alloc (newCells level e.last (e.count + 1) m14).toArray 172)
       generalize w2.heap.size = b16 at HS HNX ⊢
       refine act_any (fun w => Hid (S w0 w _)) HS (fun w3 HS => ?_)
       refine hK.out _ _ (fun _ => (HQ.out _ (HS.out.nth 3 rfl) (HS.out.nth 4 rfl))) ?_
       clear hK K
       refine anyU_next (rs := [17]) (by kernel_rfl) (by simp) ?_
       refine NextU.cons rfl (fun K hK => ?_) ?_
       ·go_simp
        replace HS := hid (HS.out.alloc_slU (e := 167) (size := 1) [.pointer (some ⟨b16, 0, none⟩)] 1 rfl (by unfold maxLen; omega))
        generalize w3.heap.size = b17 at HS ⊢
        refine act_any (fun w => Hid (S w0 w _)) HS (fun w4 HS => ?_)
        refine hK.out _ _ (fun _ => (HQ.out _ (HS.out.nth 4 rfl) (HS.out.nth 5 rfl))) ?_
        clear hK K
        refine anyU_next (rs := [18]) (by kernel_rfl) (by simp) ?_
        refine NextU.cons rfl (fun K hK => ?_) ?_
        ·refine step_appU rfl (.tmp 57) (.tmp 70) 105 rfl 167 i0 _ 1 8 Tryz.underlying105 hi0 hz0 hz1 hz2 rfl (by decide) HS.out 3 (by rfl) (by rfl) _ 1 1 [.pointer (some ⟨b16, 0, none⟩)] (by rfl) rfl (HS.out.news_slK 0 (by rfl)) (one_pt _) HA.out (by decide) ?_
         intro v18 w5 hs
         replace HS := hid hs
         clear hs
         obtain ⟨p18, c18, rfl, _, _, _⟩ := HS.out.sl_val
         refine hK.out _ _ (fun _ => (HQ.out _ (HS.out.nth 4 rfl) (HS.out.nth 5 rfl))) ?_
         clear hK K
         try simp only [putU]
         refine anyU_pure (i := 19) (v := ?_) rfl (by kernel_rfl) (fun _ _ _ h => h) (Or.inl ⟨by rfl, ?_⟩) (fun _ => (HQ.out _ (HS.out.nth 4 rfl) (HS.out.nth 5 rfl))) ?_
         rotate_left
         ·(intro w _; go_simp) <;> with_reducible rfl
         try simp only [putU]
         refine anyU_take (i := 20) (v := ?_) rfl (by kernel_rfl) (fun _ _ _ h => h) (Or.inl ⟨by rfl, ?_⟩) (HQ.out _ (HS.out.nth 4 rfl) (HS.out.nth 5 rfl)) ?_
         rotate_left
         ·(intro w hSw; (try dsimp only at hSw); go_simp) <;> with_reducible rfl
         try simp only [putU]
         refine anyU_next (rs := [21]) (by kernel_rfl) (by simp) ?_
         refine NextU.cons rfl (fun K hK => ?_) ?_
         ·have q1 := HF.out _ (HS.out.nth 4 rfl)
          have q0 := (HQ.out _ (HS.out.nth 4 rfl) (HS.out.nth 5 rfl)).1
          go_simp
          refine hK.out _ _ (fun h => Bool.noConfusion (show true = false from h)) ?_
          clear hK K q0 q1
          refine anyU_done (by kernel_rfl) ?_ _
          go_wp2_with fail
          go_meet
          have HZ := HS.out
          simp only [List.eraseIdx_cons_succ, List.eraseIdx_cons_zero] at HZ
          exact HCL.out _ _ _ _ _ HNX.out (HZ.conv (M := sl 167 1 (.slice p18 (e.txs.length + 1) c18) (e.txs.length + 1) (ptrs bs (List.range e.txs.length) ++ [.pointer (some ⟨b16, 0, none⟩)]) :: bgX b bs k { e with count := e.count + 1 } :: blk b16 172 (newCells level e.last (e.count + 1) m14) :: mp encI (fun _ => True) m14 [] :: storeP 99 b 0 e.V e.last :: tabP 3 b 11 e.t :: sl 167 1 (.slice (some ⟨b17, 0, none⟩) 1 1) 1 [.pointer (some ⟨b16, 0, none⟩)] :: L) (by simp only [all, newCells]; ac_rfl))
         exact NextU.nil
        exact NextU.nil
       exact NextU.nil
      exact NextU.nil
     exact NextU.nil
    refine NextU.cons rfl (fun K hK => ?_) ?_
    ·have hmm := @run_makeMap Tryz.prog
     go_simp
     clear hmm
     replace HS := hid (HS.out.made (enc := Sep.encI) (ok := fun _ => True))
     generalize w1.heap.size = m14 at HS ⊢
     refine act_any (fun w => Hid (S w0 w _)) HS (fun w2 HS => ?_)
     refine hK.out _ _ (fun _ => (HQ.out _ (HS.out.nth 2 rfl) (HS.out.nth 3 rfl))) ?_
     clear hK K
     refine anyU_next (rs := [9]) (by kernel_rfl) (by simp) ?_
     refine NextU.cons rfl (fun K hK => ?_) ?_
     ·go_simp
      go_wp2_with (go_at_call 104; with_reducible refine (HLA.out _ (HS.out.nth 3 rfl)).mono ?_; rintro r w9 ⟨rfl, rfl⟩)
      refine hK.out _ _ (fun _ => (HQ.out _ (HS.out.nth 2 rfl) (HS.out.nth 3 rfl))) ?_
      clear hK K
      refine anyU_take (i := 15) (v := ?_) rfl (by kernel_rfl) (fun _ _ _ h => h) (Or.inl ⟨by rfl, ?_⟩) (HQ.out _ (HS.out.nth 2 rfl) (HS.out.nth 3 rfl)) ?_
      rotate_left
      ·(intro w hSw; (try dsimp only at hSw); go_simp) <;> with_reducible rfl
      try simp only [putU]
      refine anyU_next (rs := [16]) (by kernel_rfl) (by simp) ?_
      refine NextU.cons rfl (fun K hK => ?_) ?_
      ·go_simp
       have hne := HNE.out _ (HS.out.nth 2 rfl)
       have HNX := hid hne
       clear hne
       replace HS := hid (HS.out.alloc (newCells level e.last (e.count + 1) m14).toArray 172)
       generalize w2.heap.size = b16 at HS HNX ⊢
       refine act_any (fun w => Hid (S w0 w _)) HS (fun w3 HS => ?_)
       refine hK.out _ _ (fun _ => (HQ.out _ (HS.out.nth 3 rfl) (HS.out.nth 4 rfl))) ?_
       clear hK K
       refine anyU_next (rs := [17]) (by kernel_rfl) (by simp) ?_
       refine NextU.cons rfl (fun K hK => ?_) ?_
       ·go_simp
        replace HS := hid (HS.out.alloc_slU (e := 167) (size := 1) [.pointer (some ⟨b16, 0, none⟩)] 1 rfl (by unfold maxLen; omega))
        generalize w3.heap.size = b17 at HS ⊢
        refine act_any (fun w => Hid (S w0 w _)) HS (fun w4 HS => ?_)
        refine hK.out _ _ (fun _ => (HQ.out _ (HS.out.nth 4 rfl) (HS.out.nth 5 rfl))) ?_
        clear hK K
        refine anyU_next (rs := [18]) (by kernel_rfl) (by simp) ?_
        refine NextU.cons rfl (fun K hK => ?_) ?_
        ·refine step_appU rfl (.tmp 57) (.tmp 70) 105 rfl 167 i0 _ 1 8 Tryz.underlying105 hi0 hz0 hz1 hz2 rfl (by decide) HS.out 3 (by rfl) (by rfl) _ 1 1 [.pointer (some ⟨b16, 0, none⟩)] (by rfl) rfl (HS.out.news_slK 0 (by rfl)) (one_pt _) HA.out (by decide) ?_
         intro v18 w5 hs
         replace HS := hid hs
         clear hs
         obtain ⟨p18, c18, rfl, _, _, _⟩ := HS.out.sl_val
         refine hK.out _ _ (fun _ => (HQ.out _ (HS.out.nth 4 rfl) (HS.out.nth 5 rfl))) ?_
         clear hK K
         try simp only [putU]
         refine anyU_pure (i := 19) (v := ?_) rfl (by kernel_rfl) (fun _ _ _ h => h) (Or.inl ⟨by rfl, ?_⟩) (fun _ => (HQ.out _ (HS.out.nth 4 rfl) (HS.out.nth 5 rfl))) ?_
         rotate_left
         ·(intro w _; go_simp) <;> with_reducible rfl
         try simp only [putU]
         refine anyU_take (i := 20) (v := ?_) rfl (by kernel_rfl) (fun _ _ _ h => h) (Or.inl ⟨by rfl, ?_⟩) (HQ.out _ (HS.out.nth 4 rfl) (HS.out.nth 5 rfl)) ?_
         rotate_left
         ·(intro w hSw; (try dsimp only at hSw); go_simp) <;> with_reducible rfl
         try simp only [putU]
         refine anyU_next (rs := [21]) (by kernel_rfl) (by simp) ?_
         refine NextU.cons rfl (fun K hK => ?_) ?_
         ·have q1 := HF.out _ (HS.out.nth 4 rfl)
          have q0 := (HQ.out _ (HS.out.nth 4 rfl) (HS.out.nth 5 rfl)).1
          go_simp
          refine hK.out _ _ (fun h => Bool.noConfusion (show true = false from h)) ?_
          clear hK K q0 q1
          refine anyU_done (by kernel_rfl) ?_ _
          go_wp2_with fail
          go_meet
          have HZ := HS.out
          simp only [List.eraseIdx_cons_succ, List.eraseIdx_cons_zero] at HZ
          exact HCL.out _ _ _ _ _ HNX.out (HZ.conv (M := sl 167 1 (.slice p18 (e.txs.length + 1) c18) (e.txs.length + 1) (ptrs bs (List.range e.txs.length) ++ [.pointer (some ⟨b16, 0, none⟩)]) :: bgX b bs k { e with count := e.count + 1 } :: blk b16 172 (newCells level e.last (e.count + 1) m14) :: mp encI (fun _ => True) m14 [] :: storeP 99 b 0 e.V e.last :: tabP 3 b 11 e.t :: sl 167 1 (.slice (some ⟨b17, 0, none⟩) 1 1) 1 [.pointer (some ⟨b16, 0, none⟩)] :: L) (by simp only [all, newCells]; ac_rfl))
         exact NextU.nil
        exact NextU.nil
       exact NextU.nil
      exact NextU.nil
     exact NextU.nil
    exact NextU.nil
   ·rename World => wX
    obtain ⟨bs', hs9⟩ := hcut
    obtain ⟨a2, cap2, c14b⟩ := HLEN.out _ _ _ hs9
    simp only [List.length_append, List.length_singleton] at c14b
    have H9 := hid hs9
    clear hs9
    go_wp2_with fail
    go_ret2
    exact ⟨by rw [HF2.out]; rfl, bs', by rw [HF2.out]; exact H9.out⟩
end Go.Proofs.YtdlkjppppdminaaGreatDoor
/- The program's engine: Commit. -/
namespace Go.Proofs.YtdlkjppppdminaaGreatDoor
open Go Go.RowKit Go.Sep
section
variable {w w0 : World} {L : List HProp} {b : Nat} {bs : List Nat} {k : EngV} {e : Eng} {i : Nat}
def hiX (b : Nat) (bs : List Nat) (k : EngV) (e : Eng) : HProp :=
 sep (pur (k.tv.length = e.txs.length)) (sep (pur (bs.length = e.txs.length ∧ (txPs bs k.tv e.txs).length = e.txs.length ∧ bs.Nodup)) (sep (shp b 108 18) (sep (cells b 14 [k.txv, .int .i64 e.count, .map (some k.wb), k.hv]) (sep (sl 167 1 k.txv e.txs.length (ptrs bs (List.range e.txs.length))) (sep (mp encI (fun _ => True) k.wb (ienc e.wr)) (all (txPs bs k.tv e.txs)))))))
theorem _root_.Go.Sep.S.hi_open (h : S w0 w (engO b bs k e :: L)) : S w0 w (sl 121 4 k.hv e.hist.length (fcells opc e.hist) :: hiX b bs k e :: L) := by
 refine h.conv ?_
 simp only [all, engO, engG, hiX]
 ac_rfl
theorem _root_.Go.Sep.S.hi_see (h : S w0 w (hiX b bs k e :: L)) : w.cell? ⟨b, 17, none⟩ = some k.hv ∧ w.frozen? ⟨b, 17, none⟩ = false := by
 have h1 := h.sep_elim.pur_elim.2.sep_elim.pur_elim.2
 have h4 : S w0 w (cells b 14 [k.txv, .int .i64 e.count, .map (some k.wb), k.hv] :: shp b 108 18 :: sl 167 1 k.txv e.txs.length (ptrs bs (List.range e.txs.length)) :: mp encI (fun _ => True) k.wb (ienc e.wr) :: all (txPs bs k.tv e.txs) :: L) := h1.conv (by simp only [all]; ac_rfl)
 exact ⟨h4.cells_cell 3 rfl, h4.cells_free 3 (show _ = some k.hv from rfl)⟩
theorem _root_.Go.Sep.S.hi_close {v' : Value} {o : Op1} (h : S w0 w (sl 121 4 v' (e.hist.length + 1) (fcells opc e.hist ++ opc o) :: hiX b bs k e :: L)) :
  S w0 (w.setCell ⟨b, 17, none⟩ v') (engO b bs { k with hv := v' } { e with hist := e.hist ++ [o] } :: L) := by
 obtain ⟨hp, h1⟩ := h.swap.sep_elim.pur_elim
 obtain ⟨hp2, h2⟩ := h1.sep_elim.pur_elim
 have h4 : S w0 w (cells b 14 [k.txv, .int .i64 e.count, .map (some k.wb), k.hv] :: shp b 108 18 :: sl 167 1 k.txv e.txs.length (ptrs bs (List.range e.txs.length)) :: mp encI (fun _ => True) k.wb (ienc e.wr) :: all (txPs bs k.tv e.txs) :: sl 121 4 v' (e.hist.length + 1) (fcells opc e.hist ++ opc o) :: L) := h2.conv (by simp only [all]; ac_rfl)
 have h5 := h4.set 3 (by simp) v'
 have e1 : fcells opc e.hist ++ opc o = fcells opc (e.hist ++ [o]) := by rw [fcells_append, fcells_one]
 have e2 : e.hist.length + 1 = (e.hist ++ [o]).length := by simp
 rw [e1, e2] at h5
 refine .sep_intro (.pur_intro hp (S.engG_join hp2 (h5.conv ?_)))
 simp only [all]
 show sep (cells b 14 [k.txv, .int .i64 e.count, .map (some k.wb), v']) _ = _
 ac_rfl
def hiV (b : Nat) (bs : List Nat) (k : EngV) (e : Eng) (T vb : Nat) (x y : Int) : HProp := sep (hiX b bs k e) (blk vb T [.int .i64 x, .int .i64 y])
theorem eng_wrput (h : S w0 w (engO b bs k e :: L)) (at_ n : Int) : ∃ w', (Instr.mapUpdate 101 (.map (some k.wb)) (.int .i64 at_) (.int .i64 n)).run Tryz.prog w = .ok () w' ∧ S w0 w' (engO b bs k { e with wr := mput e.wr at_ n } :: L) := by
 have h1 : S w0 w (mp encI (fun _ => True) k.wb (ienc e.wr) :: pur (k.tv.length = e.txs.length) :: pur (bs.length = e.txs.length ∧ (txPs bs k.tv e.txs).length = e.txs.length ∧ bs.Nodup) :: shp b 108 18 :: cells b 14 [k.txv, .int .i64 e.count, .map (some k.wb), k.hv] :: sl 167 1 k.txv e.txs.length (ptrs bs (List.range e.txs.length)) :: sl 121 4 k.hv e.hist.length (fcells opc e.hist) :: all (txPs bs k.tv e.txs) :: L) :=
  h.conv (by simp only [all, engO, engG]; ac_rfl)
 obtain ⟨w', hr, h2⟩ := h1.put Tryz.keyInt Tryz.underlying101 at_ trivial (.int .i64 n)
 refine ⟨w', hr, ?_⟩
 have e1 : mput (ienc e.wr) at_ (.int .i64 n) = ienc (mput e.wr at_ n) := ienc_put _ _ _
 rw [e1] at h2
 refine h2.conv ?_
 simp only [all, engO, engG]
 ac_rfl
end
theorem one_op (o : Op1) : ∀ u ∈ opc o, u.oneCell' = true := by
 intro u hu
 simp [opc] at hu
 rcases hu with rfl | rfl | rfl | rfl <;> rfl
theorem Tryz.infoE121 : (Tryz.prog.info? 121).map (fun i => (i.zero, i.size, i.bytes)) = some (some (.agg #[.int .i64 0, .int .i64 0, .bool false, .int .i64 0]), 4, 32) := by kernel_rfl
section
variable {e : Eng} {N : Nat} {U : List Task} {i : Nat}
theorem hold_few (h : OkT N e U) : e.t.hold.length ≤ 1000000 := by
 obtain ⟨Q, hQ⟩ := h.tab
 have := Sep.few (S := [0, 1, 2, 3, 4, 5, 6, 7, 8, 9]) hQ.hold (fun kk hk => by
  obtain ⟨p, hp, rfl⟩ := List.mem_map.1 hk
  have h1 := mget_mem hQ.hold (show (p.1, p.2) ∈ e.t.hold from hp)
  rw [hQ.tab.hold] at h1
  cases hq : Q p.1 with
  | nil => rw [hq] at h1; simp at h1
  | cons a l => have := (hQ.key p.1 a (by rw [hq]; simp)).1; unfold keyOk at this; simp; omega)
 simp at this
 omega
theorem hands_few {l : List (Int × Int)} (h : OkT N e (l.map .hand)) : l.length ≤ 1000000 := by
 have h3 : (l.map (·.2)).length ≤ e.txs.length := by
  have hap := h.apart
  have := Sep.few (S := (List.range e.txs.length).map fun m : Nat => (m : Int) + 1) (l := (l.map (·.2))) (by
   rw [List.map_map] at hap
   exact List.pairwise_map.2 ((List.pairwise_map.1 hap).imp fun h e1 => h (by simp only [Function.comp, Task.who]; rw [e1]))) (fun x hx => by
   obtain ⟨p, hp, rfl⟩ := List.mem_map.1 hx
   have h4 := h.ok (.hand p) (List.mem_map_of_mem hp)
   have h5 := h4.lt
   have h6 := (h4.hand p rfl).1
   simp only [Task.who] at h5
   simp only [List.mem_map, List.mem_range]
   exact ⟨p.2.toNat - 1, h5, by omega⟩)
  simpa using this
 have := h.few
 rw [List.length_map] at h3; omega
end
theorem bad_none : ∀ {l : Vers} {m : Nat}, (∀ p ∈ l, keyOk p.1 ∧ valOk p.2) → badAt m l = none
 | [], _, _ => rfl
 | p :: l, m, h => by
  have h1 := h p (by simp)
  unfold badAt
  rw [if_neg (by simpa using h1.1), if_neg (by simpa using h1.2)]
  exact bad_none fun q hq => h q (by simp [hq])
theorem written_ok {e : Eng} {N : Nat} {U : List Task} {i : Nat} (h : OkT N e U) (hi : i < e.txs.length) : ∀ p ∈ (e.tx i).written, keyOk p.1 ∧ valOk p.2 := by
 intro p hp
 unfold Tx.written at hp
 obtain ⟨k, hk, rfl⟩ := List.mem_map.1 hp
 rw [sortI_mem] at hk
 obtain ⟨q, hq, rfl⟩ := List.mem_map.1 hk
 have h1 := h.at hi
 have h2 := mget_mem h1.keys (show (q.1, q.2) ∈ (e.tx i).writes from hq)
 have h3 := h1.own q hq
 refine ⟨h3.1, ?_⟩
 show valOk ((mget (e.tx i).writes q.1).getD 0)
 rw [h2]; exact h3.2
set_option linter.unusedSimpArgs false in
set_option maxRecDepth 100000 in
set_option maxHeartbeats 16000000 in
theorem ecommit_any (w0 w : World) (b : Nat) (bs : List Nat) (e : Eng) (n : Int) (L : List HProp) (N : Nat) (hE : ErrT w0) (hok : OkT N e []) (hN : N ≤ 90000000) (hs : S w0 w (engP b bs e :: L)) :
  Calls Tryz.prog 108 #[.pointer (some ⟨b, 0, none⟩), .int .i64 n] w fun r w' => r = .returned (errV (e.commit n).2) ∧ S w0 w' (engP b bs (e.commit n).1 :: L) := by
 have HS := hid hs
 obtain ⟨k, hs⟩ := hs.eng_open
 have hO : S w0 w (engO b bs k e :: storeP 99 b 0 e.V e.last :: tabP 3 b 11 e.t :: L) := hs.conv (by simp only [all]; ac_rfl)
 have hrd := ready_any w0 w b bs k e n _ N [] hok hO
 by_cases h0 : e.ready n = 0
 ·obtain ⟨i, rfl, hi, hst⟩ := ready_at h0
  have hcq := commit_eq e i h0
  rw [h0, errV_0] at hrd
  have hn1 : ((i : Int) + 1) - 1 = i := by omega
  have hfew := hok.few
  have hc := hO.eng_c.2
  have c14 := hc.txs
  obtain ⟨a, cap, hv, hle, hcap, hrow⟩ := hc.row
  obtain ⟨g, o, rfl, ci⟩ := hrow i hi
  rw [hv] at c14
  unfold maxLen at hcap
  unfold ptr at ci
  have hwr := ewrites_any w0 w b bs e ((i : Int) + 1) L N [] hok HS.out
  have hwf : e.writes ((i : Int) + 1) = ((e.tx i).written, 0) := by
   unfold Eng.writes
   have : e.err ((i : Int) + 1) false = 0 := by unfold Eng.err; rw [if_neg (by omega), if_neg (by simp)]
   rw [if_neg (by rw [this]; decide), show ((i : Int) + 1).toNat - 1 = i by omega]
  rw [hwf, errV_0] at hwr
  have hrdn := hok.reads _ (Eng.tx_mem hi)
  have hwl := written_len (e.tx i)
  have hof := own_few hok hi
  have hwok := written_ok hok hi
  have hcnt := hok.cnt
  have hhist := hok.hist
  have hrowle := hok.row_le
  have hlast := hok.last
  obtain ⟨hov, hovo⟩ := hok.over2 hi (by simp [Tx.alive, hst])
  have hlines := hok.lines
  have hhold := hold_few hok
  have hheirs := hands_few hov
  rw [over2_heirs] at hheirs
  have hhb : (e.hist.length : Int) ≤ 400 * 90000010 := by
   have h1 : e.count * ((N : Int) + 10) ≤ 400 * ((N : Int) + 10) := Int.mul_le_mul_of_nonneg_right (by omega) (by omega)
   omega
  obtain ⟨wl, hwle⟩ : ∃ wl, (e.tx i).written = wl := ⟨_, rfl⟩
  obtain ⟨rl, hrle⟩ : ∃ rl, (e.tx i).reads = rl := ⟨_, rfl⟩
  have htold : toldL ((i : Int) + 1) (e.tx i) = (rl.map fun r => (⟨(i : Int) + 1, r.1, false, r.2⟩ : Op1)) ++ wl.map fun w => (⟨(i : Int) + 1, w.1, true, 0⟩ : Op1) := by unfold toldL; rw [hwle, hrle]
  rw [hwle] at hwr hwl hwok
  have hwln : wl.length ≤ 10 := by omega
  clear hwl
  have HRD := hid hrd; have HWR := hid hwr; have HCQ := hid hcq
  have hst0i := hid hst
  clear hs hO hrd hc hv hrow hwr hwf hcq hst h0
  go_enter Tryz.func108, Tryz.ntmps108
  go_wp2_with fail
  with_reducible refine HRD.out.mono ?_
  rintro r w1 ⟨rfl, rfl⟩
  go_wp2_with fail
  with_reducible refine HWR.out.mono ?_
  rintro r w2 ⟨lv, rfl, hs2⟩
  obtain ⟨al, cl, rfl, hcl, hcl2, _⟩ := hs2.sl_val
  unfold maxLen at hcl2
  obtain ⟨k2, hs3⟩ := hs2.swap.eng_open
  obtain ⟨LL, hLL⟩ : ∃ LL, LL = sl 91 2 (.slice al wl.length cl) wl.length (pcells wl) :: storeP 99 b 0 e.V e.last :: tabP 3 b 11 e.t :: L := ⟨_, rfl⟩
  have hs4 : S w0 w2 (engO b bs { k2 with hv := k2.hv } { e with hist := e.hist ++ ((rl.take 0).map fun r => (⟨(i : Int) + 1, r.1, false, r.2⟩ : Op1)) } :: LL) := by
   rw [List.take_zero, List.map_nil, List.append_nil, hLL]
   exact hs3.conv (by simp only [all]; ac_rfl)
  have hrs : ∀ W hv' H, S w0 W (engO b bs { k2 with hv := hv' } { e with hist := H } :: LL) → ∃ a cap, (k2.v i).rv = .slice a rl.length cap ∧ rl.length ≤ cap ∧ cap ≤ maxLen ∧ ∀ j p, rl[j]? = some p → ∃ g o, a = some ⟨g, o, none⟩ ∧ W.cell? ⟨g, o + j * 2, none⟩ = some (.int .i64 p.1) ∧ W.cell? ⟨g, o + j * 2 + 1, none⟩ = some (.int .i64 p.2) := fun W hv' H h => by
   have := (h.eng_txc (i := i) hi).2.rs
   rw [show (({ e with hist := H } : Eng).tx i).reads = rl from hrle] at this
   exact this
  obtain ⟨ar, cr, hrv, hcr, hcr2, _⟩ := hrs _ _ _ hs4
  unfold maxLen at hcr2
  have c5 := (hs4.eng_txc (i := i) hi).2.reads
  have e5 : (({ k2 with hv := k2.hv } : EngV).v i).rv = .slice ar rl.length cr := hrv
  rw [e5] at c5
  clear e5
  have hrs2 : ∀ W hv' H, S w0 W (engO b bs { k2 with hv := hv' } { e with hist := H } :: LL) → ∀ j p, rl[j]? = some p → ∃ g o, ar = some ⟨g, o, none⟩ ∧ W.cell? ⟨g, o + j * 2, none⟩ = some (.int .i64 p.1) ∧ W.cell? ⟨g, o + j * 2 + 1, none⟩ = some (.int .i64 p.2) := fun W hv' H h j p hj => by
   obtain ⟨a', c', h1, _, _, h4⟩ := hrs W hv' H h
   rw [hrv] at h1
   simp only [Value.slice.injEq] at h1
   obtain ⟨rfl, _, _⟩ := h1
   exact h4 j p hj
  have HRS := hid hrs2; have H4 := hid hs4; have HLL := hid hLL
  rw [hrle] at hrdn
  clear HRD HWR hs2 hs3 hs4 hLL hrs hrs2 hrv
  obtain ⟨i0, hi0, hz0, hz1, hz2⟩ := info_parts Tryz.infoE121
  go_wp2_with fail
  clear c5
  go_loopw [45] (fun c wr => ∃ j : Nat, j ≤ rl.length ∧ c = .int .i64 j ∧ ∃ hv', S w0 wr (engO b bs { k2 with hv := hv' } { e with hist := e.hist ++ ((rl.take j).map fun r => (⟨(i : Int) + 1, r.1, false, r.2⟩ : Op1)) } :: LL)) (fun c _ => rl.length - (intOf c).toNat)
  case atStart => exact ⟨0, Nat.zero_le _, rfl, _, H4.out⟩
  case round =>
   rename World => wr
   obtain ⟨j, hj, rfl, hv', hsr⟩ := hrel
   clear H4
   by_cases hlt : j < rl.length
   ·have hp : rl[j]? = some rl[j] := by simp [hlt]
    generalize rl[j] = p at hp
    obtain ⟨gr, gro, rfl, d0, d1⟩ := HRS.out _ _ _ hsr j p hp
    obtain ⟨px, py⟩ := p
    simp only at d0 d1
    have htk : (rl.take (j + 1)).map (fun r => (⟨(i : Int) + 1, r.1, false, r.2⟩ : Op1)) = (rl.take j).map (fun r => (⟨(i : Int) + 1, r.1, false, r.2⟩ : Op1)) ++ [⟨(i : Int) + 1, px, false, py⟩] := by rw [take_succ_get hp, List.map_append]; rfl
    have hhl : ((rl.take j).map fun r => (⟨(i : Int) + 1, r.1, false, r.2⟩ : Op1)).length ≤ N := by rw [List.length_map, List.length_take]; omega
    have hsv := (hsr.alloc #[.int .i64 px, .int .i64 py] 181)
    obtain ⟨EE, hEE⟩ : ∃ E : Eng, E = { e with hist := e.hist ++ ((rl.take j).map fun r => (⟨(i : Int) + 1, r.1, false, r.2⟩ : Op1)) } := ⟨_, rfl⟩
    obtain ⟨Ek, hEk⟩ : ∃ K : EngV, K = { k2 with hv := hv' } := ⟨_, rfl⟩
    obtain ⟨Eh, hEh⟩ : ∃ H, H = EE.hist := ⟨_, rfl⟩
    obtain ⟨En, hEn⟩ : ∃ m, m = Eh.length := ⟨_, rfl⟩
    have hbnd : En + 1 ≤ 1000000000000 := by
     rw [hEn, hEh, hEE]
     show (e.hist ++ _).length + 1 ≤ _
     rw [List.length_append]; omega
    rw [← hEE, ← hEk] at hsv
    have hst0 : S w0 (wr.alloc (.cells #[.int .i64 px, .int .i64 py] 181)) (sl 121 4 Ek.hv En (fcells opc Eh) :: hiV b bs Ek EE 181 wr.heap.size px py :: LL) := by
     rw [hEn, hEh]
     refine (S.hi_open hsv.swap).conv ?_
     simp only [all, hiV]; ac_rfl
    obtain ⟨ah, ch, hhv, _, _, _⟩ := hst0.sl_val
    have hq : ∀ W {M : List HProp}, S w0 W (hiV b bs Ek EE 181 wr.heap.size px py :: M) → W.cell? ⟨b, 17, none⟩ = some (.slice ah En ch) ∧ W.cell? ⟨wr.heap.size, 0, none⟩ = some (.int .i64 px) ∧ W.cell? ⟨wr.heap.size, 1, none⟩ = some (.int .i64 py) := fun W M h => by
     have h1 := h.sep_elim
     exact ⟨by rw [h1.hi_see.1, hhv], h1.swap.blk_cell 0 rfl, h1.swap.blk_cell 1 rfl⟩
    have hf : ∀ W {M : List HProp}, S w0 W (hiV b bs Ek EE 181 wr.heap.size px py :: M) → W.frozen? ⟨b, 17, none⟩ = false := fun W M h => h.sep_elim.hi_see.2
    have hcl9 : ∀ W v' (Y : HProp), S w0 W (sl 121 4 v' (En + 1) (fcells opc Eh ++ opc ⟨(i : Int) + 1, px, false, py⟩) :: hiV b bs Ek EE 181 wr.heap.size px py :: Y :: LL) → S w0 (W.setCell ⟨b, 17, none⟩ v') (engO b bs { Ek with hv := v' } { EE with hist := Eh ++ [⟨(i : Int) + 1, px, false, py⟩] } :: LL) := fun W v' Y h => by
     rw [hEn, hEh] at h
     have h1 : S w0 W (sl 121 4 v' (EE.hist.length + 1) (fcells opc EE.hist ++ opc ⟨(i : Int) + 1, px, false, py⟩) :: hiX b bs Ek EE :: blk wr.heap.size 181 [.int .i64 px, .int .i64 py] :: Y :: LL) := h.conv (by simp only [all, hiV]; ac_rfl)
     have h2 := h1.hi_close
     rw [← hEh] at h2
     exact (h2.conv (M := blk wr.heap.size 181 [.int .i64 px, .int .i64 py] :: Y :: engO b bs { Ek with hv := v' } { EE with hist := Eh ++ [⟨(i : Int) + 1, px, false, py⟩] } :: LL) (by simp only [all]; ac_rfl)).tail.tail
    have hfin : ∀ W v', S w0 W (engO b bs { Ek with hv := v' } { EE with hist := Eh ++ [⟨(i : Int) + 1, px, false, py⟩] } :: LL) → S w0 W (engO b bs { k2 with hv := v' } { e with hist := e.hist ++ ((rl.take (j + 1)).map fun r => (⟨(i : Int) + 1, r.1, false, r.2⟩ : Op1)) } :: LL) := fun W v' h => by
     rw [htk, ← List.append_assoc]
     rw [hEh, hEE, hEk] at h
     exact h
    rw [hhv] at hst0
    have b0 := (hsv.drew).blk_cell 0 rfl
    have HS0 := hid hst0; have HQ := hid hq; have HF := hid hf; have HCL := hid hcl9; have HST := hid hfin; have HA := hid hbnd
    clear b0
    clear hsr hp htk hhl hsv hEE hEk hEh hEn hbnd hst0 hhv hq hf hcl9 hfin
    go_upto_region 11 with fail
    refine region_U (S := fun w' => w'.cell? ⟨b, 17, none⟩ = some (.slice ah En ch) ∧ w'.cell? ⟨wr.heap.size, 0, none⟩ = some (.int .i64 px) ∧ w'.cell? ⟨wr.heap.size, 1, none⟩ = some (.int .i64 py)) (u := 15) (by kernel_rfl) (HQ.out _ (HS0.out.drew.nth 1 rfl)) (fun hHeld => ?_)
    refine anyU_take (i := 0) (v := ?_) rfl (by kernel_rfl) (fun _ _ _ h => h) (Or.inl ⟨by rfl, ?_⟩) hHeld ?_
    rotate_left
    ·(intro w hSw; (try dsimp only at hSw); go_simp) <;> with_reducible rfl
    try simp only [putU]
    refine anyU_take (i := 1) (v := ?_) rfl (by kernel_rfl) (fun _ _ _ h => h) (Or.inl ⟨by rfl, ?_⟩) hHeld ?_
    rotate_left
    ·(intro w hSw; (try dsimp only at hSw); go_simp) <;> with_reducible rfl
    try simp only [putU]
    refine anyU_take (i := 2) (v := ?_) rfl (by kernel_rfl) (fun _ _ _ h => h) (Or.inl ⟨by rfl, ?_⟩) hHeld ?_
    rotate_left
    ·(intro w hSw; (try dsimp only at hSw); go_simp) <;> with_reducible rfl
    try simp only [putU]
    refine anyU_take (i := 3) (v := ?_) rfl (by kernel_rfl) (fun _ _ _ h => h) (Or.inl ⟨by rfl, ?_⟩) hHeld ?_
    rotate_left
    ·(intro w hSw; (try dsimp only at hSw); go_simp) <;> with_reducible rfl
    try simp only [putU]
    refine anyU_take (i := 4) (v := ?_) rfl (by kernel_rfl) (fun _ _ _ h => h) (Or.inl ⟨by rfl, ?_⟩) hHeld ?_
    rotate_left
    ·(intro w hSw; (try dsimp only at hSw); go_simp) <;> with_reducible rfl
    try simp only [putU]
    refine anyU_take (i := 5) (v := ?_) rfl (by kernel_rfl) (fun _ _ _ h => h) (Or.inl ⟨by rfl, ?_⟩) hHeld ?_
    rotate_left
    ·(intro w hSw; (try dsimp only at hSw); go_simp) <;> with_reducible rfl
    try simp only [putU]
    refine anyU_take (i := 6) (v := ?_) rfl (by kernel_rfl) (fun _ _ _ h => h) (Or.inl ⟨by rfl, ?_⟩) hHeld ?_
    rotate_left
    ·(intro w hSw; (try dsimp only at hSw); go_simp) <;> with_reducible rfl
    try simp only [putU]
    refine anyU_take (i := 7) (v := ?_) rfl (by kernel_rfl) (fun _ _ _ h => h) (Or.inl ⟨by rfl, ?_⟩) hHeld ?_
    rotate_left
    ·(intro w hSw; (try dsimp only at hSw); go_simp) <;> with_reducible rfl
    try simp only [putU]
    refine anyU_take (i := 8) (v := ?_) rfl (by kernel_rfl) (fun _ _ _ h => h) (Or.inl ⟨by rfl, ?_⟩) hHeld ?_
    rotate_left
    ·(intro w hSw; (try dsimp only at hSw); go_simp) <;> with_reducible rfl
    try simp only [putU]
    refine anyU_take (i := 9) (v := ?_) rfl (by kernel_rfl) (fun _ _ _ h => h) (Or.inl ⟨by rfl, ?_⟩) hHeld ?_
    rotate_left
    ·(intro w hSw; (try dsimp only at hSw); go_simp) <;> with_reducible rfl
    try simp only [putU]
    refine anyU_take (i := 10) (v := ?_) rfl (by kernel_rfl) (fun _ _ _ h => h) (Or.inl ⟨by rfl, ?_⟩) hHeld ?_
    rotate_left
    ·(intro w hSw; (try dsimp only at hSw); go_simp) <;> with_reducible rfl
    try simp only [putU]
    have HS := hid HS0.out.drew
    clear hHeld
    refine anyU_world (fun w => Hid (S w0 w _)) HS (fun w1 HS => ?_)
    clear HS0
    refine anyU_next (rs := [11]) (by kernel_rfl) (by simp) ?_
    refine NextU.cons rfl (fun K hK => ?_) ?_
    ·go_simp
     replace HS := hid (HS.out.alloc_slU (e := 121) (size := 4) (opc ⟨(i : Int) + 1, px, false, py⟩) 1 rfl (by unfold maxLen; omega))
     generalize w1.heap.size = b11 at HS ⊢
     refine act_any (fun w => Hid (S w0 w _)) HS (fun w2 HS => ?_)
     refine hK.out _ _ (fun _ => (HQ.out _ (HS.out.nth 2 rfl))) ?_
     clear hK K
     refine anyU_next (rs := [12]) (by kernel_rfl) (by simp) ?_
     refine NextU.cons rfl (fun K hK => ?_) ?_
     ·refine step_appU rfl (.tmp 53) (.tmp 60) 106 rfl 121 i0 _ 4 32 Tryz.underlying106 hi0 hz0 hz1 hz2 rfl (by decide) HS.out 1 (by rfl) (by rfl) _ 1 1 (opc ⟨(i : Int) + 1, px, false, py⟩) (by rfl) rfl (HS.out.news_slK 0 (by rfl)) (one_op _) HA.out (by decide) ?_
      intro v12 w3 hs
      replace HS := hid hs
      clear hs
      obtain ⟨p12, c12, rfl, _, _, _⟩ := HS.out.sl_val
      refine hK.out _ _ (fun _ => (HQ.out _ (HS.out.nth 2 rfl))) ?_
      clear hK K
      try simp only [putU]
      refine anyU_pure (i := 13) (v := ?_) rfl (by kernel_rfl) (fun _ _ _ h => h) (Or.inl ⟨by rfl, ?_⟩) (fun _ => (HQ.out _ (HS.out.nth 2 rfl))) ?_
      rotate_left
      ·(intro w _; go_simp) <;> with_reducible rfl
      try simp only [putU]
      refine anyU_take (i := 14) (v := ?_) rfl (by kernel_rfl) (fun _ _ _ h => h) (Or.inl ⟨by rfl, ?_⟩) (HQ.out _ (HS.out.nth 2 rfl)) ?_
      rotate_left
      ·(intro w hSw; (try dsimp only at hSw); go_simp) <;> with_reducible rfl
      try simp only [putU]
      refine anyU_next (rs := [15]) (by kernel_rfl) (by simp) ?_
      refine NextU.cons rfl (fun K hK => ?_) ?_
      ·have q1 := (HQ.out _ (HS.out.nth 2 rfl)).1
       have q2 := HF.out _ (HS.out.nth 2 rfl)
       go_simp
       refine hK.out _ _ (fun h => Bool.noConfusion (show true = false from h)) ?_
       clear hK K q1 q2
       refine anyU_done (by kernel_rfl) ?_ _
       have HZ := HS.out
       simp only [List.eraseIdx_cons_succ, List.eraseIdx_cons_zero] at HZ
       have h5 := HCL.out _ _ _ (HZ.conv (M := sl 121 4 (.slice p12 (En + 1) c12) (En + 1) (fcells opc Eh ++ opc ⟨(i : Int) + 1, px, false, py⟩) :: hiV b bs Ek EE 181 wr.heap.size px py :: sl 121 4 (.slice (some ⟨b11, 0, none⟩) 1 1) 1 (opc ⟨(i : Int) + 1, px, false, py⟩) :: LL) (by simp only [all]; ac_rfl))
       have H5 := hid h5
       clear HZ h5 HS HQ HF HCL
       go_wp2_with fail
       go_roundw
       case rel => exact ⟨j + 1, by omega, by go_num, _, HST.out _ _ H5.out⟩
       case measure => simp [intOf]; omega
      exact NextU.nil
     exact NextU.nil
    exact NextU.nil
   ·obtain rfl : j = rl.length := by omega
    rw [List.take_length] at hsr
    obtain ⟨H1, hH1⟩ : ∃ H, H = e.hist ++ rl.map (fun r => (⟨(i : Int) + 1, r.1, false, r.2⟩ : Op1)) := ⟨_, rfl⟩
    rw [← hH1] at hsr
    have hs5 : S w0 wr (engO b bs { k2 with hv := hv' } { e with hist := H1 ++ ((wl.take 0).map fun r => (⟨(i : Int) + 1, r.1, true, 0⟩ : Op1)) } :: LL) := by
     rw [List.take_zero, List.map_nil, List.append_nil]; exact hsr
    have h1len : H1.length ≤ e.hist.length + N := by rw [hH1, List.length_append, List.length_map]; omega
    have hH2 : H1 ++ wl.map (fun r => (⟨(i : Int) + 1, r.1, true, 0⟩ : Op1)) = e.hist ++ toldL ((i : Int) + 1) (e.tx i) := by rw [hH1, htold, List.append_assoc]
    have H5 := hid hs5; have HH2 := hid hH2
    clear hsr hs5 hH1 hH2
    go_wp2_with fail
    go_loopw [67] (fun c wr => ∃ j : Nat, j ≤ wl.length ∧ c = .int .i64 j ∧ ∃ hv', S w0 wr (engO b bs { k2 with hv := hv' } { e with hist := H1 ++ ((wl.take j).map fun r => (⟨(i : Int) + 1, r.1, true, 0⟩ : Op1)) } :: LL)) (fun c _ => wl.length - (intOf c).toNat)
    case atStart => exact ⟨0, Nat.zero_le _, rfl, _, H5.out⟩
    case round =>
     rename World => wr
     obtain ⟨j, hj, rfl, hv', hsr⟩ := hrel
     clear H5
     by_cases hlt : j < wl.length
     ·have hp : wl[j]? = some wl[j] := by simp [hlt]
      generalize wl[j] = p at hp
      have hsl := hsr
      rw [HLL.out] at hsl
      obtain ⟨gr, gro, rfl, _, d0, d1⟩ := hsl.tail.sl_pair hp
      clear hsl
      obtain ⟨px, py⟩ := p
      simp only at d0 d1
      have htk : (wl.take (j + 1)).map (fun r => (⟨(i : Int) + 1, r.1, true, 0⟩ : Op1)) = (wl.take j).map (fun r => (⟨(i : Int) + 1, r.1, true, 0⟩ : Op1)) ++ [⟨(i : Int) + 1, px, true, 0⟩] := by rw [take_succ_get hp, List.map_append]; rfl
      have hhl : ((wl.take j).map fun r => (⟨(i : Int) + 1, r.1, true, 0⟩ : Op1)).length ≤ 10 := by rw [List.length_map, List.length_take]; omega
      have hsv := (hsr.alloc #[.int .i64 px, .int .i64 py] 91)
      obtain ⟨EE, hEE⟩ : ∃ E : Eng, E = { e with hist := H1 ++ ((wl.take j).map fun r => (⟨(i : Int) + 1, r.1, true, 0⟩ : Op1)) } := ⟨_, rfl⟩
      obtain ⟨Ek, hEk⟩ : ∃ K : EngV, K = { k2 with hv := hv' } := ⟨_, rfl⟩
      obtain ⟨Eh, hEh⟩ : ∃ H, H = EE.hist := ⟨_, rfl⟩
      obtain ⟨En, hEn⟩ : ∃ m, m = Eh.length := ⟨_, rfl⟩
      have hbnd : En + 1 ≤ 1000000000000 := by
       rw [hEn, hEh, hEE]
       show (H1 ++ _).length + 1 ≤ _
       rw [List.length_append]; omega
      rw [← hEE, ← hEk] at hsv
      have hst0 : S w0 (wr.alloc (.cells #[.int .i64 px, .int .i64 py] 91)) (sl 121 4 Ek.hv En (fcells opc Eh) :: hiV b bs Ek EE 91 wr.heap.size px py :: LL) := by
       rw [hEn, hEh]
       refine (S.hi_open hsv.swap).conv ?_
       simp only [all, hiV]; ac_rfl
      obtain ⟨ah, ch, hhv, _, _, _⟩ := hst0.sl_val
      have hq : ∀ W {M : List HProp}, S w0 W (hiV b bs Ek EE 91 wr.heap.size px py :: M) → W.cell? ⟨b, 17, none⟩ = some (.slice ah En ch) ∧ W.cell? ⟨wr.heap.size, 0, none⟩ = some (.int .i64 px) ∧ W.cell? ⟨wr.heap.size, 1, none⟩ = some (.int .i64 py) := fun W M h => by
       have h1 := h.sep_elim
       exact ⟨by rw [h1.hi_see.1, hhv], h1.swap.blk_cell 0 rfl, h1.swap.blk_cell 1 rfl⟩
      have hf : ∀ W {M : List HProp}, S w0 W (hiV b bs Ek EE 91 wr.heap.size px py :: M) → W.frozen? ⟨b, 17, none⟩ = false := fun W M h => h.sep_elim.hi_see.2
      have hcl9 : ∀ W v' (Y : HProp), S w0 W (sl 121 4 v' (En + 1) (fcells opc Eh ++ opc ⟨(i : Int) + 1, px, true, 0⟩) :: hiV b bs Ek EE 91 wr.heap.size px py :: Y :: LL) → S w0 (W.setCell ⟨b, 17, none⟩ v') (engO b bs { Ek with hv := v' } { EE with hist := Eh ++ [⟨(i : Int) + 1, px, true, 0⟩] } :: LL) := fun W v' Y h => by
       rw [hEn, hEh] at h
       have h1 : S w0 W (sl 121 4 v' (EE.hist.length + 1) (fcells opc EE.hist ++ opc ⟨(i : Int) + 1, px, true, 0⟩) :: hiX b bs Ek EE :: blk wr.heap.size 91 [.int .i64 px, .int .i64 py] :: Y :: LL) := h.conv (by simp only [all, hiV]; ac_rfl)
       have h2 := h1.hi_close
       rw [← hEh] at h2
       exact (h2.conv (M := blk wr.heap.size 91 [.int .i64 px, .int .i64 py] :: Y :: engO b bs { Ek with hv := v' } { EE with hist := Eh ++ [⟨(i : Int) + 1, px, true, 0⟩] } :: LL) (by simp only [all]; ac_rfl)).tail.tail
      have hfin : ∀ W v', S w0 W (engO b bs { Ek with hv := v' } { EE with hist := Eh ++ [⟨(i : Int) + 1, px, true, 0⟩] } :: LL) → S w0 W (engO b bs { k2 with hv := v' } { e with hist := H1 ++ ((wl.take (j + 1)).map fun r => (⟨(i : Int) + 1, r.1, true, 0⟩ : Op1)) } :: LL) := fun W v' h => by
       rw [htk, ← List.append_assoc]
       rw [hEh, hEE, hEk] at h
       exact h
      rw [hhv] at hst0
      have b0 := (hsv.drew).blk_cell 0 rfl
      have HS0 := hid hst0; have HQ := hid hq; have HF := hid hf; have HCL := hid hcl9; have HST := hid hfin; have HA := hid hbnd
      clear b0
      clear hsr hp htk hhl hsv hEE hEk hEh hEn hbnd hst0 hhv hq hf hcl9 hfin
      go_upto_region 16 with fail
      refine region_U (S := fun w' => w'.cell? ⟨b, 17, none⟩ = some (.slice ah En ch) ∧ w'.cell? ⟨wr.heap.size, 0, none⟩ = some (.int .i64 px) ∧ w'.cell? ⟨wr.heap.size, 1, none⟩ = some (.int .i64 py)) (u := 13) (by kernel_rfl) (HQ.out _ (HS0.out.drew.nth 1 rfl)) (fun hHeld => ?_)
      refine anyU_take (i := 0) (v := ?_) rfl (by kernel_rfl) (fun _ _ _ h => h) (Or.inl ⟨by rfl, ?_⟩) hHeld ?_
      rotate_left
      ·(intro w hSw; (try dsimp only at hSw); go_simp) <;> with_reducible rfl
      try simp only [putU]
      refine anyU_take (i := 1) (v := ?_) rfl (by kernel_rfl) (fun _ _ _ h => h) (Or.inl ⟨by rfl, ?_⟩) hHeld ?_
      rotate_left
      ·(intro w hSw; (try dsimp only at hSw); go_simp) <;> with_reducible rfl
      try simp only [putU]
      refine anyU_take (i := 2) (v := ?_) rfl (by kernel_rfl) (fun _ _ _ h => h) (Or.inl ⟨by rfl, ?_⟩) hHeld ?_
      rotate_left
      ·(intro w hSw; (try dsimp only at hSw); go_simp) <;> with_reducible rfl
      try simp only [putU]
      refine anyU_take (i := 3) (v := ?_) rfl (by kernel_rfl) (fun _ _ _ h => h) (Or.inl ⟨by rfl, ?_⟩) hHeld ?_
      rotate_left
      ·(intro w hSw; (try dsimp only at hSw); go_simp) <;> with_reducible rfl
      try simp only [putU]
      refine anyU_take (i := 4) (v := ?_) rfl (by kernel_rfl) (fun _ _ _ h => h) (Or.inl ⟨by rfl, ?_⟩) hHeld ?_
      rotate_left
      ·(intro w hSw; (try dsimp only at hSw); go_simp) <;> with_reducible rfl
      try simp only [putU]
      refine anyU_take (i := 5) (v := ?_) rfl (by kernel_rfl) (fun _ _ _ h => h) (Or.inl ⟨by rfl, ?_⟩) hHeld ?_
      rotate_left
      ·(intro w hSw; (try dsimp only at hSw); go_simp) <;> with_reducible rfl
      try simp only [putU]
      refine anyU_take (i := 6) (v := ?_) rfl (by kernel_rfl) (fun _ _ _ h => h) (Or.inl ⟨by rfl, ?_⟩) hHeld ?_
      rotate_left
      ·(intro w hSw; (try dsimp only at hSw); go_simp) <;> with_reducible rfl
      try simp only [putU]
      refine anyU_take (i := 7) (v := ?_) rfl (by kernel_rfl) (fun _ _ _ h => h) (Or.inl ⟨by rfl, ?_⟩) hHeld ?_
      rotate_left
      ·(intro w hSw; (try dsimp only at hSw); go_simp) <;> with_reducible rfl
      try simp only [putU]
      refine anyU_take (i := 8) (v := ?_) rfl (by kernel_rfl) (fun _ _ _ h => h) (Or.inl ⟨by rfl, ?_⟩) hHeld ?_
      rotate_left
      ·(intro w hSw; (try dsimp only at hSw); go_simp) <;> with_reducible rfl
      try simp only [putU]
      have HS := hid HS0.out.drew
      clear hHeld
      refine anyU_world (fun w => Hid (S w0 w _)) HS (fun w1 HS => ?_)
      clear HS0
      refine anyU_next (rs := [9]) (by kernel_rfl) (by simp) ?_
      refine NextU.cons rfl (fun K hK => ?_) ?_
      ·go_simp
       replace HS := hid (HS.out.alloc_slU (e := 121) (size := 4) (opc ⟨(i : Int) + 1, px, true, 0⟩) 1 rfl (by unfold maxLen; omega))
       generalize w1.heap.size = b9 at HS ⊢
       refine act_any (fun w => Hid (S w0 w _)) HS (fun w2 HS => ?_)
       refine hK.out _ _ (fun _ => (HQ.out _ (HS.out.nth 2 rfl))) ?_
       clear hK K
       refine anyU_next (rs := [10]) (by kernel_rfl) (by simp) ?_
       refine NextU.cons rfl (fun K hK => ?_) ?_
       ·refine step_appU rfl (.tmp 75) (.tmp 80) 106 rfl 121 i0 _ 4 32 Tryz.underlying106 hi0 hz0 hz1 hz2 rfl (by decide) HS.out 1 (by rfl) (by rfl) _ 1 1 (opc ⟨(i : Int) + 1, px, true, 0⟩) (by rfl) rfl (HS.out.news_slK 0 (by rfl)) (one_op _) HA.out (by decide) ?_
        intro v10 w3 hs
        replace HS := hid hs
        clear hs
        obtain ⟨p10, c10, rfl, _, _, _⟩ := HS.out.sl_val
        refine hK.out _ _ (fun _ => (HQ.out _ (HS.out.nth 2 rfl))) ?_
        clear hK K
        try simp only [putU]
        refine anyU_pure (i := 11) (v := ?_) rfl (by kernel_rfl) (fun _ _ _ h => h) (Or.inl ⟨by rfl, ?_⟩) (fun _ => (HQ.out _ (HS.out.nth 2 rfl))) ?_
        rotate_left
        ·(intro w _; go_simp) <;> with_reducible rfl
        try simp only [putU]
        refine anyU_take (i := 12) (v := ?_) rfl (by kernel_rfl) (fun _ _ _ h => h) (Or.inl ⟨by rfl, ?_⟩) (HQ.out _ (HS.out.nth 2 rfl)) ?_
        rotate_left
        ·(intro w hSw; (try dsimp only at hSw); go_simp) <;> with_reducible rfl
        try simp only [putU]
        refine anyU_next (rs := [13]) (by kernel_rfl) (by simp) ?_
        refine NextU.cons rfl (fun K hK => ?_) ?_
        ·have q1 := (HQ.out _ (HS.out.nth 2 rfl)).1
         have q2 := HF.out _ (HS.out.nth 2 rfl)
         go_simp
         refine hK.out _ _ (fun h => Bool.noConfusion (show true = false from h)) ?_
         clear hK K q1 q2
         refine anyU_done (by kernel_rfl) ?_ _
         have HZ := HS.out
         simp only [List.eraseIdx_cons_succ, List.eraseIdx_cons_zero] at HZ
         have h5 := HCL.out _ _ _ (HZ.conv (M := sl 121 4 (.slice p10 (En + 1) c10) (En + 1) (fcells opc Eh ++ opc ⟨(i : Int) + 1, px, true, 0⟩) :: hiV b bs Ek EE 91 wr.heap.size px py :: sl 121 4 (.slice (some ⟨b9, 0, none⟩) 1 1) 1 (opc ⟨(i : Int) + 1, px, true, 0⟩) :: LL) (by simp only [all]; ac_rfl))
         have H5 := hid h5
         clear HZ h5 HS HQ HF HCL
         go_wp2_with fail
         go_roundw
         case rel => exact ⟨j + 1, by omega, by go_num, _, HST.out _ _ H5.out⟩
         case measure => simp [intOf]; omega
        exact NextU.nil
       exact NextU.nil
      exact NextU.nil
     ·obtain rfl : j = wl.length := by omega
      rw [List.take_length, HH2.out, HLL.out] at hsr
      have hal : (e.tx i).alive = true := by simp only [Tx.alive, decide_eq_true_eq]; have := hst0i.out; omega
      have hclose : ∀ W hv' (wr' : List (Int × Int)) (V' : List Vers) (last' : Int) (M : List HProp), e.told i = ({ e with V := V', last := last', wr := wr', hist := e.hist ++ toldL ((i : Int) + 1) (e.tx i) } : Eng) →
        S w0 W (engO b bs { k2 with hv := hv' } { e with hist := e.hist ++ toldL ((i : Int) + 1) (e.tx i), wr := wr' } :: storeP 99 b 0 V' last' :: tabP 3 b 11 e.t :: M) →
        (W.cell? ⟨b, 15, none⟩ = some (.int .i64 e.count) ∧ W.frozen? ⟨b, 15, none⟩ = false ∧ W.cell? ⟨blkOf bs i, 1, none⟩ = some (.int .i64 (e.tx i).state) ∧ W.frozen? ⟨blkOf bs i, 1, none⟩ = false ∧ W.cell? ⟨blkOf bs i, 4, none⟩ = some (.int .i64 (e.tx i).ended) ∧ W.frozen? ⟨blkOf bs i, 4, none⟩ = false ∧ blkOf bs i ≠ b) ∧
        S w0 (((W.setCell ⟨b, 15, none⟩ (.int .i64 (e.count + 1))).setCell ⟨blkOf bs i, 1, none⟩ (.int .i64 2)).setCell ⟨blkOf bs i, 4, none⟩ (.int .i64 (e.count + 1))) (engP b bs (e.over2 i) :: M) := fun W hv' wr' V' last' M ht h => by
       have hc := h.eng_c.2
       have hx := (h.eng_txc (i := i) hi).2
       have hbb := eng_blk_ne (i := i) h hi
       have g1 := h.eng_count (e.count + 1)
       have g2 := g1.eng_set (i := i) (j := 1) (u := .int .i64 2) hi (fun x => { x with state := 2 }) (by decide) rfl rfl rfl rfl rfl
       have g3 := g2.eng_set (i := i) (j := 4) (u := .int .i64 (e.count + 1)) (by rw [Eng.upd_len]; exact hi) (fun x => { x with ended := e.count + 1 }) (by decide) rfl rfl rfl rfl rfl
       refine ⟨⟨hc.count, hc.free 15 (by omega) (by omega), hx.state, hx.free 1, hx.ended, hx.free 4, hbb⟩, ?_⟩
       have he2 : e.over2 i = ((({ ({ e with V := V', last := last', wr := wr', hist := e.hist ++ toldL ((i : Int) + 1) (e.tx i) } : Eng) with count := e.count + 1 } : Eng).upd i fun x => { x with state := 2 }).upd i fun x => { x with ended := e.count + 1 }) := by
        unfold Eng.over2
        rw [ht]
        unfold Eng.upd
        simp only [Eng.mk.injEq, and_true, true_and]
        apply List.ext_getElem?
        intro j
        simp only [List.getElem?_modify]
        by_cases h : i = j
        ·subst h; cases e.txs[i]? <;> simp
        ·simp [h]
       rw [he2]
       refine S.eng_shut (k := { k2 with hv := hv' }) (g3.conv ?_)
       simp only [all]
       show sep (engO b bs { k2 with hv := hv' } ((({ ({ e with V := V', last := last', wr := wr', hist := e.hist ++ toldL ((i : Int) + 1) (e.tx i) } : Eng) with count := e.count + 1 } : Eng).upd i fun x => { x with state := 2 }).upd i fun x => { x with ended := e.count + 1 })) (sep (storeP _ b 0 V' last') (sep (tabP _ b 11 e.t) _)) = sep (storeP _ b 0 V' last') (sep (tabP _ b 11 e.t) (sep _ _))
       ac_rfl
      have hfree : ∀ W M, S w0 W (engP b bs (e.over2 i) :: M) → Calls Tryz.prog 137 #[.pointer (some ⟨b, 0, none⟩), .int .i64 ((i : Int) + 1)] W fun r w' => r = .returned (.tuple #[]) ∧ S w0 w' (engP b bs ((e.over2 i).frees i) :: M) := fun W M h =>
       frees_any (e.over2 i).open_ w0 W b bs (e.over2 i) i M N [] (by rw [List.append_nil]; exact hov) (Nat.le_refl _) (by omega) (fun k => by have := hlines k; rw [show (e.over2 i).t = e.t from (told_txs e i).2.1]; exact this) (by rw [show (e.over2 i).t = e.t from (told_txs e i).2.1]; exact hhold) (by rw [over2_heirs]; exact hheirs) h
      have hc1 := hcnt.1
      have hc2 := hcnt.2
      have HCLO := hid hclose; have HFR := hid hfree
      clear hclose hfree
      by_cases hw0 : wl = []
      ·have ht : e.told i = ({ e with V := e.V, last := e.last, wr := e.wr, hist := e.hist ++ toldL ((i : Int) + 1) (e.tx i) } : Eng) := by unfold Eng.told Eng.installed; rw [if_pos (by rw [hwle]; exact hw0)]
       obtain ⟨⟨c15, f15, x1, fx1, x4, fx4, hbb⟩, hs9⟩ := HCLO.out wr hv' e.wr e.V e.last (sl 91 2 (.slice al wl.length cl) wl.length (pcells wl) :: L) ht (hsr.conv (by simp only [all]; ac_rfl))
       have hwl0 : wl.length = 0 := by rw [hw0]; rfl
       have hbb' := Ne.symm hbb
       have HFC := hid (HFR.out _ _ hs9)
       clear hsr hs9 HCLO HFR ht hw0 hov hovo hlines hhold hheirs hwok htold HRS
       go_wp2_with fail
       with_reducible refine HFC.out.mono ?_
       rintro r w9 ⟨rfl, hs9⟩
       have H9 := hid hs9
       clear hs9 HFC
       go_wp2_with fail
       go_ret
       exact ⟨by rw [HCQ.out]; rfl, by rw [HCQ.out]; exact H9.out.swap.tail⟩
      ·have hwpos : 0 < wl.length := List.length_pos_iff.2 hw0
       have hla : ∀ W (M : List HProp), S w0 W (engO b bs { k2 with hv := hv' } { e with hist := e.hist ++ toldL ((i : Int) + 1) (e.tx i) } :: sl 91 2 (.slice al wl.length cl) wl.length (pcells wl) :: storeP 99 b 0 e.V e.last :: M) → Calls Tryz.prog 104 #[.pointer (some ⟨b, 0, none⟩)] W fun r w' => r = .returned (.int .i64 e.last) ∧ W = w' := fun W M h => last_any b 0 e.last W h.tail.tail.store_last.1
       have hins : ∀ W, S w0 W (engO b bs { k2 with hv := hv' } { e with hist := e.hist ++ toldL ((i : Int) + 1) (e.tx i) } :: sl 91 2 (.slice al wl.length cl) wl.length (pcells wl) :: storeP 99 b 0 e.V e.last :: tabP 3 b 11 e.t :: L) →
         Calls Tryz.prog 25 #[.pointer (some ⟨b, 0, none⟩), .int .i64 (e.last + 1), .slice al wl.length cl] W fun r w' => ∃ v, r = .returned v ∧ S w0 w' (engO b bs { k2 with hv := hv' } { e with hist := e.hist ++ toldL ((i : Int) + 1) (e.tx i) } :: storeP 99 b 0 (e.told i).V (e.told i).last :: tabP 3 b 11 e.t :: sl 91 2 (.slice al wl.length cl) wl.length (pcells wl) :: L) := fun W h => by
        have h1 : S w0 W (storeP 99 b 0 e.V e.last :: sl 91 2 (.slice al wl.length cl) wl.length (pcells wl) :: engO b bs { k2 with hv := hv' } { e with hist := e.hist ++ toldL ((i : Int) + 1) (e.tx i) } :: tabP 3 b 11 e.t :: L) := h.conv (by simp only [all]; ac_rfl)
        have hI := install_any w0 W b 0 e.V e.last (e.last + 1) (.slice al wl.length cl) wl _ 401 h1 RdK.own hrowle (by omega)
        have hbn := bad_none (m := 0) hwok
        have hti : e.told i = if instOk' e.last (e.last + 1) wl then ({ e with hist := e.hist ++ toldL ((i : Int) + 1) (e.tx i), V := putAll (e.last + 1) e.V wl, last := e.last + 1, wr := mput e.wr (e.last + 1) ((i : Int) + 1) } : Eng) else ({ e with hist := e.hist ++ toldL ((i : Int) + 1) (e.tx i), wr := mput e.wr (e.last + 1) ((i : Int) + 1) } : Eng) := by
         unfold Eng.told Eng.installed
         rw [hwle, if_neg hw0]
        refine hI.mono fun r w' h2 => ?_
        unfold InstPost at h2
        rw [hbn] at h2
        by_cases hl : e.last < e.last + 1 ∧ e.last + 1 ≤ 1099511627776
        ·rw [if_pos hl] at h2
         obtain ⟨h3, h4⟩ := h2
         have hok' : instOk' e.last (e.last + 1) wl = true := by unfold instOk'; rw [hbn]; simp [hl]
         rw [hok', if_pos rfl] at hti
         refine ⟨_, h3, ?_⟩
         rw [hti]
         exact h4.conv (by simp only [all]; ac_rfl)
        ·rw [if_neg hl] at h2
         obtain ⟨h3, h4⟩ := h2
         have hok' : instOk' e.last (e.last + 1) wl = false := by
          unfold instOk'
          rw [hbn]
          simp only [Option.isNone_none, Bool.and_true, decide_eq_false_iff_not]
          exact hl
         rw [hok', if_neg (by decide)] at hti
         refine ⟨_, h3, ?_⟩
         rw [hti]
         exact h4.conv (by simp only [all]; ac_rfl)
       have ht : e.told i = ({ e with V := (e.told i).V, last := (e.told i).last, wr := mput e.wr (e.last + 1) ((i : Int) + 1), hist := e.hist ++ toldL ((i : Int) + 1) (e.tx i) } : Eng) := by
        unfold Eng.told Eng.installed
        rw [hwle, if_neg hw0]
        split <;> rfl
       have hwp : ∀ W M, S w0 W (engO b bs { k2 with hv := hv' } { e with hist := e.hist ++ toldL ((i : Int) + 1) (e.tx i) } :: M) → W.cell? ⟨b, 16, none⟩ = some (.map (some k2.wb)) ∧ ∃ w', (Instr.mapUpdate 101 (.map (some k2.wb)) (.int .i64 (e.last + 1)) (.int .i64 ((i : Int) + 1))).run Tryz.prog W = .ok () w' ∧ S w0 w' (engO b bs { k2 with hv := hv' } { e with hist := e.hist ++ toldL ((i : Int) + 1) (e.tx i), wr := mput e.wr (e.last + 1) ((i : Int) + 1) } :: M) := fun W M h => ⟨h.eng_c.2.wr, eng_wrput h (e.last + 1) ((i : Int) + 1)⟩
       have hl1 := hlast.1
       have hl2 := hlast.2
       have HS5 := hid hsr; have HLA := hid (hla _ _ hsr); have HIN := hid (hins _ hsr); have HWP := hid hwp; have HT := hid ht
       clear hsr hla hins hwp ht hw0 hov hovo hlines hhold hheirs hwok htold HRS hlast
       go_wp2_with (go_at_call 104; with_reducible refine HLA.out.mono ?_; rintro r w7 ⟨rfl, rfl⟩)
       with_reducible refine HIN.out.mono ?_
       rintro r w7 ⟨vi, rfl, hs7⟩
       obtain ⟨c16, w8, u8, hs8⟩ := HWP.out _ _ hs7
       obtain ⟨⟨c15, f15, x1, fx1, x4, fx4, hbb⟩, hs9⟩ := HCLO.out w8 hv' _ _ _ _ HT.out hs8
       have hbb' := Ne.symm hbb
       have HFC := hid (HFR.out _ _ hs9)
       clear hs7 hs8 hs9 HCLO HFR HT HIN HLA HWP HS5
       go_wp2_with fail
       with_reducible refine HFC.out.mono ?_
       rintro r w9 ⟨rfl, hs9⟩
       have H9 := hid hs9
       clear hs9 HFC
       go_wp2_with fail
       go_ret
       exact ⟨by rw [HCQ.out]; rfl, by rw [HCQ.out]; exact H9.out.swap.tail⟩
 ·have h0b : e.ready n ≠ 0 := h0
  rw [errV_ne h0b] at hrd
  have HRD := hid hrd
  by_cases h13 : e.ready n = 13
  ·obtain ⟨i, rfl, hi, hst⟩ := ready_13 h13
   have hcq : e.commit ((i : Int) + 1) = (e.goes i 13, 13) := by
    unfold Eng.commit
    rw [if_pos h0b, if_pos h13, h13, show ((i : Int) + 1).toNat - 1 = i by omega]
   have hgo := fun W h => goes_any e.open_ w0 W b bs e i 13 L N [] hok hi (by simp [Tx.alive, hst]) (by simp) (Nat.le_refl _) (by omega) h
   rw [h13] at HRD
   have HCQ := hid hcq; have HG := hid hgo
   clear hs hO hrd h0 h0b h13 hcq hgo hok hst
   go_enter Tryz.func108, Tryz.ntmps108
   go_wp2_with fail
   with_reducible refine HRD.out.mono ?_
   rintro r w1 ⟨rfl, rfl⟩
   go_wp2_with fail
   with_reducible refine (tell_no 13 w0 _ _ hE HS.out).mono ?_
   rintro r w2 ⟨rfl, hs2⟩
   have H2 := hid (HG.out _ hs2)
   clear hs2 HG HRD
   go_wp2_with fail
   with_reducible refine H2.out.mono ?_
   rintro r w3 ⟨rfl, hs3⟩
   have H3 := hid hs3
   clear hs3 H2
   go_wp2_with fail
   go_ret
   exact ⟨by rw [HCQ.out]; rfl, by rw [HCQ.out]; exact H3.out⟩
  ·have hcq : e.commit n = (e, e.ready n) := by unfold Eng.commit; rw [if_pos h0b, if_neg h13]
   have hb13 : (e.ready n == 13) = false := by simpa using h13
   have HCQ := hid hcq; have HNE := hid (errV_ne h0b)
   clear hs hO hrd h0 h0b h13 hcq hok
   generalize e.ready n = x at *
   go_enter Tryz.func108, Tryz.ntmps108
   go_wp2_with fail
   with_reducible refine HRD.out.mono ?_
   rintro r w1 ⟨rfl, rfl⟩
   go_wp2_with fail
   with_reducible refine (tell_no x w0 _ _ hE HS.out).mono ?_
   rintro r w2 ⟨rfl, hs2⟩
   have H2 := hid hs2
   clear hs2 HRD
   go_wp2_with fail
   go_ret
   exact ⟨by rw [HCQ.out, HNE.out]; rfl, by rw [HCQ.out]; exact H2.out⟩
end Go.Proofs.YtdlkjppppdminaaGreatDoor
/- The program's store: All. -/
namespace Go.Sep
open Go Go.RowKit
def allK (f : Int → Option (Int × Int)) (k : Nat) : List (Int × Int) := match f k with | some p => [((k : Int), p.2)] | none => []
def allL (f : Int → Option (Int × Int)) (n : Nat) : List (Int × Int) := (List.range n).flatMap (allK f)
theorem allL_succ (f : Int → Option (Int × Int)) (n : Nat) : allL f (n + 1) = allL f n ++ allK f n := by simp [allL, List.range_succ, List.flatMap_append]
theorem allK_some {f : Int → Option (Int × Int)} {k : Nat} {p : Int × Int} (h : f k = some p) : allK f k = [((k : Int), p.2)] := by unfold allK; rw [h]
theorem allK_none {f : Int → Option (Int × Int)} {k : Nat} (h : f k = none) : allK f k = [] := by unfold allK; rw [h]
theorem allL_le (f : Int → Option (Int × Int)) : ∀ n, (allL f n).length ≤ n
 | 0 => by simp [allL]
 | n + 1 => by
  rw [allL_succ, List.length_append]
  have := allL_le f n
  have : (allK f n).length ≤ 1 := by unfold allK; split <;> simp
  omega
end Go.Sep
namespace Go.Proofs.YtdlkjppppdminaaGreatDoor
open Go Go.RowKit Go.Sep
set_option maxRecDepth 40000 in
set_option maxHeartbeats 4000000 in
theorem sall_any (w0 w : World) (b : Nat) (V : List Vers) (last at_ : Int) (L : List HProp) (hs : S w0 w (storeP 99 b 0 V last :: L)) (hb : ∀ vs ∈ V, vs.length ≤ 2000000) :
  Calls Tryz.prog 27 #[.pointer (some ⟨b, 0, none⟩), .int .i64 at_] w fun e w' => ∃ v, e = .returned v ∧ S w0 w' (sl 91 2 v (allL (fun k => readV ((V[k.toNat]?).getD []) at_) 10).length (pcells (allL (fun k => readV ((V[k.toNat]?).getD []) at_) 10)) :: storeP 99 b 0 V last :: L) := by
 have hlen := hs.store_len
 have H2 := hid (hs.sl_nil (e := 91) (size := 2)); have HL := hid hlen; have HB := hid hb
 clear hs hlen hb
 go_enter Tryz.func27, Tryz.ntmps27
 go_wp2_with fail
 go_loopw [5, 9] (fun u cn wr => ∃ n : Nat, n ≤ 10 ∧ cn = .int .i64 n ∧ S w0 wr (sl 91 2 u (allL (fun k => readV ((V[k.toNat]?).getD []) at_) n).length (pcells (allL (fun k => readV ((V[k.toNat]?).getD []) at_) n)) :: storeP 99 b 0 V last :: L)) (fun _ cn _ => 10 - (intOf cn).toNat)
 case atStart => exact ⟨0, Nat.zero_le _, rfl, H2.out⟩
 case round =>
  rename World => wr
  obtain ⟨n, hn, rfl, hsr⟩ := hrel
  clear H2
  by_cases hlt : n < 10
  ·obtain ⟨ao, co, rfl, hco, hco2, _⟩ := hsr.sl_val
   unfold maxLen at hco2
   have hle := allL_le (fun k => readV ((V[k.toNat]?).getD []) at_) n
   have hsc := allL_succ (fun k => readV ((V[k.toNat]?).getD []) at_) n
   obtain ⟨vs, hvs⟩ : ∃ vs, V[n]? = some vs := ⟨V[n]'(by rw [HL.out]; exact hlt), by simp⟩
   have hcall := read_any b 0 V last at_ n vs w0 wr _ hlt hsr.swap hvs (HB.out vs (List.mem_of_getElem? hvs))
   obtain ⟨r, hr⟩ : ∃ r, readV vs at_ = r := ⟨_, rfl⟩
   have hr2 : (fun k : Int => readV ((V[k.toNat]?).getD []) at_) (n : Nat) = r := by simp only [Int.toNat_natCast]; rw [hvs]; exact hr
   rw [hr] at hcall
   have HC := hid hcall; have HSC := hid hsc; have HR := hid hr2
   clear hcall hsc hr hr2 hsr hvs
   go_wp2_with fail
   with_reducible refine HC.out.mono ?_
   rintro e w2 ⟨rfl, hs2⟩
   unfold readAns
   cases r with
   | none =>
    have H3 := hid hs2.swap
    have hx := allK_none (f := fun k : Int => readV ((V[k.toNat]?).getD []) at_) (k := n) HR.out
    have HX := hid hx
    clear hs2 hx HC
    go_wp2_with fail
    go_roundw
    case rel => exact ⟨n + 1, by omega, by go_num, by rw [HSC.out, HX.out, List.append_nil]; exact (H3.out.alloc _ _).tail⟩
    case measure => simp [intOf]; omega
   | some p =>
    have hx := allK_some (f := fun k : Int => readV ((V[k.toNat]?).getD []) at_) (k := n) HR.out
    obtain ⟨i0, hi0, hz0, hz1, hz2⟩ := info_parts Tryz.info91
    have hs3 := (hs2.swap.alloc #[.int .i64 p.1, .int .i64 p.2] 99).tail.alloc #[.int .i64 (n : Int), .int .i64 p.2] 91
    have hn1 := news_blk hs3
    rw [World.size_alloc] at hn1
    have HX := hid hx; have HN1 := hid hn1; have H9 := hid hs3.tail
    clear hs2 hs3 hn1 hx HC
    go_wp2_with (at_builtin; refine wpList_append rfl (.tmp 21) (.tmp 26) 70 rfl 91 i0 _ 2 16 Tryz.underlying70 hi0 hz0 hz1 hz2 rfl (by decide) H9.out rfl (some ⟨w2.heap.size + 1, 0, none⟩) 1 1 [.int .i64 (n : Int), .int .i64 p.2] rfl rfl HN1.out (by simp [Value.oneCell']) (by unfold maxLen; omega) (by omega) ?_; intro v1 w5 hs1; have HS := hid hs1; clear hs1)
    go_roundw
    case rel => exact ⟨n + 1, by omega, by go_num, by rw [HSC.out, HX.out, pcells_append, List.length_append, List.length_singleton]; exact HS.out⟩
    case measure => simp [intOf]; omega
  ·obtain rfl : n = 10 := by omega
   have H4 := hid hsr
   clear hsr
   go_wp2_with fail
   go_ret
   exact ⟨_, rfl, H4.out⟩
end Go.Proofs.YtdlkjppppdminaaGreatDoor
/- The program's engine: History, All. -/
namespace Go.Proofs.YtdlkjppppdminaaGreatDoor
open Go Go.RowKit Go.Sep
theorem opcF_length (o : Op1) : (opc o).length = 4 := rfl
set_option maxHeartbeats 1000000 in
set_option maxRecDepth 20000 in
theorem clone_ops (w0 w : World) (v : Value) (l : List Op1) (L : List HProp) (hs : S w0 w L) (hr : RdK w0 L v l.length (fcells opc l)) (hb : l.length ≤ 1000000000000) :
  Calls Tryz.prog 110 #[v] w fun e w' => ∃ v', e = .returned v' ∧ S w0 w' (sl 121 4 v' l.length (fcells opc l) :: L) := by
 obtain ⟨a, cap, rfl, hcap, hcap2, hrd⟩ := hr w hs
 have heq := fun w => Lib.run_eql_slice_nil (P := Tryz.prog) w 106 121 a l.length cap 0 0 Tryz.underlying106
 have hlp := fcells_length opcF_length l
 clear hcap2
 cases a with
 | none =>
  have hl0 : l = [] := by
   apply List.eq_nil_of_length_eq_zero
   rcases Nat.eq_zero_or_pos l.length with h | h
   ·exact h
   ·obtain ⟨b, o, hb, _⟩ := hrd 0 ((fcells opc l)[0]'(by omega)) (by simp)
    cases hb
  subst hl0
  simp only [List.length_nil] at heq
  have hfin : S w0 w (sl 121 4 (.slice none 0 0) 0 [] :: L) := hs.sl_nil
  have HF := hid hfin; clear hfin hs hr hrd hlp
  go_enter Tryz.func110, Tryz.ntmps110
  go_wp2_with fail
  go_ret
  exact ⟨_, rfl, HF.out⟩
 | some a =>
  obtain ⟨i0, hi0, hz0, hz1, hz2⟩ := info_parts Tryz.infoE121
  have hs1 : S w0 (w.alloc (.cells #[] 121)) (sl 121 4 (.slice (some ⟨w.heap.size, 0, none⟩) 0 0) 0 [] :: L) := (hs.alloc #[] 121).sl_blk (n := 0) (by simp) (by simp)
  have hn1 : ∀ j u, (fcells opc l)[j]? = some u → ∃ b, some a = some b ∧ (w.alloc (.cells #[] 121)).cell? (b.add j) = some u := by
   intro j u hj
   obtain ⟨b, o, hb, hc⟩ := hrd j u hj
   cases hb
   refine ⟨_, rfl, ?_⟩
   have e1 : (⟨b, o, none⟩ : Addr).add j = ⟨b, o + j, none⟩ := by unfold Addr.add; split <;> simp_all
   rw [e1, World.cell?_alloc_lt _ _ _ (World.block_lt_of_cell? w _ hc)]; exact hc
  have hone : ∀ u ∈ fcells opc l, u.oneCell' = true := by
   intro u hu
   simp only [fcells, List.mem_flatMap] at hu
   obtain ⟨p, _, hu⟩ := hu
   exact one_op p u hu
  have H1 := hid hs1; have H2 := hid hn1; have H3 := hid hone; have H4 := hid hlp
  clear hs1 hn1 hone hs hr hrd hlp
  go_enter Tryz.func110, Tryz.ntmps110
  go_wp2_with (at_builtin; refine wpList_append rfl (.tmp 5) (.tmp 6) 106 rfl 121 i0 _ 4 32 Tryz.underlying106 hi0 hz0 hz1 hz2 rfl (by decide) H1.out rfl (some a) l.length cap (fcells opc l) rfl H4.out H2.out H3.out (by unfold maxLen; omega) (by omega) ?_; intro v1 w1 hs1; have HS := hid hs1; clear hs1)
  go_ret
  exact ⟨_, rfl, by simpa using HS.out⟩
theorem ehist_any (w0 w : World) (b : Nat) (bs : List Nat) (e : Eng) (L : List HProp) (N : Nat) (U : List Task) (hok : OkT N e U) (hN : N ≤ 90000000) (hs : S w0 w (engP b bs e :: L)) :
  Calls Tryz.prog 68 #[.pointer (some ⟨b, 0, none⟩)] w fun r w' => ∃ v, r = .returned v ∧ S w0 w' (sl 121 4 v e.hist.length (fcells opc e.hist) :: engP b bs e :: L) := by
 have hcnt := hok.cnt
 have hfew := hok.few
 have hhist := hok.hist
 have hhb : (e.hist.length : Int) ≤ 400 * 90000010 := by
  have h1 : e.count * ((N : Int) + 10) ≤ 400 * ((N : Int) + 10) := Int.mul_le_mul_of_nonneg_right (by omega) (by omega)
  omega
 obtain ⟨k, hs⟩ := hs.eng_open
 have hO : S w0 w (engO b bs k e :: storeP 99 b 0 e.V e.last :: tabP 3 b 11 e.t :: L) := hs.conv (by simp only [all]; ac_rfl)
 have c17 := hO.eng_c.2.hist
 have hcl := clone_ops w0 w k.hv e.hist _ hO.hi_open RdK.own (by omega)
 have HCL := hid hcl
 clear hs hO hcl hok hhist
 go_enter Tryz.func68, Tryz.ntmps68
 go_wp2_with fail
 with_reducible refine HCL.out.mono ?_
 rintro r w' ⟨v, rfl, hs'⟩
 have H4 := hid hs'
 clear hs'
 go_wp2_with fail
 go_ret
 refine ⟨_, rfl, ?_⟩
 have h5 : S w0 w' (storeP 99 b 0 e.V e.last :: tabP 3 b 11 e.t :: engO b bs k e :: sl 121 4 v e.hist.length (fcells opc e.hist) :: L) := H4.out.conv (by simp only [all, engO, engG, hiX]; ac_rfl)
 exact (h5.eng_shut).swap
def Eng.allV (e : Eng) : List (Int × Int) := allL (fun k => readV (e.row k) e.last) 10
set_option maxRecDepth 40000 in
theorem eall_any (w0 w : World) (b : Nat) (bs : List Nat) (e : Eng) (L : List HProp) (N : Nat) (U : List Task) (hok : OkT N e U) (hs : S w0 w (engP b bs e :: L)) :
  Calls Tryz.prog 62 #[.pointer (some ⟨b, 0, none⟩)] w fun r w' => ∃ v, r = .returned v ∧ S w0 w' (sl 91 2 v e.allV.length (pcells e.allV) :: engP b bs e :: L) := by
 obtain ⟨k, hs⟩ := hs.eng_open
 have hla := last_any b 0 e.last w.drew hs.drew.store_last.1
 have hal := sall_any w0 w.drew b e.V e.last e.last _ hs.drew (fun vs hv => by have := hok.row_le vs hv; omega)
 have HLA := hid hla; have HAL := hid hal
 clear hs hla hal hok
 go_enter Tryz.func62, Tryz.ntmps62
 go_wp2_with fail
 go_region_with (first | (go_at_call 104; with_reducible refine HLA.out.mono ?_; rintro r w' ⟨rfl, rfl⟩) | (go_at_call 27; with_reducible refine HAL.out.mono ?_; rintro r w' ⟨v, rfl, hs'⟩; have H4 := hid hs'; clear hs'))
 all_goals
  go_wp2_with fail
  go_ret
  refine ⟨_, rfl, ?_⟩
  have h5 := H4.out.conv (M := storeP 99 b 0 e.V e.last :: tabP 3 b 11 e.t :: engO b bs k e :: sl 91 2 _ e.allV.length (pcells e.allV) :: L) (by simp only [all, Eng.allV, Eng.row]; ac_rfl)
  exact (h5.eng_shut).swap
end Go.Proofs.YtdlkjppppdminaaGreatDoor
/- What a disk's places are, put into a store one behind the other; what every key has then. No walk in sight. -/
namespace Go.Proofs.YtdlkjppppdminaaGreatDoor
open Go Go.RowKit Go.Sep
def wantL (D : List (Int × Int)) (l : Vers) : List (Int × Int) := l.foldl (fun D p => mput D p.1 p.2) D
def Fine (l : Vers) : Prop := l ≠ [] ∧ l.length ≤ 10 ∧ ∀ p ∈ l, (0 ≤ p.1 ∧ p.1 < 10) ∧ (0 ≤ p.2 ∧ p.2 < 100)
theorem Fine.two {l : Vers} (h : Fine l) : Two l := fun p hp => by have := h.2.2 p hp; omega
def Told (n : Nat) (V : List Vers) (D : List (Int × Int)) : Prop :=
 V.length = 10 ∧ (∀ vs ∈ V, ∀ p ∈ vs, p.1 ≤ (n : Int)) ∧ (D.map (·.1)).Nodup ∧ (∀ p ∈ D, (0 ≤ p.1 ∧ p.1 < 10) ∧ (0 ≤ p.2 ∧ p.2 < 100)) ∧
  ∀ k : Nat, k < 10 → (((V[k]?).getD []).getLast?).map (·.2) = mget D (k : Int)
theorem Told.start : Told 0 (List.replicate 10 []) [] := by
 refine ⟨rfl, fun vs hv => by rw [(List.mem_replicate.1 hv).2]; simp, List.nodup_nil, by simp, fun k hk => ?_⟩
 rw [List.getElem?_replicate, if_pos hk]; rfl
theorem Told.later {n : Nat} {V : List Vers} {D : List (Int × Int)} (h : Told n V D) {m : Nat} (hm : n ≤ m) : Told m V D :=
 ⟨h.1, fun vs hv p hp => by have := h.2.1 vs hv p hp; omega, h.2.2.1, h.2.2.2.1, h.2.2.2.2⟩
theorem Told.put1 {n : Nat} {V : List Vers} {D : List (Int × Int)} (h : Told n V D) {p : Int × Int} (hp : (0 ≤ p.1 ∧ p.1 < 10) ∧ (0 ≤ p.2 ∧ p.2 < 100)) : Told n (put1 (n : Int) V p) (mput D p.1 p.2) := by
 obtain ⟨k, hk⟩ : ∃ k : Nat, p.1 = k := ⟨p.1.toNat, by omega⟩
 obtain ⟨p1, p2⟩ := p
 simp only at hk hp
 subst hk
 have hk10 : k < 10 := by omega
 refine ⟨by rw [put1_length]; exact h.1, fun vs hv q hq => ?_, keys_put_nodup h.2.2.1 _ _, fun q hq => ?_, fun j hj => ?_⟩
 ·unfold Go.Sep.put1 at hv
  rcases List.mem_or_eq_of_mem_set hv with hv | rfl
  ·exact h.2.1 vs hv q hq
  ·simp only [Int.toNat_natCast] at hq
   have hold : ∀ q ∈ (V[k]?).getD [], q.1 ≤ (n : Int) := fun q hq => by
    cases hvk : V[k]? with
    | none => rw [hvk] at hq; simp at hq
    | some vs => rw [hvk] at hq; exact h.2.1 vs (List.mem_of_getElem? hvk) q hq
   split at hq
   ·rw [List.mem_append, List.mem_singleton] at hq
    rcases hq with hq | rfl
    ·exact hold q ((List.dropLast_sublist _).subset hq)
    ·exact Int.le_refl _
   ·rw [List.mem_append, List.mem_singleton] at hq
    rcases hq with hq | rfl
    ·exact hold q hq
    ·exact Int.le_refl _
 ·have hg := mget_mem (keys_put_nodup h.2.2.1 (k : Int) p2) (k := q.1) (v := q.2) hq
  rw [mget_put] at hg
  split at hg
  ·rename_i he
   simp only [Option.some.injEq] at hg
   rw [he, ← hg]; omega
  ·exact h.2.2.2.1 q (mget_some hg)
 ·rw [mget_put]
  unfold Go.Sep.put1
  simp only [Int.toNat_natCast]
  by_cases hjk : j = k
  ·subst hjk
   rw [List.getElem?_set_self (by rw [h.1]; exact hk10), if_pos rfl]
   simp only [Option.getD_some]
   split <;> simp
  ·rw [List.getElem?_set_ne (fun e => hjk e.symm), if_neg (by omega)]
   exact h.2.2.2.2 j hj
theorem Told.putAll {n : Nat} : ∀ (l : Vers) {V : List Vers} {D : List (Int × Int)}, Told n V D → (∀ p ∈ l, (0 ≤ p.1 ∧ p.1 < 10) ∧ (0 ≤ p.2 ∧ p.2 < 100)) → Told n (putAll (n : Int) V l) (wantL D l)
 | [], _, _, h, _ => h
 | p :: l, _, _, h, hl => Told.putAll l (h.put1 (hl p (List.mem_cons_self ..))) (fun q hq => hl q (List.mem_cons_of_mem _ hq))
theorem readV_last {vs : Vers} {n : Int} (h : ∀ p ∈ vs, p.1 ≤ n) : readV vs n = vs.getLast? := by
 unfold readV
 cases hg : vs.getLast? with
 | none => rw [List.getLast?_eq_none_iff.1 hg]; rfl
 | some p =>
  have hr : vs.reverse.head? = some p := by rw [List.head?_reverse]; exact hg
  cases hv : vs.reverse with
  | nil => rw [hv] at hr; simp at hr
  | cons q r =>
   rw [hv] at hr
   simp only [List.head?_cons, Option.some.injEq] at hr
   subst hr
   have hm : q ∈ vs := by rw [← List.mem_reverse, hv]; exact List.mem_cons_self ..
   rw [List.find?_cons_of_pos (by simpa using h q hm)]
def listD (D : List (Int × Int)) : List (Int × Int) := allL (fun k => (mget D k).map fun v => (0, v)) 10
theorem allL_map {f g : Int → Option (Int × Int)} {n : Nat} (h : ∀ k < n, (f (k : Nat)).map (·.2) = (g (k : Nat)).map (·.2)) : allL f n = allL g n := by
 induction n with
 | zero => rfl
 | succ n ih =>
  rw [allL_succ, allL_succ, ih (fun k hk => h k (by omega))]
  have h1 := h n (by omega)
  cases hf : f (n : Int) with
  | none =>
   rw [hf] at h1
   cases hg : g (n : Int) with
   | none => rw [allK_none hf, allK_none hg]
   | some q => rw [hg] at h1; simp at h1
  | some p =>
   rw [hf] at h1
   cases hg : g (n : Int) with
   | none => rw [hg] at h1; simp at h1
   | some q =>
    rw [hg] at h1
    simp only [Option.map_some, Option.some.injEq] at h1
    rw [allK_some hf, allK_some hg, h1]
theorem Told.all {n : Nat} {V : List Vers} {D : List (Int × Int)} (h : Told n V D) : allL (fun k => readV ((V[k.toNat]?).getD []) (n : Int)) 10 = listD D := by
 refine allL_map fun k hk => ?_
 rw [Int.toNat_natCast, readV_last (fun p hp => ?_), h.2.2.2.2 k hk]
 ·rw [Option.map_map]
  cases mget D (k : Int) <;> rfl
 ·cases hv : V[k]? with
  | none => rw [hv] at hp; simp at hp
  | some vs => rw [hv] at hp; exact h.2.1 vs (List.mem_of_getElem? hv) p hp
end Go.Proofs.YtdlkjppppdminaaGreatDoor
/- base.Open: the walk. -/
namespace Go.Proofs.YtdlkjppppdminaaGreatDoor
open Go Go.RowKit Go.Sep
def Torn (k : Nat) (p : List UInt8) : Prop := p = [] ∨ k < 100 ∧ ∃ l, Safe k l ∧ Two l ∧ l.length ≤ 10 ∧ p <+: sealL k l ∧ p ≠ sealL k l
def DiskOk (d : Dsk) (ls : List Vers) : Prop :=
 d.places.length = 250 ∧ ls.length ≤ 90 ∧ (∀ l ∈ ls, Fine l) ∧ (∀ i l, ls[i]? = some l → d.places[i]? = some (sealL i l)) ∧ (∃ p, d.places[ls.length]? = some p ∧ Torn ls.length p) ∧ ∀ i, ls.length < i → i < 250 → d.places[i]? = some []
set_option maxRecDepth 40000 in
theorem eover_own (w0 w : World) (at_ : Int) (v : Value) (l : Vers) (L : List HProp) (hs : S w0 w (sl 91 2 v l.length (pcells l) :: L)) (hk : instOk 0 at_ l = true) (hl : l.length ≤ 1000) :
  Calls Tryz.prog 26 #[.int .i64 at_, v] w fun r w' => ∃ b, r = .returned (.tuple #[.pointer (some ⟨b, 0, none⟩), .nilIface]) ∧ S w0 w' (engP b [] (Eng.over at_ l) :: sl 91 2 v l.length (pcells l) :: L) := by
 have hat := instOk_at hk
 obtain ⟨a, c, rfl, _, _, _⟩ := hs.sl_val
 have HS := hid hs; have he := hid (instErr_nil hk)
 have hb0 : (at_ == 0) = false := by simp; omega
 clear hs hk hat
 go_enter Tryz.func26, Tryz.ntmps26
 go_wp2_with fail
 with_reducible refine (new_any w0 w _ HS.out).mono ?_
 rintro r w1 ⟨rfl, hs1⟩
 generalize w.heap.size + 1 = b at *
 obtain ⟨k, hs2⟩ := hs1.eng_open
 have hcall := install2 w0 w1 b 0 Eng.zero.V Eng.zero.last at_ (.slice a l.length c) l _ 0 hs2 (RdK.own.mono fun W h => h.tail.tail) (fun vs hv => by rw [(List.mem_replicate.1 hv).2]; exact Nat.le_refl _) (by omega)
 have HC := hid hcall
 clear hs1 hs2 hcall HS
 go_wp2_with fail
 with_reducible refine HC.out.mono ?_
 rintro r w2 ⟨u, rfl, hs3⟩
 rw [show instErr Eng.zero.last at_ l = .nil from he.out] at hs3
 obtain ⟨rfl, hs4⟩ := S.pur_elim hs3
 have H4 := hid (eng_over at_ l hs4)
 clear hs3 hs4 HC
 go_wp2_with fail
 go_ret2
 exact ⟨_, rfl, H4.out⟩
def bseB (b d : Nat) (e : Value) (used : Nat) (down : Bool) (torn : Int) : HProp := blk b 65 [.pointer (some ⟨d, 0, none⟩), e, .int .i64 used, .bool down, .int .i64 torn]
end Go.Proofs.YtdlkjppppdminaaGreatDoor
/- What lies on a disk when a place is written, or torn. No walk in sight. -/
namespace Go.Proofs.YtdlkjppppdminaaGreatDoor
open Go Go.RowKit Go.Sep
theorem DiskOk.start : DiskOk Dsk.zero [] := by
 have hz : ∀ i, i < 250 → Dsk.zero.places[i]? = some [] := fun i hi => by
  show (List.replicate 250 ([] : List UInt8))[i]? = _
  rw [List.getElem?_replicate, if_pos hi]
 exact ⟨List.length_replicate .., by simp, by simp, by simp, ⟨[], hz 0 (by omega), .inl rfl⟩, fun i _ hi => hz i hi⟩
theorem DiskOk.setCut {d : Dsk} {ls : List Vers} (h : DiskOk d ls) (n : Int) : DiskOk (d.setCut n) ls := h
theorem DiskOk.put {d : Dsk} {ls : List Vers} {l : Vers} (h : DiskOk d ls) (hl : Fine l) (hn : ls.length < 90) : DiskOk (d.put ls.length (sealL ls.length l)) (ls ++ [l]) := by
 obtain ⟨h1, h2, h3, h4, h5, h6⟩ := h
 refine ⟨by unfold Dsk.put; rw [List.length_set]; exact h1, by rw [List.length_append]; simp; omega, fun x hx => ?_, fun i x hx => ?_, ⟨[], ?_, .inl rfl⟩, fun i hi hi2 => ?_⟩
 ·rw [List.mem_append, List.mem_singleton] at hx
  rcases hx with hx | rfl
  ·exact h3 x hx
  ·exact hl
 ·unfold Dsk.put
  rcases Nat.lt_or_ge i ls.length with hi | hi
  ·rw [List.getElem?_append_left hi] at hx
   rw [List.getElem?_set_ne (by omega)]
   exact h4 i x hx
  ·have hi2 := (List.getElem?_eq_some_iff.1 hx).1
   rw [List.length_append, List.length_singleton] at hi2
   obtain rfl : i = ls.length := by omega
   rw [List.getElem?_append_right (Nat.le_refl _), Nat.sub_self, List.getElem?_cons_zero, Option.some.injEq] at hx
   subst hx
   rw [List.getElem?_set_self (by omega)]
 ·unfold Dsk.put
  rw [List.length_append, List.length_singleton, List.getElem?_set_ne (by omega)]
  exact h6 _ (by omega) (by omega)
 ·rw [List.length_append, List.length_singleton] at hi
  unfold Dsk.put
  rw [List.getElem?_set_ne (by omega)]
  exact h6 i (by omega) hi2
theorem DiskOk.tear {d : Dsk} {ls : List Vers} {l : Vers} (h : DiskOk d ls) (hl : Fine l) (hs : Safe ls.length l) (torn : Int) : DiskOk (d.tear ls.length (sealL ls.length l) torn) ls := by
 unfold Dsk.tear
 split
 ·obtain ⟨h1, h2, h3, h4, _, h6⟩ := h
  refine ⟨by rw [List.length_set]; exact h1, h2, h3, fun i x hx => ?_, ⟨_, List.getElem?_set_self (by omega), .inr ⟨by omega, l, hs, hl.two, hl.2.1, List.take_prefix .., fun he => ?_⟩⟩, fun i hi hi2 => ?_⟩
  ·have hi := (List.getElem?_eq_some_iff.1 hx).1
   show (d.places.set _ _)[i]? = _
   rw [List.getElem?_set_ne (by omega)]
   exact h4 i x hx
  ·have h7 := congrArg List.length he
   have h8 : 1 ≤ (sealL ls.length l).length := by unfold sealL; rw [List.length_append, List.length_cons]; omega
   rw [List.length_take] at h7
   omega
  ·show (d.places.set _ _)[i]? = _
   rw [List.getElem?_set_ne (by omega)]
   exact h6 i hi hi2
 ·exact h
end Go.Proofs.YtdlkjppppdminaaGreatDoor
namespace Go.Proofs.YtdlkjppppdminaaGreatDoor
open Go Go.RowKit Go.Sep
end Go.Proofs.YtdlkjppppdminaaGreatDoor
