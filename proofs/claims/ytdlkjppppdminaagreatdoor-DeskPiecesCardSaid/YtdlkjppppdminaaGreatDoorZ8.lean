/- The program's engine: Write. -/
import Derived.Test.YtdlkjppppdminaaGreatDoorZ0
import Derived.Test.YtdlkjppppdminaaGreatDoorZ7
import Derived.BigQuiet
import Derived.Lib.Builder
/- The program's engine: goes, and frees: one that is gone, and who comes next. -/
namespace Go.Proofs.YtdlkjppppdminaaGreatDoor
open Go Go.RowKit Go.Sep
theorem _root_.Go.Sep.S.eng_count {w0 w : World} {b : Nat} {bs : List Nat} {k : EngV} {e : Eng} {L : List HProp} (h : S w0 w (engO b bs k e :: L)) (c : Int) : S w0 (w.setCell ⟨b, 15, none⟩ (.int .i64 c)) (engO b bs k { e with count := c } :: L) := by
 obtain ⟨hp, h⟩ := h.sep_elim.pur_elim
 obtain ⟨h1, h2⟩ := h.engG_parts
 have h3 := h2.set 1 (by simp) (.int .i64 c)
 exact .sep_intro (.pur_intro hp (S.engG_join h1 h3))
theorem eng_blk_ne {w0 w : World} {b : Nat} {bs : List Nat} {k : EngV} {e : Eng} {i : Nat} {L : List HProp} (h : S w0 w (engO b bs k e :: L)) (hi : i < e.txs.length) : blkOf bs i ≠ b := by
 intro he
 have h1 := (h.eng_tx hi).sep_elim.blk_heap
 obtain ⟨_, h2⟩ := h.sep_elim.pur_elim
 obtain ⟨_, h3⟩ := h2.engG_parts
 have h4 : S w0 w (shp b 108 18 :: cells b 14 [k.txv, .int .i64 e.count, .map (some k.wb), k.hv] :: sl 167 1 k.txv e.txs.length (ptrs bs (List.range e.txs.length)) :: mp encI (fun _ => True) k.wb (ienc e.wr) :: sl 121 4 k.hv e.hist.length (fcells opc e.hist) :: all (txPs bs k.tv e.txs) :: L) := h3.conv (by simp only [all]; ac_rfl)
 obtain ⟨c, hc, _⟩ := holds_shape (h4.at (b := b) (i := none) (t := .shape 108 18) (by rintro _ rfl; simp)).2
 rw [he, hc] at h1
 simp at h1
theorem mark_eq (e : Eng) (i : Nat) (why : Int) : ((({ e with count := e.count + 1 } : Eng).upd i fun x => { x with state := 3 }).upd i fun x => { x with why := why }).upd i (fun x => { x with ended := e.count + 1 }) = e.mark i why := by
 unfold Eng.mark Eng.upd
 simp only [Eng.mk.injEq, and_true, true_and]
 apply List.ext_getElem?
 intro j
 simp only [List.getElem?_modify]
 by_cases h : i = j
 ·subst h; cases e.txs[i]? <;> simp
 ·simp [h]
def FreesAny (n : Nat) : Prop := ∀ (w0 w : World) (b : Nat) (bs : List Nat) (e : Eng) (i : Nat) (L : List HProp) (N : Nat) (U : List Task), OkT N (e.lets i) ((e.heirs i).map .hand ++ U) → (e.lets i).open_ ≤ n → N ≤ 100000000 → (∀ k, (lineAt e.t k).length ≤ 1000000) → e.t.hold.length ≤ 1000000 → (e.heirs i).length ≤ 1000000 → S w0 w (engP b bs e :: L) →
 Calls Tryz.prog 137 #[.pointer (some ⟨b, 0, none⟩), .int .i64 ((i : Int) + 1)] w fun r w' => r = .returned (.tuple #[]) ∧ S w0 w' (engP b bs (freesG (goesN n) e i) :: L)
set_option maxRecDepth 40000 in
set_option maxHeartbeats 8000000 in
theorem goes_step (n : Nat) (hf : FreesAny n) : GoesAny (n + 1) := by
 intro w0 w b bs e i why L N U hok hi ha hne ho hN hs
 obtain ⟨h1, h2⟩ := hok.left hi ha hne why
 obtain ⟨k, hs⟩ := hs.eng_open
 have hO : S w0 w (engO b bs k e :: storeP 99 b 0 e.V e.last :: tabP 3 b 11 e.t :: L) := hs.conv (by simp only [all]; ac_rfl)
 have hc := hO.eng_c.2
 have c14 := hc.txs
 have c15 := hc.count
 have f15 := hc.free 15 (by omega) (by omega)
 obtain ⟨a, cap, hv, hle, hcap, hrow⟩ := hc.row
 obtain ⟨g, o, rfl, ci⟩ := hrow i hi
 rw [hv] at c14
 unfold maxLen at hcap
 unfold ptr at ci
 have hx := (hO.eng_txc hi).2
 have x1 := hx.state
 have x11 := hx.why
 have x4 := hx.ended
 have fx := hx.free
 have hbb := eng_blk_ne hO hi
 have hcnt := hok.cnt
 have hfew := hok.few
 have hs1 := hO.eng_count (e.count + 1)
 have hi1 : i < ({ e with count := e.count + 1 } : Eng).txs.length := hi
 have hs2 := hs1.eng_set hi1 (fun x => { x with state := 3 }) (j := 1) (u := .int .i64 3) (by omega) rfl rfl rfl rfl rfl
 have hs3 := hs2.eng_set (by rw [Eng.upd_len]; exact hi1) (fun x => { x with why := why }) (j := 11) (u := .int .i64 why) (by omega) rfl rfl rfl rfl rfl
 have hs4 := hs3.eng_set (by rw [Eng.upd_len, Eng.upd_len]; exact hi1) (fun x => { x with ended := e.count + 1 }) (j := 4) (u := .int .i64 (e.count + 1)) (by omega) rfl rfl rfl rfl rfl
 rw [mark_eq] at hs4
 have hs5 := S.eng_shut (e := e.mark i why) (hs4.conv (M := storeP 99 b 0 e.V e.last :: tabP 3 b 11 e.t :: engO b bs k (e.mark i why) :: L) (by simp only [all]; ac_rfl))
 obtain ⟨Q, hQ⟩ := hok.tab
 have hlen : ∀ kk, (lineAt e.t kk).length ≤ 1000000 := by
  intro kk
  unfold lineAt
  rw [hQ.tab.line kk]
  have := few (S := (List.range e.txs.length).map fun m : Nat => (m : Int) + 1) (hQ.tab.nod kk) (fun x hx => by
   have := hQ.key kk x hx
   simp only [List.mem_map, List.mem_range]
   exact ⟨(x - 1).toNat, by omega, by omega⟩)
  simp only [List.length_map, List.length_range] at this
  rw [List.length_tail]; omega
 have hhold : e.t.hold.length ≤ 10 := by
  have := few (S := [0, 1, 2, 3, 4, 5, 6, 7, 8, 9]) hQ.hold (fun kk hk => by
   obtain ⟨p, hp, rfl⟩ := List.mem_map.1 hk
   have h1 := mget_mem hQ.hold (show (p.1, p.2) ∈ e.t.hold from hp)
   rw [hQ.tab.hold] at h1
   cases hq : Q p.1 with
   | nil => rw [hq] at h1; simp at h1
   | cons a l => have := (hQ.key p.1 a (by rw [hq]; simp)).1; unfold keyOk at this; simp; omega)
  simpa using this
 have hheirs : (e.heirs i).length ≤ 1000000 := by
  have h3 : ((e.heirs i).map (·.2)).length ≤ e.txs.length := by
   have hap := h1.apart
   rw [List.map_append, List.nodup_append] at hap
   have := few (S := (List.range e.txs.length).map fun m : Nat => (m : Int) + 1) (l := ((e.heirs i).map (·.2))) (by
    have := hap.1
    rw [List.map_map] at this
    exact List.pairwise_map.2 ((List.pairwise_map.1 this).imp fun h e1 => h (by simp only [Function.comp, Task.who]; rw [e1]))) (fun x hx => by
    obtain ⟨p, hp, rfl⟩ := List.mem_map.1 hx
    have h4 := h1.ok (.hand p) (List.mem_append_left _ (List.mem_map_of_mem hp))
    have h5 := h4.lt
    have h6 := (h4.hand p rfl).1
    simp only [Task.who] at h5
    rw [show (e.left i why).txs.length = e.txs.length from Eng.mark_len e i why] at h5
    simp only [List.mem_map, List.mem_range]
    exact ⟨p.2.toNat - 1, h5, by omega⟩)
   simpa using this
  rw [List.length_map] at h3; omega
 have hcall := hf w0 _ b bs (e.mark i why) i L N U h1 (by show (e.left i why).open_ ≤ n; omega) hN hlen (by show e.t.hold.length ≤ 1000000; omega) hheirs hs5
 have HC := hid hcall
 have hbb' := Ne.symm hbb
 clear hok h1 h2 hs hO hc hv hrow hx hs1 hs2 hs3 hs4 hs5 hQ hlen hhold hheirs hcall hf ha hne
 go_enter Tryz.func103, Tryz.ntmps103
 go_wp2_with fail
 with_reducible refine HC.out.mono ?_
 rintro r w' ⟨rfl, hs'⟩
 have H4 := hid hs'
 clear hs'
 go_wp2_with fail
 go_end0
 exact ⟨rfl, H4.out⟩
set_option linter.unusedSimpArgs false in
set_option maxRecDepth 100000 in
set_option maxHeartbeats 20000000 in
theorem frees_step (n : Nat) (hg : GoesAny n) : FreesAny n := by
 intro w0 w b bs e i L N U hok ho hN hlen hhold hheirs hs
 obtain ⟨k, hs⟩ := hs.eng_open
 have hcall := tdrop_any w0 w b 11 e.t ((i : Int) + 1) (storeP 99 b 0 e.V e.last :: engO b bs k e :: L) (hs.conv (by simp only [all]; ac_rfl)) hlen hhold
 have hfin : ∀ W v, S w0 W (sl 91 2 v (tbDrop e.t ((i : Int) + 1)).2.length (pcells (tbDrop e.t ((i : Int) + 1)).2) :: tabP 3 b 11 (tbDrop e.t ((i : Int) + 1)).1 :: storeP 99 b 0 e.V e.last :: engO b bs k e :: L) → S w0 W (sl 91 2 v (e.heirs i).length (pcells (e.heirs i)) :: engP b bs (e.lets i) :: L) := fun W v h => by
  have h1 : S w0 W (storeP 99 b 0 (e.lets i).V (e.lets i).last :: tabP 3 b 11 (e.lets i).t :: engO b bs k (e.lets i) :: sl 91 2 v (e.heirs i).length (pcells (e.heirs i)) :: L) := h.conv (by
   simp only [all]
   show sep (sl _ 2 v (tbDrop e.t ((i : Int) + 1)).2.length (pcells (tbDrop e.t ((i : Int) + 1)).2)) (sep (tabP _ b 11 (tbDrop e.t ((i : Int) + 1)).1) (sep (storeP _ b 0 e.V e.last) (sep (engO b bs k e) (all L)))) = sep (storeP _ b 0 e.V e.last) (sep (tabP _ b 11 (tbDrop e.t ((i : Int) + 1)).1) (sep (engO b bs k e) (sep (sl _ 2 v (tbDrop e.t ((i : Int) + 1)).2.length (pcells (tbDrop e.t ((i : Int) + 1)).2)) (all L))))
   ac_rfl)
  exact h1.eng_shut.swap
 have hfr : freesG (goesN n) e i = freesL (goesN n) (e.heirs i) (e.lets i) := rfl
 have HC := hid hcall; have HFI := hid hfin; have HFR := hid hfr; have HOK := hid hok; have HO := hid ho; have HG := hid hg
 clear hs hcall hfin hfr hlen hhold hok ho hg
 go_enter Tryz.func137, Tryz.ntmps137
 go_wp2_with fail
 with_reducible refine HC.out.mono ?_
 rintro r w1 ⟨v', rfl, hs1⟩
 have hs2 := HFI.out _ _ hs1
 obtain ⟨al, cl, rfl, hcl, hcl2, _⟩ := hs2.sl_val
 unfold maxLen at hcl2
 generalize e.heirs i = l at *
 generalize e.lets i = e0 at *
 have H2 := hid hs2
 clear hs1 hs2 HC HFI
 go_wp2_with fail
 go_loopw [13] (fun c wr => ∃ (m : Nat) (e1 : Eng), m ≤ l.length ∧ c = .int .i64 m ∧ Hid (OkT N e1 ((l.drop m).map .hand ++ U)) ∧ Hid (e1.open_ ≤ n) ∧ Hid (freesL (goesN n) l e0 = freesL (goesN n) (l.drop m) e1) ∧ S w0 wr (sl 91 2 (.slice al l.length cl) l.length (pcells l) :: engP b bs e1 :: L)) (fun c _ => l.length - (intOf c).toNat)
 case atStart => exact ⟨0, e0, Nat.zero_le _, rfl, HOK, HO, hid rfl, H2.out⟩
 case round =>
  rename World => wr
  obtain ⟨m, e1, hm, rfl, hok1, ho1, hf1, hsr⟩ := hrel
  clear H2 HOK HO
  by_cases hlt : m < l.length
  ·have hp : l[m]? = some l[m] := by simp [hlt]
   have hd : l.drop m = l[m] :: l.drop (m + 1) := List.drop_eq_getElem_cons hlt
   generalize l[m] = p at hp hd
   have hok2 := hok1.out
   have hf2 := hf1.out
   rw [hd] at hok2 hf2
   have hk := hok2.ok (.hand p) (by simp)
   have hj := hk.lt
   obtain ⟨hp1, hst, _⟩ := hk.hand p rfl
   have hand := OkT.hand (U := (l.drop (m + 1)).map .hand ++ U) hok2
   obtain ⟨pk, pv⟩ := p
   simp only [Task.who] at hj hst hp1 hand
   obtain ⟨j, rfl⟩ : ∃ j : Nat, pv = (j : Int) + 1 := ⟨(pv - 1).toNat, by omega⟩
   have hjj : ((j : Int) + 1).toNat - 1 = j := by omega
   rw [hjj] at hj hst hand
   have hwant : ((e1.opens j).tx j).want = (e1.tx j).want := Eng.upd_keep (·.want) (fun x => { x with state := 0 }) (fun _ => rfl) j
   have hf3 : freesL (goesN n) l e0 = freesL (goesN n) (l.drop (m + 1)) (putsG (goesN n) (e1.opens j) j ((e1.tx j).want.1, (e1.tx j).want.2)) := by
    rw [hf2]
    show freesL (goesN n) (l.drop (m + 1)) (putsG (goesN n) (e1.opens (((j : Int) + 1).toNat - 1)) (((j : Int) + 1).toNat - 1) ((e1.opens (((j : Int) + 1).toNat - 1)).tx (((j : Int) + 1).toNat - 1)).want) = _
    rw [hjj, hwant]
   have hop : (e1.opens j).open_ = e1.open_ := by
    have := Eng.many_upd hj Tx.alive (fun x => { x with state := 0 })
    rw [if_pos (by simp [Tx.alive, hst]), if_pos (by simp [Tx.alive])] at this
    unfold Eng.opens Eng.open_; unfold Eng.many at this; omega
   obtain ⟨gl, ol, rfl, _, d0, d1⟩ := hsr.sl_pair hp
   obtain ⟨k1, hse⟩ := hsr.swap.eng_open
   have hsx := hse.alloc #[.int .i64 pk, .int .i64 ((j : Int) + 1)] 91
   have hO : S w0 _ (engO b bs k1 e1 :: blk wr.heap.size 91 [.int .i64 pk, .int .i64 ((j : Int) + 1)] :: storeP 99 b 0 e1.V e1.last :: tabP 3 b 11 e1.t :: sl 91 2 (.slice (some ⟨gl, ol, none⟩) l.length cl) l.length (pcells l) :: L) := hsx.conv (by simp only [all]; ac_rfl)
   have b1 := hsx.blk_cell 1 rfl
   have hc := hO.eng_c.2
   have c14 := hc.txs
   obtain ⟨a, cap, hv, hle, hcap, hrow⟩ := hc.row
   obtain ⟨g, o, rfl, ci⟩ := hrow j hj
   rw [hv] at c14
   unfold maxLen at hcap
   unfold ptr at ci
   have hx := (hO.eng_txc hj).2
   have x1 := hx.state
   have fx := hx.free
   have hset : ∀ nq, S w0 (((wr.alloc (.cells #[.int .i64 pk, .int .i64 ((j : Int) + 1)] 91)).drewN nq).setCell ⟨blkOf bs j, 1, none⟩ (.int .i64 0)) (engO b bs k1 (e1.opens j) :: blk wr.heap.size 91 [.int .i64 pk, .int .i64 ((j : Int) + 1)] :: storeP 99 b 0 e1.V e1.last :: tabP 3 b 11 e1.t :: sl 91 2 (.slice (some ⟨gl, ol, none⟩) l.length cl) l.length (pcells l) :: L) := fun nq =>
    (hO.drewN nq).eng_set hj (fun x => { x with state := 0 }) (j := 1) (u := .int .i64 0) (by omega) rfl rfl rfl rfl rfl
   have hj2 : j < (e1.opens j).txs.length := by unfold Eng.opens; rw [Eng.upd_len]; exact hj
   have hq : ∀ W, S w0 W (engO b bs k1 (e1.opens j) :: blk wr.heap.size 91 [.int .i64 pk, .int .i64 ((j : Int) + 1)] :: storeP 99 b 0 e1.V e1.last :: tabP 3 b 11 e1.t :: sl 91 2 (.slice (some ⟨gl, ol, none⟩) l.length cl) l.length (pcells l) :: L) → W.cell? ⟨wr.heap.size, 1, none⟩ = some (.int .i64 ((j : Int) + 1)) ∧ W.cell? ⟨blkOf bs j, 7, none⟩ = some (.int .i64 (e1.tx j).want.1) ∧ W.cell? ⟨blkOf bs j, 8, none⟩ = some (.int .i64 (e1.tx j).want.2) := fun W h => by
    have hx := (h.eng_txc hj2).2
    have w1 := hx.want1
    have w2 := hx.want2
    rw [hwant] at w1 w2
    exact ⟨h.tail.blk_cell 1 rfl, w1, w2⟩
   have hput := putsG_ok (goesOk n) hand (by rw [hop]; exact ho1.out)
   have hwr : ∀ W, S w0 W (engO b bs k1 (e1.opens j) :: blk wr.heap.size 91 [.int .i64 pk, .int .i64 ((j : Int) + 1)] :: storeP 99 b 0 e1.V e1.last :: tabP 3 b 11 e1.t :: sl 91 2 (.slice (some ⟨gl, ol, none⟩) l.length cl) l.length (pcells l) :: L) →
     Calls Tryz.prog 119 #[.pointer (some ⟨b, 0, none⟩), .int .i64 ((j : Int) + 1), .agg #[.int .i64 (e1.tx j).want.1, .int .i64 (e1.tx j).want.2]] W fun r w' => r = .returned (.tuple #[]) ∧ S w0 w' (sl 91 2 (.slice (some ⟨gl, ol, none⟩) l.length cl) l.length (pcells l) :: engP b bs (putsG (goesN n) (e1.opens j) j ((e1.tx j).want.1, (e1.tx j).want.2)) :: L) := fun W h => by
    have h2 : S w0 W (engP b bs (e1.opens j) :: sl 91 2 (.slice (some ⟨gl, ol, none⟩) l.length cl) l.length (pcells l) :: L) := S.eng_shut (e := e1.opens j) (S.tail (P := blk wr.heap.size 91 [.int .i64 pk, .int .i64 ((j : Int) + 1)]) (h.conv (by
     simp only [all]
     show _ = sep _ (sep (storeP _ b 0 e1.V e1.last) (sep (tabP _ b 11 e1.t) _))
     ac_rfl)))
    exact (writes_any n HG.out w0 W b bs (e1.opens j) j _ _ _ N _ hand (by rw [hop]; exact ho1.out) hN h2).mono fun r w' h => ⟨h.1, h.2.swap⟩
   have HSET := hid hset; have HQ := hid hq; have HWR := hid hwr; have HF3 := hid hf3; have HPUT := hid hput; have HOP := hid hop
   clear hp hd hok2 hf2 hk hand hf3 hop hsr hse hsx hO hc hv hrow hx hset hq hput hwr hwant hok1 hf1 hj2 hst
   go_wp2_with fail
   go_quiet (fail)
   go_wp2_with fail
   have HR0 := hid (HSET.out nq)
   refine region_U (S := fun w' => w'.cell? ⟨wr.heap.size, 1, none⟩ = some (.int .i64 ((j : Int) + 1)) ∧ w'.cell? ⟨blkOf bs j, 7, none⟩ = some (.int .i64 (e1.tx j).want.1) ∧ w'.cell? ⟨blkOf bs j, 8, none⟩ = some (.int .i64 (e1.tx j).want.2)) (u := 7) (by kernel_rfl) (HQ.out _ HR0.out.drew) (fun hHeld => ?_)
   refine anyU_take (i := 0) (v := ?_) rfl (by kernel_rfl) (fun _ _ _ h => h) (Or.inl ⟨by rfl, ?_⟩) hHeld ?_
   rotate_left
   ·(intro w hSw; (try dsimp only at hSw); go_simp) <;> with_reducible rfl
   try simp only [putU]
   refine anyU_pure (i := 1) (v := ?_) rfl (by kernel_rfl) (fun _ _ _ h => h) (Or.inl ⟨by rfl, ?_⟩) (fun _ => hHeld) ?_
   rotate_left
   ·(intro w _; go_simp) <;> with_reducible rfl
   try simp only [putU]
   refine anyU_take (i := 2) (v := ?_) rfl (by kernel_rfl) (fun _ _ _ h => h) (Or.inl ⟨by rfl, ?_⟩) hHeld ?_
   rotate_left
   ·(intro w hSw; (try dsimp only at hSw); go_simp) <;> with_reducible rfl
   try simp only [putU]
   refine anyU_pure (i := 3) (v := ?_) rfl (by kernel_rfl) (fun _ _ _ h => h) (Or.inl ⟨by rfl, ?_⟩) (fun _ => hHeld) ?_
   rotate_left
   ·(intro w _; go_simp) <;> with_reducible rfl
   try simp only [putU]
   refine anyU_pure (i := 4) (v := ?_) rfl (by kernel_rfl) (fun _ _ _ h => h) (Or.inl ⟨by rfl, ?_⟩) (fun _ => hHeld) ?_
   rotate_left
   ·(intro w _; go_simp) <;> with_reducible rfl
   try simp only [putU]
   refine anyU_pure (i := 5) (v := ?_) rfl (by kernel_rfl) (fun _ _ _ h => h) (Or.inl ⟨by rfl, ?_⟩) (fun _ => hHeld) ?_
   rotate_left
   ·(intro w _; go_simp) <;> with_reducible rfl
   try simp only [putU]
   refine anyU_take (i := 6) (v := ?_) rfl (by kernel_rfl) (fun _ _ _ h => h) (Or.inl ⟨by rfl, ?_⟩) hHeld ?_
   rotate_left
   ·(intro w hSw; (try dsimp only at hSw); go_simp) <;> with_reducible rfl
   try simp only [putU]
   have HS := hid HR0.out.drew
   clear hHeld
   refine anyU_world (fun w => Hid (S w0 w _)) HS (fun w1 HS => ?_)
   refine anyU_next (rs := [7]) (by kernel_rfl) (by simp) ?_
   refine NextU.cons rfl (fun K hK => ?_) ?_
   ·go_simp
    go_wp2_with (go_at_call 119; with_reducible refine (HWR.out _ HS.out).mono ?_; rintro r w5 ⟨rfl, hs5⟩; have H5 := hid hs5; clear hs5)
    refine hK.out _ _ (fun h => Bool.noConfusion (show true = false from h)) ?_
    clear hK K
    refine anyU_done (by kernel_rfl) ?_ _
    go_wp2_with fail
    go_roundw
    case rel => exact ⟨m + 1, _, by omega, by go_num, hid HPUT.out.1, hid (by have := HPUT.out.2.1; rw [HOP.out] at this; exact Nat.le_trans this ho1.out), HF3, H5.out⟩
    case measure => simp [intOf]; omega
   exact NextU.nil
  ·have hd : l.drop m = [] := List.drop_eq_nil_iff.2 (by omega)
   have hf2 := hf1.out
   rw [hd] at hf2
   have HF2 := hid hf2; have HSR := hid hsr
   clear hd hf2 hsr hf1 hok1
   go_wp2_with fail
   go_end0
   exact ⟨rfl, by rw [HFR.out, HF2.out]; exact HSR.out.tail⟩
theorem goes_any : ∀ n, GoesAny n
 | 0 => fun w0 w b bs e i why L N U hok hi ha hne ho hN hs => by
  have : 1 ≤ e.open_ := Eng.many_pos hi ha
  omega
 | n + 1 => goes_step n (frees_step n (goes_any n))
theorem frees_any (n : Nat) : FreesAny n := frees_step n (goes_any n)
end Go.Proofs.YtdlkjppppdminaaGreatDoor
/- The program's engine: whom a strict reader must be ahead of. -/
namespace Go.Proofs.YtdlkjppppdminaaGreatDoor
open Go Go.RowKit Go.Sep
theorem neqT_same (w : World) (p : Nat) : (binOp .neq 167 (.pointer (some ⟨p, 0, none⟩)) (.pointer (some ⟨p, 0, none⟩))).run Tryz.prog w = .ok (.bool false) w := by
 obtain ⟨j, hj, _⟩ := Option.map_eq_some_iff.1 tx_size
 exact Lib.run_neq_ptr_same w ⟨p, 0, none⟩ Tryz.underlying167 hj
theorem neqT_other {w0 w : World} {b : Nat} {bs : List Nat} {k : EngV} {e : Eng} {i m : Nat} {L : List HProp} (hs : S w0 w (engO b bs k e :: L)) (hi : i < e.txs.length) (hm : m < e.txs.length) (hne : blkOf bs m ≠ blkOf bs i) :
  (binOp .neq 167 (.pointer (some ⟨blkOf bs m, 0, none⟩)) (.pointer (some ⟨blkOf bs i, 0, none⟩))).run Tryz.prog w = .ok (.bool true) w := by
 obtain ⟨j, hj, hsz⟩ := Option.map_eq_some_iff.1 tx_size
 have ha := (hs.eng_tx hm).sep_elim.blk_heap
 have hb := (hs.eng_tx hi).sep_elim.blk_heap
 have hne' : (⟨blkOf bs m, 0, none⟩ : Addr) ≠ ⟨blkOf bs i, 0, none⟩ := fun e1 => hne (congrArg Addr.block e1)
 have h : ∀ d : Nat, (Op.equalIn (d + 1) 167 (.pointer (some ⟨blkOf bs m, 0, none⟩)) (.pointer (some ⟨blkOf bs i, 0, none⟩))).run Tryz.prog w = .ok false w := fun d => by
  simp [Op.equalIn, run_underlying Tryz.underlying167, sizeOf, typeInfo, hj, hsz, run_sameAddr_other w hne' ha hb]
 simp only [binOp]
 simp [Op.equal, Op.maxDepth, h 9999]
set_option maxRecDepth 100000 in
set_option maxHeartbeats 20000000 in
theorem saw_any (w0 w : World) (b : Nat) (bs : List Nat) (e : Eng) (i : Nat) (key : Int) (L : List HProp) (N : Nat) (U : List Task) (hok : OkT N e U) (hi : i < e.txs.length) (ha : (e.tx i).alive = true) (hkey : keyOk key) (hN : N ≤ 100000000) (hs : S w0 w (engP b bs e :: L)) :
  Calls Tryz.prog 114 #[.pointer (some ⟨b, 0, none⟩), ptr bs i, .int .i64 key] w fun r w' => r = .returned (.bool (e.sees i key).2) ∧ S w0 w' (engP b bs (e.sees i key).1 :: L) := by
 obtain ⟨k, hs⟩ := hs.eng_open
 have hq : ∀ W M, S w0 W (storeP 99 b 0 e.V e.last :: tabP 3 b 11 e.t :: engO b bs k e :: M) → W.cell? ⟨blkOf bs i, 2, none⟩ = some (.int .i64 (e.tx i).start) := fun W M h => (h.tail.tail.eng_txc hi).2.start
 have HS := hid hs; have HQ := hid hq; have HOK := hid hok
 have q0 := hq _ _ hs.drew
 have hrl := hok.row_le
 clear hs hq hok
 unfold ptr
 go_enter Tryz.func114, Tryz.ntmps114
 go_wp2_with fail
 go_region_held_law (fun w' => w'.cell? ⟨blkOf bs i, 2, none⟩ = some (.int .i64 (e.tx i).start)) (first | (with_reducible assumption) | (with_reducible exact q0) | (with_reducible exact q1))
  ((go_at_call 149; with_reducible refine (enewer_any w0 _ b e key _ _ N _ HOK.out hkey HS.out.drew).mono ?_; rintro r w2 ⟨an, cn, rfl, hcn, hcn2, hs2⟩; have q1 := HQ.out _ _ hs2.tail; have G2 := hid hs2; clear hs2))
 have hsees : e.sees i key = (if (sawNew i (newerL (e.row key) (e.tx i).start) e).2 = true then (sawOpen i key (List.range (sawNew i (newerL (e.row key) (e.tx i).start) e).1.txs.length) (sawNew i (newerL (e.row key) (e.tx i).start) e).1, true) else sawNew i (newerL (e.row key) (e.tx i).start) e) := rfl
 have hnl : (newerL (e.row key) (e.tx i).start).length ≤ 401 := by
  refine Nat.le_trans (m := (e.row key).length) ?_ ?_
  ·unfold newerL; rw [List.length_map]; exact List.length_filter_le _ _
  ·unfold Eng.row
   cases hr : e.V[key.toNat]? with
   | none => simp
   | some vs => exact hrl vs (List.mem_of_getElem? hr)
 generalize newerL (e.row key) (e.tx i).start = nl at *
 have HSE := hid hsees
 clear hsees hrl q0
 unfold maxLen at hcn2
 have H3 := hid G2.out
 clear G2 HS
 go_wp2_with fail
 go_loopw [30] (fun c wr => ∃ (m : Nat) (e1 : Eng) (k1 : EngV), m ≤ nl.length ∧ c = .int .i64 m ∧ Hid (k1.txv = k.txv) ∧ Hid (OkT (N + m) e1 U) ∧ Hid (e1.txs.length = e.txs.length ∧ e1.wr = e.wr ∧ (e1.tx i).alive = true) ∧ Hid (sawNew i nl e = sawNew i (nl.drop m) e1) ∧ S w0 wr (sl 3 1 (.slice an nl.length cn) nl.length (icells nl) :: storeP 99 b 0 e1.V e1.last :: tabP 3 b 11 e1.t :: engO b bs k1 e1 :: L)) (fun c _ => nl.length - (intOf c).toNat)
 case atStart => exact ⟨0, e, k, Nat.zero_le _, rfl, hid rfl, HOK, hid ⟨rfl, rfl, ha⟩, hid rfl, H3.out⟩
 case round =>
  rename World => wr
  obtain ⟨m, e1, k1, hm, rfl, hk1, hok1, hsm1, hf1, hsr⟩ := hrel
  clear H3
  by_cases hlt : m < nl.length
  ·have hp : nl[m]? = some nl[m] := by simp [hlt]
   have hd : nl.drop m = nl[m] :: nl.drop (m + 1) := List.drop_eq_getElem_cons hlt
   generalize nl[m] = t at hp hd
   have hf2 := hf1.out
   rw [hd] at hf2
   obtain ⟨gn, on, rfl, _, c1⟩ := hsr.sl_int hp
   have hO : S w0 wr (engO b bs k1 e1 :: storeP 99 b 0 e1.V e1.last :: tabP 3 b 11 e1.t :: sl 3 1 (.slice (some ⟨gn, on, none⟩) nl.length cn) nl.length (icells nl) :: L) := hsr.conv (by simp only [all]; ac_rfl)
   have hc := hO.eng_c.2
   have c16 := hc.wr
   have lk := Tryz.look1 hc.map t
   have hi1 : i < e1.txs.length := by rw [hsm1.out.1]; exact hi
   by_cases hkk : 0 < (mget e1.wr t).getD 0
   ·obtain ⟨kk, hkv⟩ : ∃ kk, mget e1.wr t = some kk := by
     cases hx : mget e1.wr t with
     | none => rw [hx] at hkk; simp at hkk
     | some kk => exact ⟨kk, rfl⟩
    obtain ⟨g1, g2, g3⟩ := hok1.out.wr t kk hkv
    obtain ⟨j, rfl⟩ : ∃ j : Nat, kk = (j : Int) + 1 := ⟨(kk - 1).toNat, by omega⟩
    have hjj : ((j : Int) + 1).toNat - 1 = j := by omega
    rw [hjj] at g3
    have hj : j < e1.txs.length := by omega
    have hij : i ≠ j := by
     intro h; subst h
     have := hsm1.out.2.2
     simp [Tx.alive, g3] at this
    rw [hkv] at lk
    simp only [Option.getD_some] at lk
    have c14 := hc.txs
    obtain ⟨a, cap, hv, hle, hcap, hrow⟩ := hc.row
    obtain ⟨g, o, rfl, ci⟩ := hrow j hj
    rw [hv] at c14
    unfold maxLen at hcap
    unfold ptr at ci
    have hstr := strict_eng w0 wr b bs k1 e1 j _ hO hj
    have hbnd : ∀ j, j < e1.txs.length → (e1.tx j).aft.length + 1 ≤ 1000000000000 ∧ (e1.tx j).fore.length + 1 ≤ 1000000000000 := fun j hj => by have := hok1.out.fits _ (Eng.tx_mem hj); omega
    have hcall := noted_any w0 wr b bs k1 e1 i j _ hO hi1 hj hij (hbnd i hi1).1 (hbnd j hj).2 (fun x hx => (hok1.out.txs x hx).refs)
    unfold ptr at hcall
    have hnext : sawNew i (t :: nl.drop (m + 1)) e1 = if (e1.tx j).strict = true then (if (e1.note i j).bad i j = true then (e1.note i j, false) else sawNew i (nl.drop (m + 1)) (e1.note i j)) else sawNew i (nl.drop (m + 1)) e1 := by
     rw [sawNew]
     simp only [hkv, Option.getD_some, hjj]
     by_cases hst : (e1.tx j).strict = true
     ·rw [if_pos ⟨by omega, hst⟩, if_pos hst]
     ·rw [if_neg (fun h => hst h.2), if_neg hst]
    rw [hnext] at hf2
    have hkp : (0 : Int) < (j : Int) + 1 := by omega
    have HC := hid hcall; have HSTR := hid hstr; have HF2 := hid hf2; have HSR := hid hsr
    have hok2 := hok1.out.note1 hi1 hj
    have HOK2 := hid hok2
    have hsm2 : (e1.note i j).txs.length = e.txs.length ∧ (e1.note i j).wr = e.wr ∧ ((e1.note i j).tx i).alive = true := ⟨by rw [Eng.note_len]; exact hsm1.out.1, hsm1.out.2.1, by rw [Eng.note_keep Tx.alive (fun _ _ => rfl) (fun _ _ => rfl)]; exact hsm1.out.2.2⟩
    have HSM2 := hid hsm2
    have hk1' := hk1
    clear hp hd hf2 hO hc hi1 hkk hkv g1 g2 g3 hjj hij hv hrow hstr hbnd hcall hnext hsr hf1 hok2 hsm2
    cases hst : (e1.tx j).strict with
    | false =>
     rw [hst] at HSTR HF2
     have hf3 : sawNew i nl e = sawNew i (nl.drop (m + 1)) e1 := by rw [HF2.out]; rfl
     have HF3 := hid hf3
     clear hf3 hst HC HOK2 HSM2 HF2
     go_wp2_with (go_at_call 150; with_reducible refine HSTR.out.mono ?_; rintro r w' ⟨rfl, rfl⟩)
     go_roundw
     case rel => exact ⟨m + 1, e1, k1, by omega, by go_num, hk1, hid (hok1.out.mono (by omega)), hsm1, HF3, HSR.out⟩
     case measure => simp [intOf]; omega
    | true =>
     rw [hst] at HSTR HF2
     cases hbad : (e1.note i j).bad i j with
     | true =>
      rw [hbad] at HC
      have hf3 : sawNew i nl e = (e1.note i j, false) := by rw [HF2.out]; simp [hbad]
      have hse : e.sees i key = (e1.note i j, false) := by rw [HSE.out, hf3]; rfl
      have HSF := hid hse
      clear hf3 hse hst hbad HOK2 HSM2 HF2
      go_wp2_with (first | (go_at_call 150; with_reducible refine HSTR.out.mono ?_; rintro r w' ⟨rfl, rfl⟩) | (go_at_call 151; with_reducible refine HC.out.mono ?_; rintro r w' ⟨k2, hk2, rfl, hs2⟩; have H5 := hid hs2; clear hs2 hk2))
      go_ret
      exact ⟨by rw [HSF.out]; rfl, by rw [HSF.out]; exact S.eng_shut (k := k2) (S.tail (P := sl 3 1 (.slice (some ⟨gn, on, none⟩) nl.length cn) nl.length (icells nl)) (H5.out.conv (by simp only [all]; show _ = sep _ (sep (storeP _ b 0 e1.V e1.last) (sep (tabP _ b 11 e1.t) _)); ac_rfl)))⟩
     | false =>
      rw [hbad] at HC
      have hf3 : sawNew i nl e = sawNew i (nl.drop (m + 1)) (e1.note i j) := by rw [HF2.out]; simp [hbad]
      have HF3 := hid hf3
      clear hf3 hst hbad HF2
      go_wp2_with (first | (go_at_call 150; with_reducible refine HSTR.out.mono ?_; rintro r w' ⟨rfl, rfl⟩) | (go_at_call 151; with_reducible refine HC.out.mono ?_; rintro r w' ⟨k2, hk2, rfl, hs2⟩; have H5 := hid hs2; have HK2 := hid hk2; clear hs2 hk2))
      go_roundw
      case rel => exact ⟨m + 1, e1.note i j, k2, by omega, by go_num, hid (HK2.out.trans hk1'.out), hid (HOK2.out.mono (by omega)), HSM2, HF3, H5.out.conv (by simp only [all]; show _ = sep _ (sep (storeP _ b 0 e1.V e1.last) (sep (tabP _ b 11 e1.t) _)); ac_rfl)⟩
      case measure => simp [intOf]; omega
   ·have hf3 : sawNew i nl e = sawNew i (nl.drop (m + 1)) e1 := by
     rw [hf2, sawNew]
     simp only
     rw [if_neg (fun h => hkk h.1)]
    generalize (mget e1.wr t).getD 0 = kk at lk hkk
    have hkn : kk ≤ 0 := by omega
    have HF3 := hid hf3; have HSR := hid hsr
    clear hp hd hf2 hf3 hO hc hi1 hkk hsr hf1
    go_wp2_with fail
    go_roundw
    case rel => exact ⟨m + 1, e1, k1, by omega, by go_num, hk1, hid (hok1.out.mono (by omega)), hsm1, HF3, HSR.out⟩
    case measure => simp [intOf]; omega
  ·have hd : nl.drop m = [] := List.drop_eq_nil_iff.2 (by omega)
   have hf2 := hf1.out
   rw [hd] at hf2
   have hse : e.sees i key = (sawOpen i key (List.range e.txs.length) e1, true) := by
    rw [HSE.out, hf2]
    show ((sawOpen i key (List.range e1.txs.length) e1, true) : Eng × Bool) = _
    rw [hsm1.out.1]
   have hc := hsr.tail.tail.tail.eng_c.2
   have c14 := hc.txs
   obtain ⟨a, cap, hv, hle, hcap, hrow⟩ := hc.row
   rw [hv, hsm1.out.1] at c14
   unfold maxLen at hcap
   have hle2 : e.txs.length ≤ cap := by rw [← hsm1.out.1]; exact hle
   have hrw : ∀ (W : World) (k2 : EngV) (e2 : Eng) (M : List HProp), k2.txv = k.txv → e2.txs.length = e.txs.length → S w0 W (engO b bs k2 e2 :: M) → ∀ j, j < e.txs.length → ∃ g o, a = some ⟨g, o, none⟩ ∧ W.cell? ⟨g, o + j, none⟩ = some (ptr bs j) := by
    intro W k2 e2 M h1 h2 h3 j hj
    obtain ⟨a', cap', h4, _, _, h5⟩ := h3.eng_c.2.row
    obtain ⟨g', o', h6, h7⟩ := h5 j (by omega)
    rw [h1, ← hk1.out, hv] at h4
    simp only [Value.slice.injEq] at h4
    exact ⟨g', o', by rw [h4.1, h6], h7⟩
   have hokm := hok1.out.mono (M := N + 401 + 0) (by omega)
   have HRW := hid hrw; have HSF := hid hse; have HSR1 := hid hsr.tail; have HOKM := hid hokm; have HLN1 := hid hsm1.out.1
   have hfew := HOK.out.few
   clear hd hf2 hse hc hv hle hrow hrw hsr hf1 hok1 hsm1 hokm HSE
   go_wp2_with fail
   go_loopw [73] (fun c wr => ∃ (m : Nat) (e2 : Eng) (k2 : EngV), m ≤ e.txs.length ∧ c = .int .i64 m ∧ Hid (k2.txv = k.txv) ∧ Hid (OkT (N + 401 + m) e2 U) ∧ Hid (e2.txs.length = e.txs.length) ∧ Hid (sawOpen i key (List.range e.txs.length) e1 = sawOpen i key ((List.range e.txs.length).drop m) e2) ∧ S w0 wr (storeP 99 b 0 e2.V e2.last :: tabP 3 b 11 e2.t :: engO b bs k2 e2 :: L)) (fun c _ => e.txs.length - (intOf c).toNat)
   case atStart => exact ⟨0, e1, k1, Nat.zero_le _, rfl, hk1, HOKM, HLN1, hid rfl, HSR1.out⟩
   case round =>
    rename World => wq
    obtain ⟨m, e2, k2, hm, rfl, hk2, hok2, hln2, hf1, hsr⟩ := hrel
    clear HSR1 HOKM HLN1
    by_cases hlt : m < e.txs.length
    ·have hd : (List.range e.txs.length).drop m = m :: (List.range e.txs.length).drop (m + 1) := by rw [List.drop_eq_getElem_cons (by simpa using hlt)]; simp
     have hf2 := hf1.out
     rw [hd] at hf2
     have hj : m < e2.txs.length := by rw [hln2.out]; exact hlt
     have hi2 : i < e2.txs.length := by rw [hln2.out]; exact hi
     have hO : S w0 wq (engO b bs k2 e2 :: storeP 99 b 0 e2.V e2.last :: tabP 3 b 11 e2.t :: L) := hsr.conv (by simp only [all]; ac_rfl)
     obtain ⟨g, o, rfl, ci⟩ := HRW.out wq k2 e2 _ hk2.out hln2.out hO m hlt
     unfold ptr at ci
     have hx := (hO.eng_txc hj).2
     have x1 := hx.state
     have x6 := hx.writes
     have lk := Tryz.look2 hx.map key
     have hwr : (e2.tx m).wrote key = (mget (e2.tx m).writes key).isSome := rfl
     have hal : (e2.tx m).alive = decide ((e2.tx m).state ≤ 1) := rfl
     have hstr := strict_eng w0 wq b bs k2 e2 m _ hO hj
     have hbnd : ∀ j, j < e2.txs.length → (e2.tx j).aft.length + 1 ≤ 1000000000000 ∧ (e2.tx j).fore.length + 1 ≤ 1000000000000 := fun j hj => by have := hok2.out.fits _ (Eng.tx_mem hj); omega
     have hcall := fun hij => noted_any w0 wq b bs k2 e2 i m _ hO hi2 hj hij (hbnd i hi2).1 (hbnd m hj).2 (fun x hx => (hok2.out.txs x hx).refs)
     unfold ptr at hcall
     have hoth := fun hne => neqT_other (hs := hO) hi2 hj hne
     have hbn := fun hij : m ≠ i => blk_ne hO.eng_c.2 hj hi2 hij
     have HC := hid hcall; have HSTR := hid hstr; have HSR := hid hsr
     have hokn := hok2.out.note1 hi2 hj
     have HOK2 := hid hokn
     have hlnn := Eng.note_len e2 i m
     have HLN2 := hid hlnn
     rw [← hwr] at lk
     generalize (mget (e2.tx m).writes key).getD 0 = vv at lk
     generalize hst : (e2.tx m).strict = st at *
     generalize hws : (e2.tx m).wrote key = ws at *
     generalize hsta : (e2.tx m).state = sta at *
     have HST := hid hst; have HWS := hid hws; have HAL := hid hal; have HOTH := hid hoth; have HBN := hid hbn
     have HSTR2 := hid hstr
     clear hd hj hi2 hO hx hwr hal hstr hbnd hcall hoth hbn hsr hf1 hokn hlnn hst hws hsta
     cases ws with
     | false =>
      have hf3 : sawOpen i key (List.range e.txs.length) e1 = sawOpen i key ((List.range e.txs.length).drop (m + 1)) e2 := by rw [hf2, sawOpen, if_neg (by simp [HWS.out])]
      have HF3 := hid hf3
      clear hf2 hf3 HC HSTR HOK2 HLN2 HST HWS HAL HOTH HBN
      go_wp2_with (go_at_call 150; with_reducible refine HSTR2.out.mono ?_; rintro r w' ⟨rfl, rfl⟩)
      go_roundw
      case rel => exact ⟨m + 1, e2, k2, by omega, by go_num, hk2, hid (hok2.out.mono (by omega)), hln2, HF3, HSR.out⟩
      case measure => simp [intOf]; omega
     | true =>
      by_cases hmi : m = i
      ·subst hmi
       have hnq := fun w => neqT_same w (blkOf bs m)
       have hf3 : sawOpen m key (List.range e.txs.length) e1 = sawOpen m key ((List.range e.txs.length).drop (m + 1)) e2 := by rw [hf2, sawOpen, if_neg (by simp [])]
       have HF3 := hid hf3
       clear hf2 hf3 HC HSTR HOK2 HLN2 HST HWS HAL HOTH HBN
       go_wp2_with (go_at_call 150; with_reducible refine HSTR2.out.mono ?_; rintro r w' ⟨rfl, rfl⟩)
       go_roundw
       case rel => exact ⟨m + 1, e2, k2, by omega, by go_num, hk2, hid (hok2.out.mono (by omega)), hln2, HF3, HSR.out⟩
       case measure => simp [intOf]; omega
      ·have hnq := HOTH.out (HBN.out hmi)
       cases st with
       | false =>
        have hf3 : sawOpen i key (List.range e.txs.length) e1 = sawOpen i key ((List.range e.txs.length).drop (m + 1)) e2 := by rw [hf2, sawOpen, if_neg (by simp [HST.out])]
        have HF3 := hid hf3
        clear hf2 hf3 HC HSTR HOK2 HLN2 HST HWS HAL HOTH HBN hmi
        go_wp2_with (go_at_call 150; with_reducible refine HSTR2.out.mono ?_; rintro r w' ⟨rfl, rfl⟩)
        go_roundw
        case rel => exact ⟨m + 1, e2, k2, by omega, by go_num, hk2, hid (hok2.out.mono (by omega)), hln2, HF3, HSR.out⟩
        case measure => simp [intOf]; omega
       | true =>
        by_cases h1 : sta ≤ 1
        ·have hb1 : decide (sta ≤ 1) = true := decide_eq_true h1
         have hf3 : sawOpen i key (List.range e.txs.length) e1 = sawOpen i key ((List.range e.txs.length).drop (m + 1)) (e2.note i m) := by rw [hf2, sawOpen, if_pos (by simp [HWS.out, HST.out, HAL.out, hb1, hmi])]
         have HF3 := hid hf3; have HC2 := hid (HC.out (Ne.symm hmi))
         clear hf2 hf3 HC HSTR HST HWS HAL HOTH HBN hmi h1
         go_wp2_with (first | (go_at_call 150; with_reducible refine HSTR2.out.mono ?_; rintro r w' ⟨rfl, rfl⟩) | (go_at_call 151; with_reducible refine HC2.out.mono ?_; rintro r w' ⟨k3, hk3, rfl, hs3⟩; have H5 := hid hs3; have HK3 := hid hk3; clear hs3 hk3))
         go_roundw
         case rel => exact ⟨m + 1, e2.note i m, k3, by omega, by go_num, hid (HK3.out.trans hk2.out), hid (HOK2.out.mono (by omega)), hid (HLN2.out.trans hln2.out), HF3, H5.out.conv (by simp only [all]; show _ = sep (storeP _ b 0 e2.V e2.last) (sep (tabP _ b 11 e2.t) _); ac_rfl)⟩
         case measure => simp [intOf]; omega
        ·have hb1 : decide (sta ≤ 1) = false := decide_eq_false h1
         have hf3 : sawOpen i key (List.range e.txs.length) e1 = sawOpen i key ((List.range e.txs.length).drop (m + 1)) e2 := by rw [hf2, sawOpen, if_neg (by simp [HAL.out, hb1])]
         have HF3 := hid hf3
         clear hf2 hf3 HC HSTR HOK2 HLN2 HST HWS HAL HOTH HBN hmi h1
         go_wp2_with (go_at_call 150; with_reducible refine HSTR2.out.mono ?_; rintro r w' ⟨rfl, rfl⟩)
         go_roundw
         case rel => exact ⟨m + 1, e2, k2, by omega, by go_num, hk2, hid (hok2.out.mono (by omega)), hln2, HF3, HSR.out⟩
         case measure => simp [intOf]; omega
    ·have hd : (List.range e.txs.length).drop m = [] := List.drop_eq_nil_iff.2 (by simp; omega)
     have hf2 := hf1.out
     rw [hd, sawOpen] at hf2
     have HF2 := hid hf2; have HSR := hid hsr
     clear hd hf2 hsr hf1
     go_wp2_with fail
     go_ret
     exact ⟨by rw [HSF.out]; rfl, by rw [HSF.out]; show S w0 wq (engP b bs (sawOpen i key (List.range e.txs.length) e1) :: L); rw [HF2.out]; exact HSR.out.eng_shut⟩
end Go.Proofs.YtdlkjppppdminaaGreatDoor
/- The program's engine: Ready, Abort. -/
namespace Go.Proofs.YtdlkjppppdminaaGreatDoor
open Go Go.RowKit Go.Sep
theorem ready_any (w0 w : World) (b : Nat) (bs : List Nat) (k : EngV) (e : Eng) (n : Int) (L : List HProp) (N : Nat) (U : List Task) (hok : OkT N e U) (hs : S w0 w (engO b bs k e :: L)) :
  Calls Tryz.prog 107 #[.pointer (some ⟨b, 0, none⟩), .int .i64 n] w fun r w' => r = .returned (errV (e.ready n)) ∧ w = w' := by
 rcases e.err_cases n true with ⟨h1, h2⟩ | ⟨i, rfl, hi, ⟨h1, h2, h3⟩ | ⟨h1, h2⟩⟩
 ·have hf : e.ready n = 7 := by unfold Eng.ready; rw [if_pos (by rw [h1]; decide), h1]
  have HF := hid hf; have HC := hid (of_miss w0 w b bs k e n true L hs h2)
  clear hs h1 h2 hf hok
  go_enter Tryz.func107, Tryz.ntmps107
  go_wp2_with fail
  with_reducible refine HC.out.mono ?_
  rintro r w' ⟨rfl, rfl⟩
  go_wp2_with fail
  go_ret
  exact ⟨by rw [HF.out]; rfl, rfl⟩
 ·have hf : e.ready ((i : Int) + 1) = 6 := by unfold Eng.ready; rw [if_pos (by rw [h1]; decide), h1]
  have HF := hid hf; have HC := hid (of_shut w0 w b bs k e i L hs hi h3)
  clear hs h1 h2 h3 hf hok
  go_enter Tryz.func107, Tryz.ntmps107
  go_wp2_with fail
  with_reducible refine HC.out.mono ?_
  rintro r w' ⟨rfl, rfl⟩
  go_wp2_with fail
  go_ret
  exact ⟨by rw [HF.out]; rfl, rfl⟩
 ·have hi2 : ((i : Int) + 1).toNat - 1 = i := by omega
  have hf : e.ready ((i : Int) + 1) = if (e.tx i).level = 2 ∧ e.middle i = true then 13 else 0 := by unfold Eng.ready; rw [if_neg (by rw [h1]; decide), hi2]
  have hc := of_ok w0 w b bs k e i true L hs hi h2
  unfold ptr at hc
  have c0 := (hs.eng_txc hi).2.level
  have hm := middle_eng w0 w b bs k e i L hs hi (hok.at hi).refs
  have HF := hid hf; have HC := hid hc; have HM := hid hm
  clear hs h1 h2 hf hc hm hok hi2
  by_cases hl : (e.tx i).level = 2
  ·have hb : ((e.tx i).level == 2) = true := by simpa using hl
   cases hmm : e.middle i with
   | true =>
    have hf : e.ready ((i : Int) + 1) = 13 := by rw [HF.out, if_pos ⟨hl, hmm⟩]
    rw [hmm] at HM
    have HF2 := hid hf
    rw [hl] at c0
    clear hf hmm hl HF hb
    go_enter Tryz.func107, Tryz.ntmps107
    go_wp2_with fail
    with_reducible refine HC.out.mono ?_
    rintro r w' ⟨rfl, rfl⟩
    go_wp2_with (go_at_call 141; with_reducible refine HM.out.mono ?_; rintro r w' ⟨rfl, rfl⟩)
    go_ret
    exact ⟨by rw [HF2.out]; rfl, rfl⟩
   | false =>
    have hf : e.ready ((i : Int) + 1) = 0 := by rw [HF.out, if_neg (by simp [hmm])]
    rw [hmm] at HM
    have HF2 := hid hf
    rw [hl] at c0
    clear hf hmm hl HF hb
    go_enter Tryz.func107, Tryz.ntmps107
    go_wp2_with fail
    with_reducible refine HC.out.mono ?_
    rintro r w' ⟨rfl, rfl⟩
    go_wp2_with (go_at_call 141; with_reducible refine HM.out.mono ?_; rintro r w' ⟨rfl, rfl⟩)
    go_ret
    exact ⟨by rw [HF2.out]; rfl, rfl⟩
  ·have hb : ((e.tx i).level == 2) = false := by simpa using hl
   have hf : e.ready ((i : Int) + 1) = 0 := by rw [HF.out, if_neg (fun h => hl h.1)]
   have HF2 := hid hf
   clear hf hl HF HM
   go_enter Tryz.func107, Tryz.ntmps107
   go_wp2_with fail
   with_reducible refine HC.out.mono ?_
   rintro r w' ⟨rfl, rfl⟩
   go_wp2_with fail
   go_ret
   exact ⟨by rw [HF2.out]; rfl, rfl⟩
theorem abort_any (w0 w : World) (b : Nat) (bs : List Nat) (e : Eng) (n : Int) (L : List HProp) (N : Nat) (hok : OkT N e []) (hN : N ≤ 100000000) (hs : S w0 w (engP b bs e :: L)) :
  Calls Tryz.prog 61 #[.pointer (some ⟨b, 0, none⟩), .int .i64 n] w fun r w' => r = .returned (errV (e.abort n).2) ∧ S w0 w' (engP b bs (e.abort n).1 :: L) := by
 have HS := hid hs
 obtain ⟨k, hs⟩ := hs.eng_open
 have hO : S w0 w (engO b bs k e :: storeP 99 b 0 e.V e.last :: tabP 3 b 11 e.t :: L) := hs.conv (by simp only [all]; ac_rfl)
 rcases e.err_cases n false with ⟨h1, h2⟩ | ⟨i, rfl, hi, ⟨h1, h2, h3⟩ | ⟨h1, h2⟩⟩
 ·have hf : e.abort n = (e, 7) := by unfold Eng.abort; rw [if_pos (by rw [h1]; decide), h1]
  have HF := hid hf; have HC := hid (of_miss w0 w b bs k e n false _ hO h2)
  clear hs hO h1 h2 hf hok
  go_enter Tryz.func61, Tryz.ntmps61
  go_wp2_with fail
  with_reducible refine HC.out.mono ?_
  rintro r w' ⟨rfl, rfl⟩
  go_wp2_with fail
  go_ret
  exact ⟨by rw [HF.out]; rfl, by rw [HF.out]; exact HS.out⟩
 ·cases h2
 ·have hi2 : ((i : Int) + 1).toNat - 1 = i := by omega
  have hf : e.abort ((i : Int) + 1) = if 1 < (e.tx i).state then (e, 6) else (e.goes i 0, 0) := by unfold Eng.abort; rw [if_neg (by rw [h1]; decide), hi2]
  have hc := of_ok w0 w b bs k e i false _ hO hi h2
  unfold ptr at hc
  have c1 := (hO.eng_txc hi).2.state
  have HF := hid hf; have HC := hid hc
  by_cases hst : 1 < (e.tx i).state
  ·have hf2 : e.abort ((i : Int) + 1) = (e, 6) := by rw [hf, if_pos hst]
   have HF2 := hid hf2
   clear hs hO h1 h2 hf hf2 hc hok hi2 HF
   go_enter Tryz.func61, Tryz.ntmps61
   go_wp2_with fail
   with_reducible refine HC.out.mono ?_
   rintro r w' ⟨rfl, rfl⟩
   go_wp2_with fail
   go_ret
   exact ⟨by rw [HF2.out]; rfl, by rw [HF2.out]; exact HS.out⟩
  ·have hf2 : e.abort ((i : Int) + 1) = (e.goes i 0, 0) := by rw [hf, if_neg hst]
   have hcall := goes_any e.open_ w0 w b bs e i 0 L N [] hok hi (by simp only [Tx.alive, decide_eq_true_eq]; omega) (by simp) (Nat.le_refl _) hN HS.out
   have HF2 := hid hf2; have HG := hid hcall
   clear hs hO h1 h2 hf hf2 hc hok hi2 HF hcall
   go_enter Tryz.func61, Tryz.ntmps61
   go_wp2_with fail
   with_reducible refine HC.out.mono ?_
   rintro r w' ⟨rfl, rfl⟩
   go_wp2_with fail
   with_reducible refine HG.out.mono ?_
   rintro r w' ⟨rfl, hs'⟩
   have H5 := hid hs'
   clear hs'
   go_wp2_with fail
   go_ret
   exact ⟨by rw [HF2.out]; rfl, by rw [HF2.out]; exact H5.out⟩
end Go.Proofs.YtdlkjppppdminaaGreatDoor
/- The program's engine: Sweep. -/
namespace Go.Proofs.YtdlkjppppdminaaGreatDoor
open Go Go.RowKit Go.Sep
def floorStep (a : Int) (x : Tx) : Int := if x.alive = true ∧ x.level ≠ 0 then min a x.start else a
theorem floor_eq (e : Eng) : e.floor = e.txs.foldl floorStep e.last := rfl
theorem floor_take {e : Eng} {m : Nat} (h : m < e.txs.length) : (e.txs.take (m + 1)).foldl floorStep e.last = floorStep ((e.txs.take m).foldl floorStep e.last) (e.tx m) := by
 rw [take_succ_get (Eng.tx_some h), List.foldl_append]; rfl
set_option maxRecDepth 40000 in
set_option maxHeartbeats 4000000 in
theorem sweep_eng (w0 w : World) (b : Nat) (bs : List Nat) (e : Eng) (L : List HProp) (N : Nat) (U : List Task) (hok : OkT N e U) (hs : S w0 w (engP b bs e :: L)) :
  Calls Tryz.prog 78 #[.pointer (some ⟨b, 0, none⟩)] w fun r w' => r = .returned (.int .i64 e.sweep.2) ∧ S w0 w' (engP b bs e.sweep.1 :: L) := by
 obtain ⟨k, hs⟩ := hs.eng_open
 have hO : S w0 w (engO b bs k e :: storeP 99 b 0 e.V e.last :: tabP 3 b 11 e.t :: L) := hs.conv (by simp only [all]; ac_rfl)
 have hl := last_any b 0 e.last w hs.store_last.1
 have hc := hO.eng_c.2
 have c14 := hc.txs
 obtain ⟨a, cap, hv, hle, hcap, hrow⟩ := hc.row
 rw [hv] at c14
 unfold maxLen at hcap
 have htx : ∀ j, j < e.txs.length → TxC w bs (blkOf bs j) (k.v j) (e.tx j) := fun j hj => (hO.eng_txc hj).2
 have hsw := fun at_ => sweep_any w0 w b 0 e.V e.last at_ _ hs (fun vs hv => by have := hok.row_le vs hv; omega)
 have HL := hid hl; have HROW := hid hrow; have HTX := hid htx; have HSW := hid hsw
 clear hs hO hl hc hv hrow htx hsw hok
 go_enter Tryz.func78, Tryz.ntmps78
 go_wp2_with (go_at_call 104; with_reducible refine HL.out.mono ?_; rintro r w' ⟨rfl, rfl⟩)
 go_loopw [3, 15] (fun f c wr => ∃ m : Nat, m ≤ e.txs.length ∧ c = .int .i64 m ∧ f = .int .i64 ((e.txs.take m).foldl floorStep e.last) ∧ wr = w) (fun _ c _ => e.txs.length - (intOf c).toNat)
 case atStart => exact ⟨0, Nat.zero_le _, rfl, rfl, rfl⟩
 case round =>
  obtain ⟨m, hm, rfl, rfl, rfl⟩ := hrel
  by_cases hlt : m < e.txs.length
  ·obtain ⟨g, o, rfl, ci⟩ := HROW.out m hlt
   unfold ptr at ci
   have hx := HTX.out m hlt
   have x0 := hx.level
   have x1 := hx.state
   have x2 := hx.start
   have hst := floor_take hlt
   generalize hf : (e.txs.take m).foldl floorStep e.last = f at *
   clear hf
   have HST := hid hst
   clear hst hx
   by_cases h1 : (e.tx m).state ≤ 1
   ·have hb1 : decide ((e.tx m).state ≤ 1) = true := decide_eq_true h1
    by_cases h0 : (e.tx m).level = 0
    ·have hb0 : ((e.tx m).level != 0) = false := by simp [h0]
     have hf2 : (e.txs.take (m + 1)).foldl floorStep e.last = f := by rw [HST.out]; unfold floorStep; rw [if_neg (fun h => h.2 h0)]
     have HF := hid hf2
     clear hf2 h0 HST
     go_wp2_with fail
     go_roundw
     case rel => exact ⟨m + 1, by omega, by go_num, by rw [HF.out], by first | rfl | trivial⟩
     case measure => simp [intOf]; omega
    ·have hb0 : ((e.tx m).level != 0) = true := by simpa using h0
     have hf2 : (e.txs.take (m + 1)).foldl floorStep e.last = min f (e.tx m).start := by rw [HST.out]; unfold floorStep; rw [if_pos ⟨by simpa [Tx.alive] using h1, h0⟩]
     have HF := hid hf2
     clear hf2 h0 HST
     go_wp2_with fail
     go_roundw
     case rel => exact ⟨m + 1, by omega, by go_num, by rw [HF.out], by first | rfl | trivial⟩
     case measure => simp [intOf]; omega
   ·have hb1 : decide ((e.tx m).state ≤ 1) = false := decide_eq_false h1
    have hf2 : (e.txs.take (m + 1)).foldl floorStep e.last = f := by rw [HST.out]; unfold floorStep; rw [if_neg (fun h => h1 (by simpa [Tx.alive] using h.1))]
    have HF := hid hf2
    clear hf2 HST
    go_wp2_with fail
    go_roundw
    case rel => exact ⟨m + 1, by omega, by go_num, by rw [HF.out], by first | rfl | trivial⟩
    case measure => simp [intOf]; omega
  ·have hfl : (e.txs.take m).foldl floorStep e.last = e.floor := by rw [floor_eq, List.take_of_length_le (by omega)]
   rw [hfl]
   have HC := hid (HSW.out e.floor)
   clear hfl HSW
   go_wp2_with fail
   with_reducible refine HC.out.mono ?_
   rintro r w' ⟨rfl, hs'⟩
   have H5 := hid hs'
   clear hs'
   go_wp2_with fail
   go_ret
   exact ⟨rfl, S.eng_shut (k := k) (e := e.sweep.1) H5.out⟩
end Go.Proofs.YtdlkjppppdminaaGreatDoor
/- The program's engine: New. -/
namespace Go.Proofs.YtdlkjppppdminaaGreatDoor
open Go Go.RowKit Go.Sep
theorem store_cells {w0 w : World} {L : List HProp} {b T : Nat} (h : S w0 w (cells b 0 (List.replicate 10 (.slice none 0 0) ++ [.int .i64 0]) :: L)) : S w0 w (storeP T b 0 (List.replicate 10 []) 0 :: L) := by
 refine .ex_intro (List.replicate 10 (.slice none 0 0)) (.sep_intro (.pur_intro ⟨rfl, rfl⟩ (.sep_intro ?_)))
 have h2 : ∀ n, S w0 w (cells b 0 (List.replicate 10 (.slice none 0 0) ++ [.int .i64 0]) :: all (List.replicate n (sl T 2 (.slice none 0 0) 0 [])) :: L) := by
  intro n
  induction n with
  | zero => exact h.conv (by simp [all, emp_sep])
  | succ n ih => exact (S.sl_nil (e := T) (size := 2) ih).conv (by simp only [all, List.replicate_succ]; rw [sep_left_comm]; simp only [sep_assoc])
 exact h2 10
def engVals (m : Nat) : List Value := (List.replicate 10 (.slice none 0 0) ++ [.int .i64 0]) ++ ([.map none, .map none, .map none] ++ [.slice none 0 0, .int .i64 0, .map (some m), .slice none 0 0])
theorem eng_new {w0 w : World} {L : List HProp} {b m : Nat} (h : S w0 w (blk b 108 (engVals m) :: mp encI (fun _ => True) m [] :: L)) : S w0 w (engP b [] Eng.zero :: L) := by
 have h1 : S w0 w (cells b 0 (List.replicate 10 (.slice none 0 0) ++ [.int .i64 0]) :: cells b 11 [.map none, .map none, .map none] :: cells b 14 [.slice none 0 0, .int .i64 0, .map (some m), .slice none 0 0] :: shp b 108 18 :: mp encI (fun _ => True) m [] :: L) := by
  have e1 : cells b 0 (engVals m) = sep (cells b 0 (List.replicate 10 (.slice none 0 0) ++ [.int .i64 0])) (sep (cells b 11 [.map none, .map none, .map none]) (cells b 14 [.slice none 0 0, .int .i64 0, .map (some m), .slice none 0 0])) := by
   have a1 : ∀ A B C : List Value, A.length = 11 → B.length = 3 → cells b 0 (A ++ (B ++ C)) = sep (cells b 0 A) (sep (cells b 11 B) (cells b 14 C)) := by
    intro A B C hA hB
    rw [cells_append, cells_append, hA, hB]
   exact a1 _ _ _ rfl rfl
  have e2 : blk b 108 (engVals m) = sep (shp b 108 18) (cells b 0 (engVals m)) := rfl
  refine h.conv ?_
  simp only [all]
  rw [e2, e1]
  ac_rfl
 have h2 := store_cells (T := 99) h1
 have h3 := S.tab_zero (T := 3) h2.swap
 have h4 : S w0 w (engG b [] (.slice none 0 0) (.slice none 0 0) m 0 0 [] [] [] :: storeP 99 b 0 (List.replicate 10 []) 0 :: tabP 3 b 11 ⟨[], [], []⟩ :: L) := by
  refine S.engG_join ⟨rfl, rfl, List.nodup_nil⟩ ?_
  have h5 := (S.sl_nil (e := 121) (size := 4) (S.sl_nil (e := 167) (size := 1) h3))
  refine h5.conv ?_
  simp only [all, List.length_nil, fcells_nil, ptrs, List.range_zero, List.map_nil, ienc, emp_sep]
  ac_rfl
 refine .ex_intro ⟨[], .slice none 0 0, .slice none 0 0, m⟩ ?_
 refine S.mono (P := sep (storeP 99 b 0 (List.replicate 10 []) 0) (sep (tabP 3 b 11 ⟨[], [], []⟩) (sep (pur (0 = 0)) (engG b [] (.slice none 0 0) (.slice none 0 0) m 0 0 [] [] [])))) ?_ (fun _ p => p)
 exact (S.pur_intro (p := 0 = 0) rfl h4).conv (by simp only [all]; ac_rfl)
set_option maxRecDepth 40000 in
theorem new_any (w0 w : World) (L : List HProp) (hs : S w0 w L) :
  Calls Tryz.prog 54 #[] w fun r w' => r = .returned (.pointer (some ⟨w.heap.size + 1, 0, none⟩)) ∧ S w0 w' (engP (w.heap.size + 1) [] Eng.zero :: L) := by
 have hmm := @run_makeMap Tryz.prog
 have h1 := (hs.made (κ := Int) (enc := encI) (ok := fun _ => True)).alloc (engVals w.heap.size).toArray 108
 rw [World.size_alloc] at h1
 have H1 := hid (eng_new h1)
 clear h1 hs
 go_enter Tryz.func54, Tryz.ntmps54
 go_wp2
 go_ret
 exact ⟨rfl, H1.out⟩
end Go.Proofs.YtdlkjppppdminaaGreatDoor
/- Transactions at the same time: what holds of an engine is kept by all that is asked of it. No walk in sight. -/
namespace Go.Proofs.YtdlkjppppdminaaGreatDoor
open Go Go.RowKit Go.Sep
variable {e : Eng} {i j : Nat} {N M : Nat} {U : List Task}
theorem TxOk.mono {n m : Nat} {x : Tx} (h : TxOk n x) (hn : n ≤ m) : TxOk m x := ⟨h.state, fun j hj => Nat.lt_of_lt_of_le (h.refs j hj) hn, h.want, h.own, h.keys⟩
def Eng.grown (e : Eng) (x : Tx) : Eng := { e with count := e.count + 1, txs := e.txs ++ [x] }
theorem Eng.grown_tx {x : Tx} (hj : j < e.txs.length) : (e.grown x).tx j = e.tx j := by unfold Eng.grown Eng.tx; simp [List.getElem?_append_left hj]
theorem Eng.grown_last (x : Tx) : (e.grown x).tx e.txs.length = x := by unfold Eng.grown Eng.tx; simp
theorem Eng.grown_len (x : Tx) : (e.grown x).txs.length = e.txs.length + 1 := by simp [Eng.grown]
theorem OkT.few_waits (h : OkT N e U) : 200 * e.many Tx.waits + slacks U ≤ N ∨ (e.many Tx.waits = 0 ∧ e.txs = []) := by
 cases ht : e.txs with
 | nil => right; exact ⟨by simp [Eng.many, ht], rfl⟩
 | cons x l => left; have := (h.fits x (by rw [ht]; simp)).1; omega
theorem OkT.grown (h : OkT N e []) {x : Tx} (h1 : e.txs.length < 200) (h2 : e.open_ < 6) (hs : x.state = 0) (hr : x.reads = []) (hw : x.writes = []) (hwant : x.want = (0, 0)) (hf : x.fore = []) (ha : x.aft = []) : OkT N (e.grown x) [] := by
 obtain ⟨Q, hQ⟩ := h.tab
 have hlen := Eng.grown_len (e := e) x
 have hal : x.alive = true := by simp [Tx.alive, hs]
 have hop : (e.grown x).open_ = e.open_ + 1 := by simp [Eng.open_, Eng.grown, List.countP_append, hal]
 have hwt : (e.grown x).many Tx.waits = e.many Tx.waits := by simp [Eng.many, Eng.grown, List.countP_append, Tx.waits, hs]
 have hcnt := h.cnt
 have htx : ∀ k, ∀ y ∈ Q k, (e.grown x).tx (y.toNat - 1) = e.tx (y.toNat - 1) := fun k y hy => by
  have := hQ.key k y hy
  exact Eng.grown_tx (by omega)
 refine ⟨by omega, h.v10, ?_, fun k v hk => ?_, ⟨Q, hQ.tab, hQ.rk, hQ.hold, fun k y hy => ?_, fun k y hy => by rw [htx k y hy]; exact hQ.alive k y hy, fun k y hy => by rw [htx k y (List.mem_of_mem_tail hy)]; exact hQ.waits k y hy⟩, fun j hj hs' => ?_, by omega, ?_, fun vs hv => ?_, ?_, h.last, ?_, ?_, ?_, by simp, by simp⟩
 ·intro y hy
  rw [hlen]
  rcases List.mem_append.1 hy with hy | hy
  ·exact (h.txs y hy).mono (by omega)
  ·simp only [List.mem_singleton] at hy; subst hy
   exact ⟨by omega, by simp [hf, ha], by rw [hwant]; decide, by simp [hw], by simp [hw]⟩
 ·obtain ⟨g1, g2, g3⟩ := h.wr k v hk
  rw [hlen, Eng.grown_tx (by omega)]
  exact ⟨g1, by omega, g3⟩
 ·rw [hlen]; have := hQ.key k y hy; exact ⟨this.1, this.2.1, by omega⟩
 ·rw [hlen] at hj
  rcases Nat.lt_or_ge j e.txs.length with hl | hl
  ·rw [Eng.grown_tx hl] at hs'
   exact h.all j hl hs'
  ·obtain rfl : j = e.txs.length := by omega
   rw [Eng.grown_last, hs] at hs'; cases hs'
 ·have : (e.grown x).count = e.count + 1 := rfl
  rw [hlen, this]; omega
 ·have := h.rows vs hv
  show _ ≤ e.count + 1 + 1; omega
 ·show _ ≤ e.count + 1; exact Int.le_trans h.wrs (by omega)
 ·have := h.hist
  show _ ≤ (e.count + 1) * ((N : Int) + 10)
  refine Int.le_trans this ?_
  rw [Int.add_mul]; omega
 ·intro y hy
  rcases List.mem_append.1 hy with hy | hy
  ·exact h.reads y hy
  ·simp only [List.mem_singleton] at hy; subst hy; simp [hr]
 ·intro y hy
  rw [hwt]
  rcases List.mem_append.1 hy with hy | hy
  ·exact h.fits y hy
  ·simp only [List.mem_singleton] at hy; subst hy
   rcases h.few_waits with g | ⟨g, _⟩
   ·simp only [hf, ha, List.length_nil]; omega
   ·simp [hf, ha, g, slacks]
theorem OkT.begun (h : OkT N e []) (level : Int) : OkT N (e.begin_ level).1 [] := by
 unfold Eng.begin_
 split
 ·exact h
 split
 ·exact h
 split
 ·exact h
 ·rename_i h1 h2 h3
  exact h.grown (by omega) (by omega) rfl rfl rfl rfl rfl rfl
theorem OkT.field (h : OkT N e U) (hM : N ≤ M) (f : Tx → Tx) (hs : ∀ x, (f x).state = x.state) (hl : ∀ x, (f x).level = x.level) (hf : ∀ x, (f x).fore = x.fore) (ha : ∀ x, (f x).aft = x.aft) (hw : ∀ x, (f x).writes = x.writes)
  (hwant : keyOk (f (e.tx i)).want.1 ∧ valOk (f (e.tx i)).want.2) (hr : (f (e.tx i)).reads.length ≤ M) : OkT M (e.upd i f) U := by
 obtain ⟨Q, hQ⟩ := h.tab
 have hlen : (e.upd i f).txs.length = e.txs.length := Eng.upd_len ..
 have hal : ∀ x, (f x).alive = x.alive := fun x => by simp [Tx.alive, hs]
 have hwa : ∀ x, (f x).waits = x.waits := fun x => by simp [Tx.waits, hs]
 have hop : (e.upd i f).open_ = e.open_ := Eng.many_keep Tx.alive _ hal
 have hwt : (e.upd i f).many Tx.waits = e.many Tx.waits := Eng.many_keep Tx.waits _ hwa
 have hst : ∀ j, ((e.upd i f).tx j).state = (e.tx j).state := Eng.upd_keep (·.state) _ hs
 have hlv : ∀ j, ((e.upd i f).tx j).level = (e.tx j).level := Eng.upd_keep (·.level) _ hl
 refine ⟨by rw [hlen]; exact h.few, h.v10, ?_, fun k v hk => by rw [hlen, hst]; exact h.wr k v hk, ⟨Q, hQ.upd _ (fun k x hx e1 => by have := hQ.alive k x hx; rw [e1] at this; rw [hal]; exact this) (fun k x hx e1 => by have := hQ.waits k x hx; rw [e1] at this; rw [hs]; exact this)⟩, fun j hj hs' => by rw [hst] at hs'; rw [hlen] at hj; exact h.all j hj hs', by rw [hop]; exact h.six, by rw [hop, hlen]; exact h.cnt, h.rows, h.wrs, h.last, ?_, ?_, ?_, fun t ht => ?_, h.apart⟩
 ·rw [hlen]
  refine Eng.upd_all h.txs fun hi => ?_
  have := h.at hi
  exact ⟨by rw [hs]; exact this.state, by rw [hf, ha]; exact this.refs, hwant, by rw [hw]; exact this.own, by rw [hw]; exact this.keys⟩
 ·exact Int.le_trans h.hist (Int.mul_le_mul_of_nonneg_left (by omega) h.cnt.1)
 ·exact Eng.upd_all (p := fun x => x.reads.length ≤ M) (fun x hx => Nat.le_trans (h.reads x hx) hM) fun _ => hr
 ·rw [hwt]
  have : ∀ x ∈ e.txs, x.fore.length + 200 * e.many Tx.waits + slacks U ≤ M ∧ x.aft.length + 200 * e.many Tx.waits + slacks U ≤ M := fun x hx => by have := h.fits x hx; omega
  exact Eng.upd_all (p := fun x => x.fore.length + 200 * e.many Tx.waits + slacks U ≤ M ∧ x.aft.length + 200 * e.many Tx.waits + slacks U ≤ M) this fun hi => by rw [hf, ha]; exact this (e.tx i) (Eng.tx_mem hi)
 ·have ht' := h.ok t ht
  refine ⟨by rw [hlen]; exact ht'.lt, fun w hw => ?_, fun i' w hw => ?_, fun i' key l hw => ?_⟩
  ·rw [hst]; exact ht'.hand w hw
  ·rw [hst]; exact ht'.put i' w hw
  ·rw [hst, hlv, hlen]; exact ht'.ask i' key l hw
theorem Eng.tx_far (h : ¬ j < e.txs.length) : e.tx j = .zero := by unfold Eng.tx; rw [List.getElem?_eq_none (by omega)]; rfl
theorem strict_lt (h : (e.tx j).strict = true) : j < e.txs.length := by
 apply Classical.byContradiction
 intro hj
 rw [Eng.tx_far hj] at h
 simp [Tx.strict, Tx.zero] at h
theorem Eng.note_state (e : Eng) (a b k : Nat) : ((e.note a b).tx k).state = (e.tx k).state := Eng.note_keep (·.state) (fun _ _ => rfl) (fun _ _ => rfl) a b k
theorem sawNew_ok : ∀ (l : List Int) (N : Nat) (e : Eng), OkT N e U → i < e.txs.length → OkT (N + l.length) (sawNew i l e).1 U ∧ (sawNew i l e).1.txs.length = e.txs.length ∧ (∀ k, ((sawNew i l e).1.tx k).state = (e.tx k).state) ∧ (sawNew i l e).1.open_ = e.open_
 | [], N, e, h, hi => ⟨h, rfl, fun _ => rfl, rfl⟩
 | a :: l, N, e, h, hi => by
  unfold sawNew
  simp only
  by_cases hc : 0 < (mget e.wr a).getD 0 ∧ (e.tx (((mget e.wr a).getD 0).toNat - 1)).strict = true
  ·rw [if_pos hc]
   have hj := strict_lt hc.2
   have h1 := h.note1 hi hj
   have e1 := Eng.note_len e i (((mget e.wr a).getD 0).toNat - 1)
   have e2 := Eng.note_state e i (((mget e.wr a).getD 0).toNat - 1)
   have e3 := Eng.note_open e i (((mget e.wr a).getD 0).toNat - 1)
   generalize e.note i (((mget e.wr a).getD 0).toNat - 1) = e' at *
   split
   ·exact ⟨h1.mono (by simp only [List.length_cons]; omega), e1, e2, e3⟩
   ·obtain ⟨g1, g2, g3, g4⟩ := sawNew_ok l (N + 1) e' h1 (by omega)
    exact ⟨g1.mono (by simp only [List.length_cons]; omega), by rw [g2, e1], fun k => by rw [g3, e2], by rw [g4, e3]⟩
  ·rw [if_neg hc]
   obtain ⟨g1, g2, g3, g4⟩ := sawNew_ok l N e h hi
   exact ⟨g1.mono (by simp only [List.length_cons]; omega), g2, g3, g4⟩
theorem sawOpen_ok {key : Int} : ∀ (l : List Nat) (N : Nat) (e : Eng), OkT N e U → i < e.txs.length → OkT (N + l.length) (sawOpen i key l e) U ∧ (sawOpen i key l e).txs.length = e.txs.length ∧ (∀ k, ((sawOpen i key l e).tx k).state = (e.tx k).state) ∧ (sawOpen i key l e).open_ = e.open_
 | [], N, e, h, hi => ⟨h, rfl, fun _ => rfl, rfl⟩
 | a :: l, N, e, h, hi => by
  unfold sawOpen
  by_cases hc : ((e.tx a).wrote key && decide (a ≠ i) && (e.tx a).strict && (e.tx a).alive) = true
  ·rw [if_pos hc]
   simp only [Bool.and_eq_true] at hc
   have hj := strict_lt hc.1.2
   have h1 := h.note1 hi hj
   have e1 := Eng.note_len e i a
   have e2 := Eng.note_state e i a
   have e3 := Eng.note_open e i a
   generalize e.note i a = e' at *
   obtain ⟨g1, g2, g3, g4⟩ := sawOpen_ok (key := key) l (N + 1) e' h1 (by omega)
   exact ⟨g1.mono (by simp only [List.length_cons]; omega), by rw [g2, e1], fun k => by rw [g3, e2], by rw [g4, e3]⟩
  ·rw [if_neg hc]
   obtain ⟨g1, g2, g3, g4⟩ := sawOpen_ok (key := key) l N e h hi
   exact ⟨g1.mono (by simp only [List.length_cons]; omega), g2, g3, g4⟩
theorem OkT.row_len (h : OkT N e U) (k : Int) : (e.row k).length ≤ 401 := by
 unfold Eng.row
 cases hg : e.V[k.toNat]? with
 | none => simp
 | some vs => exact h.row_le vs (List.mem_of_getElem? hg)
theorem sees_ok (h : OkT N e U) (hi : i < e.txs.length) (key : Int) : OkT (N + 601) (e.sees i key).1 U ∧ (e.sees i key).1.txs.length = e.txs.length ∧ (∀ k, ((e.sees i key).1.tx k).state = (e.tx k).state) ∧ (e.sees i key).1.open_ = e.open_ := by
 obtain ⟨g1, g2, g3, g4⟩ := sawNew_ok (newerL (e.row key) (e.tx i).start) N e h hi
 have hn := newerL_le (e.row key) (e.tx i).start
 have hr := h.row_len key
 have hf := h.few
 unfold Eng.sees
 simp only
 split
 ·obtain ⟨k1, k2, k3, k4⟩ := sawOpen_ok (key := key) (List.range (sawNew i (newerL (e.row key) (e.tx i).start) e).1.txs.length) _ _ g1 (by rw [g2]; exact hi)
  rw [List.length_range] at k1
  have k5 : OkT (N + 601) _ U := k1.mono (by omega)
  exact ⟨k5, by rw [k2, g2], fun k => by rw [k3, g3], by rw [k4, g4]⟩
 ·have k5 : OkT (N + 601) _ U := g1.mono (by omega)
  exact ⟨k5, g2, g3, g4⟩
theorem goes_kept (h : OkT N e []) (hi : i < e.txs.length) (ha : (e.tx i).alive = true) (why : Int) : OkT N (e.goes i why) [] :=
 (goesOk e.open_ N e i why [] h hi ha (by simp) (Nat.le_refl _)).1
theorem OkT.reads_in (h : OkT N e U) (hi : i < e.txs.length) (r : Int × Int) : OkT (N + 1) (e.upd i fun x => { x with reads := x.reads ++ [r] }) U :=
 h.field (by omega) _ (fun _ => rfl) (fun _ => rfl) (fun _ => rfl) (fun _ => rfl) (fun _ => rfl) (h.at hi).want (by have := h.reads _ (Eng.tx_mem hi); simp only [List.length_append, List.length_singleton]; omega)
theorem err_num {n : Int} {op : Bool} (h : e.err n op = 0) : ∃ i : Nat, n = (i : Int) + 1 ∧ i < e.txs.length ∧ (op = true → (e.tx i).state = 0) := by
 rcases e.err_cases n op with ⟨h1, _⟩ | ⟨j, hj, hlt, ⟨h1, _⟩ | ⟨_, h2⟩⟩
 ·omega
 ·omega
 ·exact ⟨j, hj, hlt, h2⟩
theorem OkT.red (h : OkT N e []) (n key : Int) : OkT (N + 1000) (e.read n key).1 [] := by
 have hm := h.mono (M := N + 1000) (by omega)
 unfold Eng.read
 split
 ·exact hm
 ·rename_i herr
  obtain ⟨i, rfl, hi, hst⟩ := err_num (Decidable.not_not.1 herr)
  have hi2 : ((i : Int) + 1).toNat - 1 = i := by omega
  simp only [hi2]
  cases mget (e.tx i).writes key with
  | some v => exact hm
  | none =>
   simp only
   split
   ·exact hm
   ·have h1 := h.reads_in hi (key, (mget e.wr (((readV (e.row key) (e.asOf i)).map (·.1)).getD 0)).getD 0)
    have hlen := Eng.upd_len e i fun x => { x with reads := x.reads ++ [(key, (mget e.wr (((readV (e.row key) (e.asOf i)).map (·.1)).getD 0)).getD 0)] }
    have hs1 := Eng.upd_keep (e := e) (i := i) (·.state) (fun x => { x with reads := x.reads ++ [(key, (mget e.wr (((readV (e.row key) (e.asOf i)).map (·.1)).getD 0)).getD 0)] }) (fun _ => rfl) i
    generalize (e.upd i fun x => { x with reads := x.reads ++ [(key, (mget e.wr (((readV (e.row key) (e.asOf i)).map (·.1)).getD 0)).getD 0)] }) = e1 at *
    have hi1 : i < e1.txs.length := by omega
    split
    ·obtain ⟨g1, g2, g3, _⟩ := sees_ok h1 hi1 key
     split
     ·exact g1.mono (by omega)
     ·exact (goes_kept g1 (by omega) (by simp only [Tx.alive, decide_eq_true_eq]; rw [g3, hs1, hst rfl]; decide) 13).mono (by omega)
    ·exact h1.mono (by omega)
theorem OkT.wait_none (h : OkT N e U) (hs : (e.tx i).state ≠ 1) : mget e.t.wait ((i : Int) + 1) = none := by
 obtain ⟨Q, hQ⟩ := h.tab
 exact hQ.not_wait (by rw [show ((i : Int) + 1).toNat - 1 = i by omega]; exact hs)
theorem OkT.got (h : OkT N e []) (hi : i < e.txs.length) (hs : (e.tx i).state = 0) {key : Int} (hk : keyOk key) (hh : mget e.t.hold key = none) : OkT N { e with t := { e.t with hold := mput e.t.hold key ((i : Int) + 1) } } [] := by
 obtain ⟨Q, hQ⟩ := h.tab
 obtain ⟨r, hr⟩ := hQ.rk
 have hq : Q key = [] := by
  have := hQ.tab.hold key
  rw [hh] at this
  cases hq : Q key with
  | nil => rfl
  | cons a l => rw [hq] at this; cases this
 have hat : ∀ k, askQ Q ((i : Int) + 1) key k = if k = key then Q key ++ [(i : Int) + 1] else Q k := fun k => by unfold askQ updQ; rfl
 have hmem : ∀ k, ∀ x ∈ askQ Q ((i : Int) + 1) key k, x ∈ Q k ∨ (k = key ∧ x = (i : Int) + 1) := fun k x hx => by
  rw [hat] at hx
  split at hx
  ·rename_i hk'; subst hk'
   rcases List.mem_append.1 hx with g | g
   ·exact .inl g
   ·exact .inr ⟨rfl, by simpa using g⟩
  ·exact .inl hx
 have htail : ∀ k, ∀ x ∈ (askQ Q ((i : Int) + 1) key k).tail, x ∈ (Q k).tail := fun k x hx => by
  rw [hat] at hx
  split at hx
  ·rw [hq] at hx; simp at hx
  ·exact hx
 refine ⟨h.few, h.v10, h.txs, h.wr, ⟨askQ Q ((i : Int) + 1) key, hQ.tab.ask_free hh, ⟨r, hr.free hq⟩, keys_put_nodup hQ.hold _ _, fun k x hx => ?_, fun k x hx => ?_, fun k x hx => hQ.waits k x (htail k x hx)⟩, h.all, h.six, h.cnt, h.rows, h.wrs, h.last, h.hist, h.reads, h.fits, by simp, by simp⟩
 ·rcases hmem k x hx with g | ⟨rfl, rfl⟩
  ·exact hQ.key k x g
  ·refine ⟨hk, by omega, ?_⟩
   show (i : Int) + 1 ≤ e.txs.length; omega
 ·rcases hmem k x hx with g | ⟨rfl, rfl⟩
  ·exact hQ.alive k x g
  ·rw [show ((i : Int) + 1).toNat - 1 = i by omega]
   show (e.tx i).alive = true
   simp [Tx.alive, hs]
theorem OkT.stands (h : OkT N e []) (hi : i < e.txs.length) (hs : (e.tx i).state = 0) {key a : Int} {n : Nat} (hk : keyOk key) (hh : mget e.t.hold key = some a) (ha : a ≠ (i : Int) + 1) (hc : chase e.t ((i : Int) + 1) n a = some false) :
  OkT (N + 200) ({ e with t := { e.t with wait := mput e.t.wait ((i : Int) + 1) key, line := mput e.t.line key (lineAt e.t key ++ [(i : Int) + 1]) } }.upd i fun x => { x with state := 1 }) [] := by
 obtain ⟨Q, hQ⟩ := h.tab
 obtain ⟨r, hr⟩ := hQ.rk
 have hw := h.wait_none (i := i) (by omega)
 have hq0 : ∀ k, ((i : Int) + 1) ∉ (Q k).tail := hQ.tab.none_wait.1 hw
 have hat : ∀ k, askQ Q ((i : Int) + 1) key k = if k = key then Q key ++ [(i : Int) + 1] else Q k := fun k => by unfold askQ updQ; rfl
 have hmem : ∀ k, ∀ x ∈ askQ Q ((i : Int) + 1) key k, x ∈ Q k ∨ (k = key ∧ x = (i : Int) + 1) := fun k x hx => by
  rw [hat] at hx
  split at hx
  ·rename_i hk'; subst hk'
   rcases List.mem_append.1 hx with g | g
   ·exact .inl g
   ·exact .inr ⟨rfl, by simpa using g⟩
  ·exact .inl hx
 have htail : ∀ k, ∀ x ∈ (askQ Q ((i : Int) + 1) key k).tail, x ∈ (Q k).tail ∨ x = (i : Int) + 1 := fun k x hx => by
  rw [hat] at hx
  split at hx
  ·rename_i hk'; subst hk'
   cases hq : Q k with
   | nil => rw [hq] at hx; simp at hx
   | cons b l =>
    rw [hq] at hx
    simp only [List.cons_append, List.tail_cons, List.mem_append, List.mem_singleton] at hx
    exact hx
  ·exact .inl hx
 generalize he1 : ({ e with t := { e.t with wait := mput e.t.wait ((i : Int) + 1) key, line := mput e.t.line key (lineAt e.t key ++ [(i : Int) + 1]) } } : Eng) = e1
 have htab : TabOk e1 (askQ Q ((i : Int) + 1) key) → TabOk e1 (askQ Q ((i : Int) + 1) key) := id
 have hlen : (e1.upd i fun x => { x with state := 1 }).txs.length = e.txs.length := by rw [Eng.upd_len, ← he1]
 have hi1 : i < e1.txs.length := by rw [← he1]; exact hi
 have htxe : ∀ j, e1.tx j = e.tx j := fun j => by rw [← he1]; rfl
 have hne : ∀ j, j ≠ i → (e1.upd i fun x => { x with state := 1 }).tx j = e.tx j := fun j hj => by rw [Eng.upd_ne (Ne.symm hj), htxe]
 have hself : (e1.upd i fun x => { x with state := 1 }).tx i = { e.tx i with state := 1 } := by rw [Eng.upd_self hi1, htxe]
 have hm1 := Eng.many_upd hi1 Tx.alive (fun x => { x with state := 1 })
 have hm2 := Eng.many_upd hi1 Tx.waits (fun x => { x with state := 1 })
 rw [if_pos (by rw [htxe]; simp [Tx.alive, hs]), if_pos (by simp [Tx.alive])] at hm1
 rw [if_neg (by rw [htxe]; simp [Tx.waits, hs]), if_pos (by simp [Tx.waits])] at hm2
 have hop : (e1.upd i fun x => { x with state := 1 }).open_ = e.open_ := by
  have : e1.many Tx.alive = e.open_ := by rw [← he1]; rfl
  unfold Eng.many at hm1 this; unfold Eng.open_ at *; omega
 have hwt : (e1.upd i fun x => { x with state := 1 }).many Tx.waits = e.many Tx.waits + 1 := by
  have : e1.many Tx.waits = e.many Tx.waits := by rw [← he1]; rfl
  omega
 have hx1 : ∀ x, 1 ≤ x → x ≠ (i : Int) + 1 → x.toNat - 1 ≠ i := fun x _ _ => by omega
 refine ⟨by rw [hlen]; exact h.few, by rw [← he1]; exact h.v10, ?_, fun k v hk => ?_, ⟨askQ Q ((i : Int) + 1) key, ?_, ?_, ?_, fun k x hx => ?_, fun k x hx => ?_, fun k x hx => ?_⟩, fun j hj hs' => ?_, by rw [hop]; exact h.six, ?_, by rw [← he1]; exact h.rows, by rw [← he1]; exact h.wrs, by rw [← he1]; exact h.last, ?_, ?_, ?_, by simp, by simp⟩
 ·rw [hlen]
  refine Eng.upd_all (by rw [← he1]; exact h.txs) fun _ => ?_
  have := h.at hi
  rw [htxe]
  exact ⟨by simp, this.refs, this.want, this.own, this.keys⟩
 ·have hk' : mget e.wr k = some v := by rw [← he1] at hk; exact hk
  obtain ⟨g1, g2, g3⟩ := h.wr k v hk'
  rw [hlen, hne]
  ·exact ⟨g1, g2, g3⟩
  ·intro e2; rw [e2] at g3; omega
 ·rw [← he1]; exact hQ.tab.ask_line hw hh ha
 ·exact Rk.ask hQ.tab hr hw hh hc
 ·rw [← he1]; exact hQ.hold
 ·rw [hlen]
  rcases hmem k x hx with g | ⟨rfl, rfl⟩
  ·exact hQ.key k x g
  ·exact ⟨hk, by omega, by omega⟩
 ·rcases hmem k x hx with g | ⟨rfl, rfl⟩
  ·by_cases hxi : x = (i : Int) + 1
   ·rw [hxi, show ((i : Int) + 1).toNat - 1 = i by omega, hself]; simp [Tx.alive]
   ·rw [hne _ (hx1 x (hQ.key k x g).2.1 hxi)]; exact hQ.alive k x g
  ·rw [show ((i : Int) + 1).toNat - 1 = i by omega, hself]; simp [Tx.alive]
 ·rcases htail k x hx with g | rfl
  ·by_cases hxi : x = (i : Int) + 1
   ·rw [hxi, show ((i : Int) + 1).toNat - 1 = i by omega, hself]
   ·rw [hne _ (hx1 x (hQ.key k x (List.mem_of_mem_tail g)).2.1 hxi)]; exact hQ.waits k x g
  ·rw [show ((i : Int) + 1).toNat - 1 = i by omega, hself]
 ·left
  have hwe : (e1.upd i fun x => { x with state := 1 }).t.wait = mput e.t.wait ((i : Int) + 1) key := by rw [← he1]; rfl
  rw [hwe, mget_put]
  split
  ·simp
  ·rename_i hji
   have hji' : j ≠ i := fun e2 => hji (by rw [e2])
   rw [hne j hji'] at hs'
   rw [hlen] at hj
   rcases h.all j hj hs' with g | ⟨w, g, _⟩
   ·exact g
   ·cases g
 ·rw [hop, hlen, ← he1]; exact h.cnt
 ·rw [← he1]
  exact Int.le_trans h.hist (Int.mul_le_mul_of_nonneg_left (by omega) h.cnt.1)
 ·refine Eng.upd_all (p := fun x => x.reads.length ≤ N + 200) (fun x hx => ?_) fun _ => ?_
  ·have : x ∈ e.txs := by rw [← he1] at hx; exact hx
   have := h.reads x this; omega
  ·rw [htxe]; have := h.reads _ (Eng.tx_mem hi); simp only; omega
 ·rw [hwt]
  have : ∀ x ∈ e.txs, x.fore.length + 200 * (e.many Tx.waits + 1) + slacks [] ≤ N + 200 ∧ x.aft.length + 200 * (e.many Tx.waits + 1) + slacks [] ≤ N + 200 := fun x hx => by
   have := h.fits x hx; omega
  refine Eng.upd_all (p := fun x => x.fore.length + 200 * (e.many Tx.waits + 1) + slacks [] ≤ N + 200 ∧ x.aft.length + 200 * (e.many Tx.waits + 1) + slacks [] ≤ N + 200) (fun x hx => this x (by rw [← he1] at hx; exact hx)) fun _ => ?_
  rw [htxe]; exact this (e.tx i) (Eng.tx_mem hi)
theorem OkT.to_put (h : OkT N e []) (hi : i < e.txs.length) (hs : (e.tx i).state = 0) {w : Int × Int} (hk : keyOk w.1) (hv : valOk w.2) : OkT (N + 200) e [.put i w] := by
 have h' := h.mono (M := N + 200) (by omega)
 refine ⟨h'.few, h'.v10, h'.txs, h'.wr, h'.tab, fun j hj hs' => ?_, h'.six, h'.cnt, h'.rows, h'.wrs, h'.last, h'.hist, h'.reads, fun x hx => ?_, fun t ht => ?_, by simp⟩
 ·rcases h'.all j hj hs' with g | ⟨w, g, _⟩
  ·exact .inl g
  ·cases g
 ·have := h.fits x hx
  simp only [slacks, List.map_cons, List.map_nil, List.sum_cons, List.sum_nil, slack] at this ⊢; omega
 ·simp only [List.mem_singleton] at ht; subst ht
  refine ⟨hi, by simp, fun i' w' e1 => ?_, by simp⟩
  simp only [Task.put.injEq] at e1
  obtain ⟨rfl, rfl⟩ := e1
  exact ⟨hs, hk, hv, h.wait_none (by omega)⟩
end Go.Proofs.YtdlkjppppdminaaGreatDoor
/- Transactions at the same time: what a write brings about. No walk in sight. -/
namespace Go.Proofs.YtdlkjppppdminaaGreatDoor
open Go Go.RowKit Go.Sep
variable {e : Eng} {i j : Nat} {N M : Nat} {U : List Task}
structure Keeps (R : Eng → Eng → Prop) : Prop where
 refl : ∀ e, R e e
 trans : ∀ e f g, R e f → R f g → R e g
 note : ∀ e a b, R e (e.note a b)
 opens : ∀ e i, R e (e.opens i)
 wput : ∀ e i w, R e (e.wput i w)
 lets : ∀ e i, R e (e.lets i)
section
variable {R : Eng → Eng → Prop} {g : Eng → Nat → Int → Eng}
theorem putsL_keep (hR : Keeps R) (hg : ∀ e i why, why ≠ 0 → R e (g e i why)) {i : Nat} {key : Int} : ∀ (l : List Nat) (e : Eng), R e (putsL g i key l e)
 | [], e => hR.refl e
 | j :: l, e => by
  unfold putsL
  split
  ·exact putsL_keep hR hg l e
  ·simp only
   split
   ·exact hR.trans _ _ _ (hR.note e j i) (hg _ i 13 (by decide))
   ·exact hR.trans _ _ _ (hR.note e j i) (putsL_keep hR hg l _)
theorem putsG_keep (hR : Keeps R) (hg : ∀ e i why, why ≠ 0 → R e (g e i why)) (e : Eng) (i : Nat) (w : Int × Int) : R e (putsG g e i w) := by
 unfold putsG
 split
 ·exact hg e i 10 (by decide)
 ·split
  ·exact hR.trans _ _ _ (hR.wput e i w) (putsL_keep hR hg _ _)
  ·exact hR.wput e i w
theorem freesL_keep (hR : Keeps R) (hg : ∀ e i why, why ≠ 0 → R e (g e i why)) : ∀ (l : List (Int × Int)) (e : Eng), R e (freesL g l e)
 | [], e => hR.refl e
 | w :: l, e => by
  unfold freesL
  exact hR.trans _ _ _ (hR.opens e _) (hR.trans _ _ _ (putsG_keep hR hg _ _ _) (freesL_keep hR hg l _))
theorem goesN_keep (hR : Keeps R) (ok : Nat → Int → Prop) (hok : ∀ i why, why ≠ 0 → ok i why) (hm : ∀ e i why, ok i why → R e (e.mark i why)) : ∀ (n : Nat) (e : Eng) (i : Nat) (why : Int), ok i why → R e (goesN n e i why)
 | 0, e, i, why, _ => hR.refl e
 | n + 1, e, i, why, h => by
  unfold goesN freesG
  exact hR.trans _ _ _ (hm e i why h) (hR.trans _ _ _ (hR.lets _ i) (freesL_keep hR (fun e i why hw => goesN_keep hR ok hok hm n e i why (hok i why hw)) _ _))
end
theorem keeps_len : Keeps fun e f => f.txs.length = e.txs.length where
 refl _ := rfl
 trans _ _ _ h1 h2 := h2.trans h1
 note e a b := Eng.note_len e a b
 opens _ _ := Eng.upd_len ..
 wput _ _ _ := Eng.upd_len ..
 lets _ _ := rfl
theorem goesN_len (n : Nat) (e : Eng) (i : Nat) (why : Int) : (goesN n e i why).txs.length = e.txs.length :=
 goesN_keep keeps_len (fun _ _ => True) (fun _ _ _ => trivial) (fun e i why _ => Eng.mark_len e i why) n e i why trivial
theorem puts_len (e : Eng) (i : Nat) (w : Int × Int) : (e.puts i w).txs.length = e.txs.length := putsG_keep keeps_len (fun e i why _ => goesN_len _ e i why) e i w
def WhyOk (i : Nat) (e : Eng) : Prop := (e.tx i).state = 3 → (e.tx i).why ≠ 0
theorem keeps_why (i : Nat) : Keeps fun e f => WhyOk i e → WhyOk i f where
 refl _ := id
 trans _ _ _ h1 h2 := h2 ∘ h1
 note e a b h := by
  unfold WhyOk
  rw [Eng.note_state, Eng.note_keep (·.why) (fun _ _ => rfl) (fun _ _ => rfl)]
  exact h
 opens e j h := by
  unfold WhyOk Eng.opens
  rw [Eng.upd_tx]
  split
  ·intro h2; cases h2
  ·exact h
 wput e j w h := by
  unfold WhyOk Eng.wput
  rw [Eng.upd_keep (·.state) (fun x => { x with writes := mput x.writes w.1 w.2 }) (fun _ => rfl), Eng.upd_keep (·.why) (fun x => { x with writes := mput x.writes w.1 w.2 }) (fun _ => rfl)]
  exact h
 lets e j h := h
theorem goesN_why (n : Nat) (e : Eng) (j i : Nat) (why : Int) (hw : i = j → why ≠ 0) : WhyOk j e → WhyOk j (goesN n e i why) :=
 goesN_keep (keeps_why j) (fun i why => i = j → why ≠ 0) (fun _ _ h _ => h) (fun e i why h he => by
  unfold WhyOk
  rw [Eng.mark_tx]
  split
  ·rename_i hc; intro _; exact h hc.1
  ·exact he) n e i why hw
theorem puts_why (e : Eng) (j i : Nat) (w : Int × Int) (h : WhyOk j e) : WhyOk j (e.puts i w) :=
 putsG_keep (keeps_why j) (fun e i why hw he => goesN_why _ e j i why (fun _ => hw) he) e i w h
theorem OkT.chased (h : OkT N e U) (n key : Int) : ∀ a, mget e.t.hold key = some a → ∃ m, chase e.t n m a = some (comesRound e.t n key) := by
 intro a ha
 obtain ⟨Q, hQ⟩ := h.tab
 obtain ⟨r, hr⟩ := hQ.rk
 obtain ⟨c, hc⟩ := chase_ends (hr.ranked hQ.tab) n (r a + 1) a (by omega)
 refine ⟨r a + 1, ?_⟩
 rw [hc]
 congr 1
 cases c with
 | true =>
  symm
  simp only [comesRound, decide_eq_true_eq]
  exact ⟨a, ha, r a + 1, hc⟩
 | false =>
  symm
  simp only [comesRound, decide_eq_false_iff_not]
  rintro ⟨a', ha', m, hm⟩
  rw [ha] at ha'; cases ha'
  exact absurd (chase_one hc hm) (by decide)
theorem asked_cases (h : OkT N e []) (hi : i < e.txs.length) (hs : (e.tx i).state = 0) {key : Int} (hk : keyOk key) :
  (tbAsk e.t ((i : Int) + 1) key (comesRound e.t ((i : Int) + 1) key) = (e.t, false, 11)) ∨
  (∃ t', tbAsk e.t ((i : Int) + 1) key (comesRound e.t ((i : Int) + 1) key) = (t', true, 0) ∧ OkT N { e with t := t' } []) ∨
  (∃ t', tbAsk e.t ((i : Int) + 1) key (comesRound e.t ((i : Int) + 1) key) = (t', false, 0) ∧ OkT (N + 200) ({ e with t := t' }.upd i fun x => { x with state := 1 }) []) := by
 have hw := h.wait_none (i := i) (by omega)
 have h0 : ¬ (key < 0 ∨ 10 ≤ key ∨ (i : Int) + 1 < 1) := by have := hk.1; have := hk.2; omega
 have hch := h.chased ((i : Int) + 1) key
 generalize comesRound e.t ((i : Int) + 1) key = c at *
 unfold tbAsk
 rw [if_neg h0, hw]
 simp only [Option.isSome_none, Bool.false_eq_true, if_false]
 cases hh : mget e.t.hold key with
 | none => exact .inr (.inl ⟨_, rfl, h.got hi hs hk hh⟩)
 | some a =>
  simp only
  by_cases ha : a = (i : Int) + 1
  ·rw [if_pos ha]; exact .inr (.inl ⟨_, rfl, h⟩)
  ·rw [if_neg ha]
   obtain ⟨m, hm⟩ := hch a hh
   cases c with
   | true => exact .inl rfl
   | false => exact .inr (.inr ⟨_, rfl, h.stands hi hs hk hh ha hm⟩)
theorem OkT.wanted (h : OkT N e U) (hi : i < e.txs.length) {w : Int × Int} (hk : keyOk w.1) (hv : valOk w.2) : OkT N (e.upd i fun x => { x with want := w }) U :=
 h.field (Nat.le_refl _) _ (fun _ => rfl) (fun _ => rfl) (fun _ => rfl) (fun _ => rfl) (fun _ => rfl) ⟨hk, hv⟩ (h.reads (e.tx i) (Eng.tx_mem hi))
theorem OkT.puts (h : OkT N e []) (hi : i < e.txs.length) (hs : (e.tx i).state = 0) {w : Int × Int} (hk : keyOk w.1) (hv : valOk w.2) : OkT (N + 200) (e.puts i w) [] :=
 (putsG_ok (goesOk e.open_) (h.to_put hi hs hk hv) (Nat.le_refl _)).1
theorem OkT.wrote (h : OkT N e []) (n key value : Int) : OkT (N + 1000) (e.write n key value).1 [] := by
 have hm := h.mono (M := N + 1000) (by omega)
 unfold Eng.write
 split
 ·exact hm
 ·rename_i herr
  obtain ⟨i, rfl, hi, hst⟩ := err_num (Decidable.not_not.1 herr)
  have hi2 : ((i : Int) + 1).toNat - 1 = i := by omega
  split
  ·exact hm
  ·rename_i hk
   split
   ·exact hm
   ·rename_i hv
    have hk := Decidable.not_not.1 hk
    have hv := Decidable.not_not.1 hv
    simp only [hi2]
    have h1 := h.wanted hi (w := (key, value)) hk hv
    have hlen : (e.upd i fun x => { x with want := (key, value) }).txs.length = e.txs.length := Eng.upd_len ..
    have hs1 : ((e.upd i fun x => { x with want := (key, value) }).tx i).state = 0 := (Eng.upd_keep (·.state) (fun x => { x with want := (key, value) }) (fun _ => rfl) i).trans (hst rfl)
    have ht : (e.upd i fun x => { x with want := (key, value) }).t = e.t := rfl
    generalize (e.upd i fun x => { x with want := (key, value) }) = e1 at *
    have hi1 : i < e1.txs.length := by omega
    have hc := asked_cases h1 hi1 hs1 hk
    rw [ht] at hc
    rcases hc with hc | ⟨t', hc, h2⟩ | ⟨t', hc, h2⟩ <;> rw [hc]
    ·simp only
     rw [if_pos (by decide)]
     have h2 : OkT N ({ e1 with t := e.t } : Eng) [] := by rw [← ht]; exact h1
     exact (goes_kept h2 hi1 (by simp only [Tx.alive, decide_eq_true_eq]; show (e1.tx i).state ≤ 1; omega) 11).mono (by omega)
    ·simp only
     rw [if_neg (by decide), if_neg (by decide)]
     have h3 := h2.puts hi1 hs1 (w := (key, value)) hk hv
     split
     ·exact h3.mono (by omega)
     ·exact h3.mono (by omega)
    ·simp only
     rw [if_neg (by decide), if_pos trivial]
     exact h2.mono (by omega)
end Go.Proofs.YtdlkjppppdminaaGreatDoor
namespace Go.Proofs.YtdlkjppppdminaaGreatDoor
open Go Go.RowKit Go.Sep
theorem want_eq (e : Eng) (i : Nat) (a c : Int) : (e.upd i fun x => { x with want := (a, x.want.2) }).upd i (fun x => { x with want := (x.want.1, c) }) = e.upd i fun x => { x with want := (a, c) } := by
 unfold Eng.upd
 simp only [Eng.mk.injEq, and_true, true_and]
 apply List.ext_getElem?
 intro j
 simp only [List.getElem?_modify]
 by_cases h : i = j
 ·subst h; cases e.txs[i]? <;> simp
 ·simp [h]
theorem OkT.lines {e : Eng} {N : Nat} {U : List Task} (h : OkT N e U) (k : Int) : (lineAt e.t k).length ≤ 1000000 := by
 obtain ⟨Q, hQ⟩ := h.tab
 have hf := h.few
 unfold lineAt
 rw [hQ.tab.line k]
 have := Go.Sep.few (S := (List.range e.txs.length).map fun m : Nat => (m : Int) + 1) (hQ.tab.nod k) (fun x hx => by
  have := hQ.key k x hx
  simp only [List.mem_map, List.mem_range]
  exact ⟨(x - 1).toNat, by omega, by omega⟩)
 simp only [List.length_map, List.length_range] at this
 rw [List.length_tail]; omega
set_option linter.unusedSimpArgs false in
set_option maxRecDepth 100000 in
set_option maxHeartbeats 8000000 in
theorem ewrite_any (w0 w : World) (b : Nat) (bs : List Nat) (e : Eng) (n key value : Int) (L : List HProp) (N : Nat) (hok : OkT N e []) (hN : N ≤ 90000000) (hs : S w0 w (engP b bs e :: L)) :
  Calls Tryz.prog 80 #[.pointer (some ⟨b, 0, none⟩), .int .i64 n, .int .i64 key, .int .i64 value] w fun r w' => r = .returned (.tuple #[.bool (e.write n key value).2.1, errV (e.write n key value).2.2]) ∧ S w0 w' (engP b bs (e.write n key value).1 :: L) := by
 have HS := hid hs
 obtain ⟨k, hs⟩ := hs.eng_open
 have hO : S w0 w (engO b bs k e :: storeP 99 b 0 e.V e.last :: tabP 3 b 11 e.t :: L) := hs.conv (by simp only [all]; ac_rfl)
 rcases e.err_cases n true with ⟨h1, h2⟩ | ⟨i, rfl, hi, ⟨h1, h2, h3⟩ | ⟨h1, h2⟩⟩
 ·have hf : e.write n key value = (e, false, 7) := by unfold Eng.write; rw [if_pos (by rw [h1]; decide), h1]
  have HF := hid hf; have HC := hid (of_miss w0 w b bs k e n true _ hO h2)
  clear hs hO h1 h2 hf hok
  go_enter Tryz.func80, Tryz.ntmps80
  go_wp2_with fail
  with_reducible refine HC.out.mono ?_
  rintro r w' ⟨rfl, rfl⟩
  go_wp2_with fail
  go_ret2
  exact ⟨by rw [HF.out]; rfl, by rw [HF.out]; exact HS.out⟩
 ·have hf : e.write ((i : Int) + 1) key value = (e, false, 6) := by unfold Eng.write; rw [if_pos (by rw [h1]; decide), h1]
  have HF := hid hf; have HC := hid (of_shut w0 w b bs k e i _ hO hi h3)
  clear hs hO h1 h2 h3 hf hok
  go_enter Tryz.func80, Tryz.ntmps80
  go_wp2_with fail
  with_reducible refine HC.out.mono ?_
  rintro r w' ⟨rfl, rfl⟩
  go_wp2_with fail
  go_ret2
  exact ⟨by rw [HF.out]; rfl, by rw [HF.out]; exact HS.out⟩
 ·have hi2 : ((i : Int) + 1).toNat - 1 = i := by omega
  have hc := of_ok w0 w b bs k e i true _ hO hi h2
  unfold ptr at hc
  have HC := hid hc
  by_cases hk0 : key < 0
  ·have hf : e.write ((i : Int) + 1) key value = (e, false, 2) := by
    unfold Eng.write; rw [if_neg (by rw [h1]; decide), if_pos (by unfold keyOk; omega)]
   have HF := hid hf
   clear hs hO h1 h2 hf hc hok hi2
   go_enter Tryz.func80, Tryz.ntmps80
   go_wp2_with fail
   with_reducible refine HC.out.mono ?_
   rintro r w' ⟨rfl, rfl⟩
   go_wp2_with fail
   go_ret2
   exact ⟨by rw [HF.out]; rfl, by rw [HF.out]; exact HS.out⟩
  by_cases hk1 : 10 ≤ key
  ·have hf : e.write ((i : Int) + 1) key value = (e, false, 2) := by
    unfold Eng.write; rw [if_neg (by rw [h1]; decide), if_pos (by unfold keyOk; omega)]
   have HF := hid hf
   clear hs hO h1 h2 hf hc hok hi2
   go_enter Tryz.func80, Tryz.ntmps80
   go_wp2_with fail
   with_reducible refine HC.out.mono ?_
   rintro r w' ⟨rfl, rfl⟩
   go_wp2_with fail
   go_ret2
   exact ⟨by rw [HF.out]; rfl, by rw [HF.out]; exact HS.out⟩
  have hk : keyOk key := by unfold keyOk; omega
  by_cases hv0 : value < -1099511627776
  ·have hf : e.write ((i : Int) + 1) key value = (e, false, 1) := by
    unfold Eng.write; rw [if_neg (by rw [h1]; decide), if_neg (by simpa using hk), if_pos (by unfold valOk; omega)]
   have HF := hid hf
   clear hs hO h1 h2 hf hc hok hi2 hk
   go_enter Tryz.func80, Tryz.ntmps80
   go_wp2_with fail
   with_reducible refine HC.out.mono ?_
   rintro r w' ⟨rfl, rfl⟩
   go_wp2_with fail
   go_ret2
   exact ⟨by rw [HF.out]; rfl, by rw [HF.out]; exact HS.out⟩
  by_cases hv1 : 1099511627776 < value
  ·have hf : e.write ((i : Int) + 1) key value = (e, false, 1) := by
    unfold Eng.write; rw [if_neg (by rw [h1]; decide), if_neg (by simpa using hk), if_pos (by unfold valOk; omega)]
   have HF := hid hf
   clear hs hO h1 h2 hf hc hok hi2 hk
   go_enter Tryz.func80, Tryz.ntmps80
   go_wp2_with fail
   with_reducible refine HC.out.mono ?_
   rintro r w' ⟨rfl, rfl⟩
   go_wp2_with fail
   go_ret2
   exact ⟨by rw [HF.out]; rfl, by rw [HF.out]; exact HS.out⟩
  have hv : valOk value := by unfold valOk; omega
  have hx := (hO.eng_txc hi).2
  have c7 := hx.want1
  have c8 := hx.want2
  have f7 := hx.free 7
  have f8 := hx.free 8
  obtain ⟨e1, he1⟩ : ∃ e1, (e.upd i fun x => { x with want := (key, value) }) = e1 := ⟨_, rfl⟩
  have hok1 : OkT N e1 [] := by rw [← he1]; exact hok.wanted hi (w := (key, value)) hk hv
  have hlen1 : e1.txs.length = e.txs.length := by rw [← he1]; exact Eng.upd_len ..
  have hs1 : (e1.tx i).state = 0 := by rw [← he1]; exact (Eng.upd_keep (·.state) (fun x => { x with want := (key, value) }) (fun _ => rfl) i).trans (h2 rfl)
  have hw1 : (e1.tx i).want = (key, value) := by rw [← he1, Eng.upd_self hi]
  have ht1 : e1.t = e.t := by rw [← he1]; rfl
  have hi1 : i < e1.txs.length := by omega
  have hst : S w0 ((w.setCell ⟨blkOf bs i, 7, none⟩ (.int .i64 key)).setCell ⟨blkOf bs i, 8, none⟩ (.int .i64 value)) (tabP 3 b 11 e.t :: storeP 99 b 0 e1.V e1.last :: engO b bs k e1 :: L) := by
   have g1 := hO.eng_set (j := 7) (u := .int .i64 key) hi (fun x => { x with want := (key, x.want.2) }) (by decide) rfl rfl rfl rfl rfl
   have g2 := g1.eng_set (j := 8) (u := .int .i64 value) (by rw [Eng.upd_len]; exact hi) (fun x => { x with want := (x.want.1, value) }) (by decide) rfl rfl rfl rfl rfl
   rw [want_eq, he1] at g2
   have e2 : e1.V = e.V := by rw [← he1]; rfl
   have e3 : e1.last = e.last := by rw [← he1]; rfl
   rw [e2, e3]
   exact g2.conv (by simp only [all]; ac_rfl)
  obtain ⟨Q, hQ⟩ := hok.tab
  obtain ⟨rk, hrk⟩ := hQ.rk
  have hask := task_any w0 _ b 11 e.t ((i : Int) + 1) key rk (comesRound e.t ((i : Int) + 1) key) _ hst (hrk.ranked hQ.tab) (hok.chased _ key) (hok.lines key)
  unfold AskPost at hask
  have hf : e.write ((i : Int) + 1) key value = (if (tbAsk e.t ((i : Int) + 1) key (comesRound e.t ((i : Int) + 1) key)).2.2 ≠ 0 then (({ e1 with t := (tbAsk e.t ((i : Int) + 1) key (comesRound e.t ((i : Int) + 1) key)).1 } : Eng).goes i 11, false, 11)
    else if (tbAsk e.t ((i : Int) + 1) key (comesRound e.t ((i : Int) + 1) key)).2.1 = false then (({ e1 with t := (tbAsk e.t ((i : Int) + 1) key (comesRound e.t ((i : Int) + 1) key)).1 } : Eng).upd i fun x => { x with state := 1 }, false, 0)
    else if ((({ e1 with t := (tbAsk e.t ((i : Int) + 1) key (comesRound e.t ((i : Int) + 1) key)).1 } : Eng).puts i (key, value)).tx i).state = 3 then (({ e1 with t := (tbAsk e.t ((i : Int) + 1) key (comesRound e.t ((i : Int) + 1) key)).1 } : Eng).puts i (key, value), false, ((({ e1 with t := (tbAsk e.t ((i : Int) + 1) key (comesRound e.t ((i : Int) + 1) key)).1 } : Eng).puts i (key, value)).tx i).why) else (({ e1 with t := (tbAsk e.t ((i : Int) + 1) key (comesRound e.t ((i : Int) + 1) key)).1 } : Eng).puts i (key, value), true, 0)) := by
   unfold Eng.write
   rw [if_neg (by rw [h1]; decide), if_neg (by simpa using hk), if_neg (by simpa using hv)]
   simp only [hi2, he1]
  have hcase := asked_cases hok1 hi1 hs1 hk
  rw [ht1] at hcase
  rcases hcase with hca | ⟨t', hca, hok2⟩ | ⟨t', hca, hok2⟩
  ·rw [hca] at hask hf
   simp only at hask hf
   rw [if_pos (by decide)] at hf
   have hok3 : OkT N ({ e1 with t := e.t } : Eng) [] := by rw [← ht1]; exact hok1
   have hgo := fun W h => goes_any ({ e1 with t := e.t } : Eng).open_ w0 W b bs _ i 11 L N [] hok3 hi1 (by simp only [Tx.alive, decide_eq_true_eq]; show (e1.tx i).state ≤ 1; omega) (by simp) (Nat.le_refl _) (by omega) h
   have HF := hid hf; have HA := hid hask; have HG := hid hgo
   clear hs hO h1 h2 hc hok hi2 hx hk hv he1 hok1 hlen1 hs1 hw1 ht1 hi1 hst hQ hrk hask hf hca hok3 hgo
   go_enter Tryz.func80, Tryz.ntmps80
   go_wp2_with fail
   with_reducible refine HC.out.mono ?_
   rintro r w' ⟨rfl, rfl⟩
   go_wp2_with fail
   with_reducible refine HA.out.mono ?_
   rintro r w3 ⟨rfl, hs3⟩
   have H3 := hid (S.eng_shut (k := k) (e := { e1 with t := e.t }) (hs3.conv (by simp only [all]; ac_rfl)))
   clear hs3 HA HC
   rw [show errV 11 = .iface 54 (.int .i64 11) from rfl]
   go_wp2_with fail
   with_reducible refine (HG.out _ H3.out).mono ?_
   rintro r w4 ⟨rfl, hs4⟩
   have H4 := hid hs4
   clear hs4 H3 HG
   go_wp2_with fail
   go_ret2
   exact ⟨by rw [HF.out]; rfl, by rw [HF.out]; exact H4.out⟩
  ·rw [hca] at hask hf
   simp only at hask hf
   rw [if_neg (by decide), if_neg (by decide)] at hf
   obtain ⟨e2, he2⟩ : ∃ e2 : Eng, ({ e1 with t := t' } : Eng) = e2 := ⟨_, rfl⟩
   rw [he2] at hf hok2
   have hi3 : i < e2.txs.length := by rw [← he2]; exact hi1
   have hs2 : (e2.tx i).state = 0 := by rw [← he2]; exact hs1
   have hw2 : (e2.tx i).want = (key, value) := by rw [← he2]; exact hw1
   have hput := hok2.to_put hi3 hs2 (w := (key, value)) hk hv
   have hwr := fun W h => writes_any e2.open_ (goes_any e2.open_) w0 W b bs e2 i key value L (N + 200) [] hput (Nat.le_refl _) (by omega) h
   rw [show putsG (goesN e2.open_) e2 i (key, value) = e2.puts i (key, value) from rfl] at hwr
   have hlen3 := puts_len e2 i (key, value)
   have hwhy := puts_why e2 i i (key, value) (fun h => by rw [hs2] at h; cases h)
   unfold WhyOk at hwhy
   have hst2 : ∀ W, S w0 W (tabP 3 b 11 t' :: storeP 99 b 0 e1.V e1.last :: engO b bs k e1 :: L) → S w0 W (engP b bs e2 :: L) := fun W h => by
    rw [← he2]
    exact S.eng_shut (k := k) (h.conv (by simp only [all]; ac_rfl))
   have hcl : ∀ W (e : Eng) M, i < e.txs.length → S w0 W (engP b bs e :: M) → W.cell? ⟨blkOf bs i, 7, none⟩ = some (.int .i64 (e.tx i).want.1) ∧ W.cell? ⟨blkOf bs i, 8, none⟩ = some (.int .i64 (e.tx i).want.2) ∧ W.cell? ⟨blkOf bs i, 1, none⟩ = some (.int .i64 (e.tx i).state) ∧ W.cell? ⟨blkOf bs i, 11, none⟩ = some (.int .i64 (e.tx i).why) := fun W e M hi h => by
    obtain ⟨k', g⟩ := h.eng_open
    have g2 : S w0 W (engO b bs k' e :: storeP 99 b 0 e.V e.last :: tabP 3 b 11 e.t :: M) := g.conv (by simp only [all]; ac_rfl)
    have g3 := (g2.eng_txc hi).2
    exact ⟨g3.want1, g3.want2, g3.state, g3.why⟩
   obtain ⟨e3, he3⟩ : ∃ e3, e2.puts i (key, value) = e3 := ⟨_, rfl⟩
   rw [he3] at hf hwr hlen3 hwhy
   have hi4 : i < e3.txs.length := by omega
   have hcl2 := fun W h => hcl W e2 L hi3 h
   rw [hw2] at hcl2
   have hcl3 := fun W h => hcl W e3 L hi4 h
   have HF := hid hf; have HA := hid hask; have HW := hid hwr; have HST := hid hst2; have HCL2 := hid hcl2; have HCL3 := hid hcl3; have HWHY := hid hwhy
   clear hs hO h1 h2 hc hok hi2 hx hk hv he1 hok1 hlen1 hs1 hw1 ht1 hi1 hst hQ hrk hask hf hca hok2 he2 hi3 hs2 hw2 hput hwr hlen3 hwhy hst2 hcl he3 hi4 hcl2 hcl3
   go_enter Tryz.func80, Tryz.ntmps80
   go_wp2_with fail
   with_reducible refine HC.out.mono ?_
   rintro r w' ⟨rfl, rfl⟩
   go_wp2_with fail
   with_reducible refine HA.out.mono ?_
   rintro r w3 ⟨rfl, hs3⟩
   have hs3 := HST.out _ hs3
   obtain ⟨d7, d8, _, _⟩ := HCL2.out _ hs3
   have H3 := hid hs3
   clear hs3 HA HC HST HCL2 c7 c8 f7 f8
   rw [show errV 0 = .nilIface from rfl]
   go_wp2_with fail
   with_reducible refine (HW.out _ H3.out).mono ?_
   rintro r w4 ⟨rfl, hs4⟩
   obtain ⟨_, _, d1, d11⟩ := HCL3.out _ hs4
   have H4 := hid hs4
   clear hs4 H3 HW HCL3
   by_cases hst3 : (e3.tx i).state = 3
   ·have hff : e.write ((i : Int) + 1) key value = (e3, false, (e3.tx i).why) := by rw [HF.out, if_pos hst3]
    have hne := HWHY.out hst3
    have HFF := hid hff
    have HE := hid (errV_ne hne)
    rw [hst3] at d1
    clear hst3 hff hne HF
    go_wp2_with fail
    go_quiet (fail)
    go_wp2_with fail
    go_ret2
    exact ⟨by rw [HFF.out, HE.out]; rfl, by rw [HFF.out]; exact H4.out.drewN nq⟩
   ·have hff : e.write ((i : Int) + 1) key value = (e3, true, 0) := by rw [HF.out, if_neg hst3]
    have hb3 : ((e3.tx i).state == 3) = false := by simpa using hst3
    have HFF := hid hff
    clear hst3 hff HF
    go_wp2_with fail
    go_ret2
    exact ⟨by rw [HFF.out]; rfl, by rw [HFF.out]; exact H4.out⟩
  ·rw [hca] at hask hf
   simp only at hask hf
   rw [if_neg (by decide), if_pos trivial] at hf
   have hi3 : i < ({ e1 with t := t' } : Eng).txs.length := hi1
   have hst2 : ∀ W, S w0 W (tabP 3 b 11 t' :: storeP 99 b 0 e1.V e1.last :: engO b bs k e1 :: L) → W.cell? ⟨blkOf bs i, 1, none⟩ = some (.int .i64 (e1.tx i).state) ∧ W.frozen? ⟨blkOf bs i, 1, none⟩ = false ∧ S w0 (W.setCell ⟨blkOf bs i, 1, none⟩ (.int .i64 1)) (engP b bs (({ e1 with t := t' } : Eng).upd i fun x => { x with state := 1 }) :: L) := fun W h => by
    have g : S w0 W (engO b bs k ({ e1 with t := t' } : Eng) :: storeP 99 b 0 e1.V e1.last :: tabP 3 b 11 t' :: L) := S.conv h (by
     show all (tabP 3 b 11 t' :: storeP 99 b 0 e1.V e1.last :: engO b bs k e1 :: L) = all (engO b bs k e1 :: storeP 99 b 0 e1.V e1.last :: tabP 3 b 11 t' :: L)
     simp only [all]; ac_rfl)
    have g0 := (g.eng_txc hi3).2
    have g1 := g.eng_set (j := 1) (u := .int .i64 1) hi3 (fun x => { x with state := 1 }) (by decide) rfl rfl rfl rfl rfl
    refine ⟨g0.state, g0.free 1, S.eng_shut (k := k) (e := ({ e1 with t := t' } : Eng).upd i fun x => { x with state := 1 }) (S.conv g1 ?_)⟩
    show all (engO b bs k (({ e1 with t := t' } : Eng).upd i fun x => { x with state := 1 }) :: storeP 99 b 0 e1.V e1.last :: tabP 3 b 11 t' :: L) = all (storeP 99 b 0 e1.V e1.last :: tabP 3 b 11 t' :: engO b bs k (({ e1 with t := t' } : Eng).upd i fun x => { x with state := 1 }) :: L)
    simp only [all]; ac_rfl
   have HF := hid hf; have HA := hid hask; have HST := hid hst2
   clear hs hO h1 h2 hc hok hi2 hx hk hv he1 hok1 hlen1 hs1 hw1 ht1 hi1 hst hQ hrk hask hf hca hok2 hi3 hst2
   go_enter Tryz.func80, Tryz.ntmps80
   go_wp2_with fail
   with_reducible refine HC.out.mono ?_
   rintro r w' ⟨rfl, rfl⟩
   go_wp2_with fail
   with_reducible refine HA.out.mono ?_
   rintro r w3 ⟨rfl, hs3⟩
   obtain ⟨d1, f1, hs4⟩ := HST.out _ hs3
   have H3 := hid hs4
   clear hs3 hs4 HA HC HST c7 c8 f7 f8
   rw [show errV 0 = .nilIface from rfl]
   go_wp2_with fail
   go_ret2
   exact ⟨by rw [HF.out]; rfl, by rw [HF.out]; exact H3.out⟩
end Go.Proofs.YtdlkjppppdminaaGreatDoor
