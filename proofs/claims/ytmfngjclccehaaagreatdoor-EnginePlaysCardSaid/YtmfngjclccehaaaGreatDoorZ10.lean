/- The library's slices.Sorted(maps.Keys(m)) at this translation: laid by the kit's tool. -/
import Derived.Test.YtmfngjclccehaaaGreatDoorZ0
import Derived.Test.YtmfngjclccehaaaGreatDoorZ8
import Derived.BigQuiet
import Derived.Lib.Builder
import Derived.Test.YtmfngjclccehaaaGreatDoorZ9
import Derived.Shelf.SlIterI.Nil
import Derived.Shelf.SortM.Plain
import Derived.Shelf.SortM.SortNone
import Derived.Ground.GgzProg
import Derived.Ground.SlgmProg
import Derived.Test.YtmfngjclccehaaaGreatDoorProg
/- The program's engine: goes, and frees: one that is gone, and who comes next. -/
namespace Go.Proofs.YtmfngjclccehaaaGreatDoor
open Go Go.RowKit Go.Sep
theorem _root_.Go.Sep.S.eng_count {w0 w : World} {b : Nat} {bs : List Nat} {k : EngV} {e : Eng} {L : List HProp} (h : S w0 w (engO b bs k e :: L)) (c : Int) : S w0 (w.setCell ⟨b, 15, none⟩ (.int .i64 c)) (engO b bs k { e with count := c } :: L) := by
 obtain ⟨hp, h⟩ := h.sep_elim.pur_elim
 obtain ⟨h1, h2⟩ := h.engG_parts
 have h3 := h2.set 1 (by simp) (.int .i64 c)
 exact .sep_intro (.pur_intro hp (S.engG_join h1 h3))
theorem eng_blk_ne {w0 w : World} {b : Nat} {bs : List Nat} {k : EngV} {e : Eng} {i : Nat} {L : List HProp} (h : S w0 w (engO b bs k e :: L)) (hi : i < e.txs.length) : blkOf bs i ≠ b := by
 intro he
 have h1 := (h.eng_tx hi).sep_elim.blk_heap
 obtain ⟨_, h2⟩ := h.sep_elim.pur_elim
 obtain ⟨_, h3⟩ := h2.engG_parts
 have h4 : S w0 w (shp b 67 18 :: cells b 14 [k.txv, .int .i64 e.count, .map (some k.wb), k.hv] :: sl 120 1 k.txv e.txs.length (ptrs bs (List.range e.txs.length)) :: mp encI (fun _ => True) k.wb (ienc e.wr) :: sl 129 4 k.hv e.hist.length (fcells opc e.hist) :: all (txPs bs k.tv e.txs) :: L) := h3.conv (by simp only [all]; ac_rfl)
 obtain ⟨c, hc, _⟩ := holds_shape (h4.at (b := b) (i := none) (t := .shape 67 18) (by rintro _ rfl; simp)).2
 rw [he, hc] at h1
 simp at h1
theorem mark_eq (e : Eng) (i : Nat) (why : Int) : ((({ e with count := e.count + 1 } : Eng).upd i fun x => { x with state := 3 }).upd i fun x => { x with why := why }).upd i (fun x => { x with ended := e.count + 1 }) = e.mark i why := by
 unfold Eng.mark Eng.upd
 simp only [Eng.mk.injEq, and_true, true_and]
 apply List.ext_getElem?
 intro j
 simp only [List.getElem?_modify]
 by_cases h : i = j
 ·subst h; cases e.txs[i]? <;> simp
 ·simp [h]
def FreesAny (n : Nat) : Prop := ∀ (w0 w : World) (b : Nat) (bs : List Nat) (e : Eng) (i : Nat) (L : List HProp) (N : Nat) (U : List Task), OkT N (e.lets i) ((e.heirs i).map .hand ++ U) → (e.lets i).open_ ≤ n → N ≤ 100000000 → (∀ k, (lineAt e.t k).length ≤ 1000000) → e.t.hold.length ≤ 1000000 → (e.heirs i).length ≤ 1000000 → S w0 w (engP b bs e :: L) →
 Calls Tryz.prog 63 #[.pointer (some ⟨b, 0, none⟩), .int .i64 ((i : Int) + 1)] w fun r w' => r = .returned (.tuple #[]) ∧ S w0 w' (engP b bs (freesG (goesN n) e i) :: L)
set_option maxRecDepth 40000 in
set_option maxHeartbeats 8000000 in
theorem goes_step (n : Nat) (hf : FreesAny n) : GoesAny (n + 1) := by
 intro w0 w b bs e i why L N U hok hi ha hne ho hN hs
 obtain ⟨h1, h2⟩ := hok.left hi ha hne why
 obtain ⟨k, hs⟩ := hs.eng_open
 have hO : S w0 w (engO b bs k e :: storeP 107 b 0 e.V e.last :: tabP 3 b 11 e.t :: L) := hs.conv (by simp only [all]; ac_rfl)
 have hc := hO.eng_c.2
 have c14 := hc.txs
 have c15 := hc.count
 have f15 := hc.free 15 (by omega) (by omega)
 obtain ⟨a, cap, hv, hle, hcap, hrow⟩ := hc.row
 obtain ⟨g, o, rfl, ci⟩ := hrow i hi
 rw [hv] at c14
 unfold maxLen at hcap
 unfold ptr at ci
 have hx := (hO.eng_txc hi).2
 have x1 := hx.state
 have x11 := hx.why
 have x4 := hx.ended
 have fx := hx.free
 have hbb := eng_blk_ne hO hi
 have hcnt := hok.cnt
 have hfew := hok.few
 have hs1 := hO.eng_count (e.count + 1)
 have hi1 : i < ({ e with count := e.count + 1 } : Eng).txs.length := hi
 have hs2 := hs1.eng_set hi1 (fun x => { x with state := 3 }) (j := 1) (u := .int .i64 3) (by omega) rfl rfl rfl rfl rfl
 have hs3 := hs2.eng_set (by rw [Eng.upd_len]; exact hi1) (fun x => { x with why := why }) (j := 11) (u := .int .i64 why) (by omega) rfl rfl rfl rfl rfl
 have hs4 := hs3.eng_set (by rw [Eng.upd_len, Eng.upd_len]; exact hi1) (fun x => { x with ended := e.count + 1 }) (j := 4) (u := .int .i64 (e.count + 1)) (by omega) rfl rfl rfl rfl rfl
 rw [mark_eq] at hs4
 have hs5 := S.eng_shut (e := e.mark i why) (hs4.conv (M := storeP 107 b 0 e.V e.last :: tabP 3 b 11 e.t :: engO b bs k (e.mark i why) :: L) (by simp only [all]; ac_rfl))
 obtain ⟨Q, hQ⟩ := hok.tab
 have hlen : ∀ kk, (lineAt e.t kk).length ≤ 1000000 := by
  intro kk
  unfold lineAt
  rw [hQ.tab.line kk]
  have := few (S := (List.range e.txs.length).map fun m : Nat => (m : Int) + 1) (hQ.tab.nod kk) (fun x hx => by
   have := hQ.key kk x hx
   simp only [List.mem_map, List.mem_range]
   exact ⟨(x - 1).toNat, by omega, by omega⟩)
  simp only [List.length_map, List.length_range] at this
  rw [List.length_tail]; omega
 have hhold : e.t.hold.length ≤ 10 := by
  have := few (S := [0, 1, 2, 3, 4, 5, 6, 7, 8, 9]) hQ.hold (fun kk hk => by
   obtain ⟨p, hp, rfl⟩ := List.mem_map.1 hk
   have h1 := mget_mem hQ.hold (show (p.1, p.2) ∈ e.t.hold from hp)
   rw [hQ.tab.hold] at h1
   cases hq : Q p.1 with
   | nil => rw [hq] at h1; simp at h1
   | cons a l => have := (hQ.key p.1 a (by rw [hq]; simp)).1; unfold keyOk at this; simp; omega)
  simpa using this
 have hheirs : (e.heirs i).length ≤ 1000000 := by
  have h3 : ((e.heirs i).map (·.2)).length ≤ e.txs.length := by
   have hap := h1.apart
   rw [List.map_append, List.nodup_append] at hap
   have := few (S := (List.range e.txs.length).map fun m : Nat => (m : Int) + 1) (l := ((e.heirs i).map (·.2))) (by
    have := hap.1
    rw [List.map_map] at this
    exact List.pairwise_map.2 ((List.pairwise_map.1 this).imp fun h e1 => h (by simp only [Function.comp, Task.who]; rw [e1]))) (fun x hx => by
    obtain ⟨p, hp, rfl⟩ := List.mem_map.1 hx
    have h4 := h1.ok (.hand p) (List.mem_append_left _ (List.mem_map_of_mem hp))
    have h5 := h4.lt
    have h6 := (h4.hand p rfl).1
    simp only [Task.who] at h5
    rw [show (e.left i why).txs.length = e.txs.length from Eng.mark_len e i why] at h5
    simp only [List.mem_map, List.mem_range]
    exact ⟨p.2.toNat - 1, h5, by omega⟩)
   simpa using this
  rw [List.length_map] at h3; omega
 have hcall := hf w0 _ b bs (e.mark i why) i L N U h1 (by show (e.left i why).open_ ≤ n; omega) hN hlen (by show e.t.hold.length ≤ 1000000; omega) hheirs hs5
 have HC := hid hcall
 have hbb' := Ne.symm hbb
 clear hok h1 h2 hs hO hc hv hrow hx hs1 hs2 hs3 hs4 hs5 hQ hlen hhold hheirs hcall hf ha hne
 go_enter Tryz.func58, Tryz.ntmps58
 go_wp2_with fail
 with_reducible refine HC.out.mono ?_
 rintro r w' ⟨rfl, hs'⟩
 have H4 := hid hs'
 clear hs'
 go_wp2_with fail
 go_end0
 exact ⟨rfl, H4.out⟩
set_option linter.unusedSimpArgs false in
set_option maxRecDepth 100000 in
set_option maxHeartbeats 20000000 in
theorem frees_step (n : Nat) (hg : GoesAny n) : FreesAny n := by
 intro w0 w b bs e i L N U hok ho hN hlen hhold hheirs hs
 obtain ⟨k, hs⟩ := hs.eng_open
 have hcall := tdrop_any w0 w b 11 e.t ((i : Int) + 1) (storeP 107 b 0 e.V e.last :: engO b bs k e :: L) (hs.conv (by simp only [all]; ac_rfl)) hlen hhold
 have hfin : ∀ W v, S w0 W (sl 101 2 v (tbDrop e.t ((i : Int) + 1)).2.length (pcells (tbDrop e.t ((i : Int) + 1)).2) :: tabP 3 b 11 (tbDrop e.t ((i : Int) + 1)).1 :: storeP 107 b 0 e.V e.last :: engO b bs k e :: L) → S w0 W (sl 101 2 v (e.heirs i).length (pcells (e.heirs i)) :: engP b bs (e.lets i) :: L) := fun W v h => by
  have h1 : S w0 W (storeP 107 b 0 (e.lets i).V (e.lets i).last :: tabP 3 b 11 (e.lets i).t :: engO b bs k (e.lets i) :: sl 101 2 v (e.heirs i).length (pcells (e.heirs i)) :: L) := h.conv (by
   simp only [all]
   show sep (sl _ 2 v (tbDrop e.t ((i : Int) + 1)).2.length (pcells (tbDrop e.t ((i : Int) + 1)).2)) (sep (tabP _ b 11 (tbDrop e.t ((i : Int) + 1)).1) (sep (storeP _ b 0 e.V e.last) (sep (engO b bs k e) (all L)))) = sep (storeP _ b 0 e.V e.last) (sep (tabP _ b 11 (tbDrop e.t ((i : Int) + 1)).1) (sep (engO b bs k e) (sep (sl _ 2 v (tbDrop e.t ((i : Int) + 1)).2.length (pcells (tbDrop e.t ((i : Int) + 1)).2)) (all L))))
   ac_rfl)
  exact h1.eng_shut.swap
 have hfr : freesG (goesN n) e i = freesL (goesN n) (e.heirs i) (e.lets i) := rfl
 have HC := hid hcall; have HFI := hid hfin; have HFR := hid hfr; have HOK := hid hok; have HO := hid ho; have HG := hid hg
 clear hs hcall hfin hfr hlen hhold hok ho hg
 go_enter Tryz.func63, Tryz.ntmps63
 go_wp2_with fail
 with_reducible refine HC.out.mono ?_
 rintro r w1 ⟨v', rfl, hs1⟩
 have hs2 := HFI.out _ _ hs1
 obtain ⟨al, cl, rfl, hcl, hcl2, _⟩ := hs2.sl_val
 unfold maxLen at hcl2
 generalize e.heirs i = l at *
 generalize e.lets i = e0 at *
 have H2 := hid hs2
 clear hs1 hs2 HC HFI
 go_wp2_with fail
 go_loopw [13] (fun c wr => ∃ (m : Nat) (e1 : Eng), m ≤ l.length ∧ c = .int .i64 m ∧ Hid (OkT N e1 ((l.drop m).map .hand ++ U)) ∧ Hid (e1.open_ ≤ n) ∧ Hid (freesL (goesN n) l e0 = freesL (goesN n) (l.drop m) e1) ∧ S w0 wr (sl 101 2 (.slice al l.length cl) l.length (pcells l) :: engP b bs e1 :: L)) (fun c _ => l.length - (intOf c).toNat)
 case atStart => exact ⟨0, e0, Nat.zero_le _, rfl, HOK, HO, hid rfl, H2.out⟩
 case round =>
  rename World => wr
  obtain ⟨m, e1, hm, rfl, hok1, ho1, hf1, hsr⟩ := hrel
  clear H2 HOK HO
  by_cases hlt : m < l.length
  ·have hp : l[m]? = some l[m] := by simp [hlt]
   have hd : l.drop m = l[m] :: l.drop (m + 1) := List.drop_eq_getElem_cons hlt
   generalize l[m] = p at hp hd
   have hok2 := hok1.out
   have hf2 := hf1.out
   rw [hd] at hok2 hf2
   have hk := hok2.ok (.hand p) (by simp)
   have hj := hk.lt
   obtain ⟨hp1, hst, _⟩ := hk.hand p rfl
   have hand := OkT.hand (U := (l.drop (m + 1)).map .hand ++ U) hok2
   obtain ⟨pk, pv⟩ := p
   simp only [Task.who] at hj hst hp1 hand
   obtain ⟨j, rfl⟩ : ∃ j : Nat, pv = (j : Int) + 1 := ⟨(pv - 1).toNat, by omega⟩
   have hjj : ((j : Int) + 1).toNat - 1 = j := by omega
   rw [hjj] at hj hst hand
   have hwant : ((e1.opens j).tx j).want = (e1.tx j).want := Eng.upd_keep (·.want) (fun x => { x with state := 0 }) (fun _ => rfl) j
   have hf3 : freesL (goesN n) l e0 = freesL (goesN n) (l.drop (m + 1)) (putsG (goesN n) (e1.opens j) j ((e1.tx j).want.1, (e1.tx j).want.2)) := by
    rw [hf2]
    show freesL (goesN n) (l.drop (m + 1)) (putsG (goesN n) (e1.opens (((j : Int) + 1).toNat - 1)) (((j : Int) + 1).toNat - 1) ((e1.opens (((j : Int) + 1).toNat - 1)).tx (((j : Int) + 1).toNat - 1)).want) = _
    rw [hjj, hwant]
   have hop : (e1.opens j).open_ = e1.open_ := by
    have := Eng.many_upd hj Tx.alive (fun x => { x with state := 0 })
    rw [if_pos (by simp [Tx.alive, hst]), if_pos (by simp [Tx.alive])] at this
    unfold Eng.opens Eng.open_; unfold Eng.many at this; omega
   obtain ⟨gl, ol, rfl, _, d0, d1⟩ := hsr.sl_pair hp
   obtain ⟨k1, hse⟩ := hsr.swap.eng_open
   have hsx := hse.alloc #[.int .i64 pk, .int .i64 ((j : Int) + 1)] 101
   have hO : S w0 _ (engO b bs k1 e1 :: blk wr.heap.size 101 [.int .i64 pk, .int .i64 ((j : Int) + 1)] :: storeP 107 b 0 e1.V e1.last :: tabP 3 b 11 e1.t :: sl 101 2 (.slice (some ⟨gl, ol, none⟩) l.length cl) l.length (pcells l) :: L) := hsx.conv (by simp only [all]; ac_rfl)
   have b1 := hsx.blk_cell 1 rfl
   have hc := hO.eng_c.2
   have c14 := hc.txs
   obtain ⟨a, cap, hv, hle, hcap, hrow⟩ := hc.row
   obtain ⟨g, o, rfl, ci⟩ := hrow j hj
   rw [hv] at c14
   unfold maxLen at hcap
   unfold ptr at ci
   have hx := (hO.eng_txc hj).2
   have x1 := hx.state
   have fx := hx.free
   have hset : ∀ nq, S w0 (((wr.alloc (.cells #[.int .i64 pk, .int .i64 ((j : Int) + 1)] 101)).drewN nq).setCell ⟨blkOf bs j, 1, none⟩ (.int .i64 0)) (engO b bs k1 (e1.opens j) :: blk wr.heap.size 101 [.int .i64 pk, .int .i64 ((j : Int) + 1)] :: storeP 107 b 0 e1.V e1.last :: tabP 3 b 11 e1.t :: sl 101 2 (.slice (some ⟨gl, ol, none⟩) l.length cl) l.length (pcells l) :: L) := fun nq =>
    (hO.drewN nq).eng_set hj (fun x => { x with state := 0 }) (j := 1) (u := .int .i64 0) (by omega) rfl rfl rfl rfl rfl
   have hj2 : j < (e1.opens j).txs.length := by unfold Eng.opens; rw [Eng.upd_len]; exact hj
   have hq : ∀ W, S w0 W (engO b bs k1 (e1.opens j) :: blk wr.heap.size 101 [.int .i64 pk, .int .i64 ((j : Int) + 1)] :: storeP 107 b 0 e1.V e1.last :: tabP 3 b 11 e1.t :: sl 101 2 (.slice (some ⟨gl, ol, none⟩) l.length cl) l.length (pcells l) :: L) → W.cell? ⟨wr.heap.size, 1, none⟩ = some (.int .i64 ((j : Int) + 1)) ∧ W.cell? ⟨blkOf bs j, 7, none⟩ = some (.int .i64 (e1.tx j).want.1) ∧ W.cell? ⟨blkOf bs j, 8, none⟩ = some (.int .i64 (e1.tx j).want.2) := fun W h => by
    have hx := (h.eng_txc hj2).2
    have w1 := hx.want1
    have w2 := hx.want2
    rw [hwant] at w1 w2
    exact ⟨h.tail.blk_cell 1 rfl, w1, w2⟩
   have hput := putsG_ok (goesOk n) hand (by rw [hop]; exact ho1.out)
   have hwr : ∀ W, S w0 W (engO b bs k1 (e1.opens j) :: blk wr.heap.size 101 [.int .i64 pk, .int .i64 ((j : Int) + 1)] :: storeP 107 b 0 e1.V e1.last :: tabP 3 b 11 e1.t :: sl 101 2 (.slice (some ⟨gl, ol, none⟩) l.length cl) l.length (pcells l) :: L) →
     Calls Tryz.prog 62 #[.pointer (some ⟨b, 0, none⟩), .int .i64 ((j : Int) + 1), .agg #[.int .i64 (e1.tx j).want.1, .int .i64 (e1.tx j).want.2]] W fun r w' => r = .returned (.tuple #[]) ∧ S w0 w' (sl 101 2 (.slice (some ⟨gl, ol, none⟩) l.length cl) l.length (pcells l) :: engP b bs (putsG (goesN n) (e1.opens j) j ((e1.tx j).want.1, (e1.tx j).want.2)) :: L) := fun W h => by
    have h2 : S w0 W (engP b bs (e1.opens j) :: sl 101 2 (.slice (some ⟨gl, ol, none⟩) l.length cl) l.length (pcells l) :: L) := S.eng_shut (e := e1.opens j) (S.tail (P := blk wr.heap.size 101 [.int .i64 pk, .int .i64 ((j : Int) + 1)]) (h.conv (by
     simp only [all]
     show _ = sep _ (sep (storeP _ b 0 e1.V e1.last) (sep (tabP _ b 11 e1.t) _))
     ac_rfl)))
    exact (writes_any n HG.out w0 W b bs (e1.opens j) j _ _ _ N _ hand (by rw [hop]; exact ho1.out) hN h2).mono fun r w' h => ⟨h.1, h.2.swap⟩
   have HSET := hid hset; have HQ := hid hq; have HWR := hid hwr; have HF3 := hid hf3; have HPUT := hid hput; have HOP := hid hop
   clear hp hd hok2 hf2 hk hand hf3 hop hsr hse hsx hO hc hv hrow hx hset hq hput hwr hwant hok1 hf1 hj2 hst
   go_wp2_with fail
   go_quiet (fail)
   go_wp2_with fail
   have HR0 := hid (HSET.out nq)
   refine region_U (S := fun w' => w'.cell? ⟨wr.heap.size, 1, none⟩ = some (.int .i64 ((j : Int) + 1)) ∧ w'.cell? ⟨blkOf bs j, 7, none⟩ = some (.int .i64 (e1.tx j).want.1) ∧ w'.cell? ⟨blkOf bs j, 8, none⟩ = some (.int .i64 (e1.tx j).want.2)) (u := 7) (by kernel_rfl) (HQ.out _ HR0.out.drew) (fun hHeld => ?_)
   refine anyU_take (i := 0) (v := ?_) rfl (by kernel_rfl) (fun _ _ _ h => h) (Or.inl ⟨by rfl, ?_⟩) hHeld ?_
   rotate_left
   ·(intro w hSw; (try dsimp only at hSw); go_simp) <;> with_reducible rfl
   try simp only [putU]
   refine anyU_pure (i := 1) (v := ?_) rfl (by kernel_rfl) (fun _ _ _ h => h) (Or.inl ⟨by rfl, ?_⟩) (fun _ => hHeld) ?_
   rotate_left
   ·(intro w _; go_simp) <;> with_reducible rfl
   try simp only [putU]
   refine anyU_take (i := 2) (v := ?_) rfl (by kernel_rfl) (fun _ _ _ h => h) (Or.inl ⟨by rfl, ?_⟩) hHeld ?_
   rotate_left
   ·(intro w hSw; (try dsimp only at hSw); go_simp) <;> with_reducible rfl
   try simp only [putU]
   refine anyU_pure (i := 3) (v := ?_) rfl (by kernel_rfl) (fun _ _ _ h => h) (Or.inl ⟨by rfl, ?_⟩) (fun _ => hHeld) ?_
   rotate_left
   ·(intro w _; go_simp) <;> with_reducible rfl
   try simp only [putU]
   refine anyU_pure (i := 4) (v := ?_) rfl (by kernel_rfl) (fun _ _ _ h => h) (Or.inl ⟨by rfl, ?_⟩) (fun _ => hHeld) ?_
   rotate_left
   ·(intro w _; go_simp) <;> with_reducible rfl
   try simp only [putU]
   refine anyU_pure (i := 5) (v := ?_) rfl (by kernel_rfl) (fun _ _ _ h => h) (Or.inl ⟨by rfl, ?_⟩) (fun _ => hHeld) ?_
   rotate_left
   ·(intro w _; go_simp) <;> with_reducible rfl
   try simp only [putU]
   refine anyU_take (i := 6) (v := ?_) rfl (by kernel_rfl) (fun _ _ _ h => h) (Or.inl ⟨by rfl, ?_⟩) hHeld ?_
   rotate_left
   ·(intro w hSw; (try dsimp only at hSw); go_simp) <;> with_reducible rfl
   try simp only [putU]
   have HS := hid HR0.out.drew
   clear hHeld
   refine anyU_world (fun w => Hid (S w0 w _)) HS (fun w1 HS => ?_)
   refine anyU_next (rs := [7]) (by kernel_rfl) (by simp) ?_
   refine NextU.cons rfl (fun K hK => ?_) ?_
   ·go_simp
    go_wp2_with (go_at_call 62; with_reducible refine (HWR.out _ HS.out).mono ?_; rintro r w5 ⟨rfl, hs5⟩; have H5 := hid hs5; clear hs5)
    refine hK.out _ _ (fun h => Bool.noConfusion (show true = false from h)) ?_
    clear hK K
    refine anyU_done (by kernel_rfl) ?_ _
    go_wp2_with fail
    go_roundw
    case rel => exact ⟨m + 1, _, by omega, by go_num, hid HPUT.out.1, hid (by have := HPUT.out.2.1; rw [HOP.out] at this; exact Nat.le_trans this ho1.out), HF3, H5.out⟩
    case measure => simp [intOf]; omega
   exact NextU.nil
  ·have hd : l.drop m = [] := List.drop_eq_nil_iff.2 (by omega)
   have hf2 := hf1.out
   rw [hd] at hf2
   have HF2 := hid hf2; have HSR := hid hsr
   clear hd hf2 hsr hf1 hok1
   go_wp2_with fail
   go_end0
   exact ⟨rfl, by rw [HFR.out, HF2.out]; exact HSR.out.tail⟩
theorem goes_any : ∀ n, GoesAny n
 | 0 => fun w0 w b bs e i why L N U hok hi ha hne ho hN hs => by
  have : 1 ≤ e.open_ := Eng.many_pos hi ha
  omega
 | n + 1 => goes_step n (frees_step n (goes_any n))
theorem frees_any (n : Nat) : FreesAny n := frees_step n (goes_any n)
end Go.Proofs.YtmfngjclccehaaaGreatDoor
/- The program's engine: whom a strict reader must be ahead of. -/
namespace Go.Proofs.YtmfngjclccehaaaGreatDoor
open Go Go.RowKit Go.Sep
theorem neqT_same (w : World) (p : Nat) : (binOp .neq 120 (.pointer (some ⟨p, 0, none⟩)) (.pointer (some ⟨p, 0, none⟩))).run Tryz.prog w = .ok (.bool false) w := by
 obtain ⟨j, hj, _⟩ := Option.map_eq_some_iff.1 tx_size
 exact Lib.run_neq_ptr_same w ⟨p, 0, none⟩ Tryz.underlying120 hj
theorem neqT_other {w0 w : World} {b : Nat} {bs : List Nat} {k : EngV} {e : Eng} {i m : Nat} {L : List HProp} (hs : S w0 w (engO b bs k e :: L)) (hi : i < e.txs.length) (hm : m < e.txs.length) (hne : blkOf bs m ≠ blkOf bs i) :
  (binOp .neq 120 (.pointer (some ⟨blkOf bs m, 0, none⟩)) (.pointer (some ⟨blkOf bs i, 0, none⟩))).run Tryz.prog w = .ok (.bool true) w := by
 obtain ⟨j, hj, hsz⟩ := Option.map_eq_some_iff.1 tx_size
 have ha := (hs.eng_tx hm).sep_elim.blk_heap
 have hb := (hs.eng_tx hi).sep_elim.blk_heap
 have hne' : (⟨blkOf bs m, 0, none⟩ : Addr) ≠ ⟨blkOf bs i, 0, none⟩ := fun e1 => hne (congrArg Addr.block e1)
 have h : ∀ d : Nat, (Op.equalIn (d + 1) 120 (.pointer (some ⟨blkOf bs m, 0, none⟩)) (.pointer (some ⟨blkOf bs i, 0, none⟩))).run Tryz.prog w = .ok false w := fun d => by
  simp [Op.equalIn, run_underlying Tryz.underlying120, sizeOf, typeInfo, hj, hsz, run_sameAddr_other w hne' ha hb]
 simp only [binOp]
 simp [Op.equal, Op.maxDepth, h 9999]
set_option maxRecDepth 100000 in
set_option maxHeartbeats 20000000 in
theorem saw_any (w0 w : World) (b : Nat) (bs : List Nat) (e : Eng) (i : Nat) (key : Int) (L : List HProp) (N : Nat) (U : List Task) (hok : OkT N e U) (hi : i < e.txs.length) (ha : (e.tx i).alive = true) (hkey : keyOk key) (hN : N ≤ 100000000) (hs : S w0 w (engP b bs e :: L)) :
  Calls Tryz.prog 57 #[.pointer (some ⟨b, 0, none⟩), ptr bs i, .int .i64 key] w fun r w' => r = .returned (.bool (e.sees i key).2) ∧ S w0 w' (engP b bs (e.sees i key).1 :: L) := by
 obtain ⟨k, hs⟩ := hs.eng_open
 have hq : ∀ W M, S w0 W (storeP 107 b 0 e.V e.last :: tabP 3 b 11 e.t :: engO b bs k e :: M) → W.cell? ⟨blkOf bs i, 2, none⟩ = some (.int .i64 (e.tx i).start) := fun W M h => (h.tail.tail.eng_txc hi).2.start
 have HS := hid hs; have HQ := hid hq; have HOK := hid hok
 have q0 := hq _ _ hs.drew
 have hrl := hok.row_le
 clear hs hq hok
 unfold ptr
 go_enter Tryz.func57, Tryz.ntmps57
 go_wp2_with fail
 go_region_held_law (fun w' => w'.cell? ⟨blkOf bs i, 2, none⟩ = some (.int .i64 (e.tx i).start)) (first | (with_reducible assumption) | (with_reducible exact q0) | (with_reducible exact q1))
  ((go_at_call 81; with_reducible refine (enewer_any w0 _ b e key _ _ N _ HOK.out hkey HS.out.drew).mono ?_; rintro r w2 ⟨an, cn, rfl, hcn, hcn2, hs2⟩; have q1 := HQ.out _ _ hs2.tail; have G2 := hid hs2; clear hs2))
 have hsees : e.sees i key = (if (sawNew i (newerL (e.row key) (e.tx i).start) e).2 = true then (sawOpen i key (List.range (sawNew i (newerL (e.row key) (e.tx i).start) e).1.txs.length) (sawNew i (newerL (e.row key) (e.tx i).start) e).1, true) else sawNew i (newerL (e.row key) (e.tx i).start) e) := rfl
 have hnl : (newerL (e.row key) (e.tx i).start).length ≤ 401 := by
  refine Nat.le_trans (m := (e.row key).length) ?_ ?_
  ·unfold newerL; rw [List.length_map]; exact List.length_filter_le _ _
  ·unfold Eng.row
   cases hr : e.V[key.toNat]? with
   | none => simp
   | some vs => exact hrl vs (List.mem_of_getElem? hr)
 generalize newerL (e.row key) (e.tx i).start = nl at *
 have HSE := hid hsees
 clear hsees hrl q0
 unfold maxLen at hcn2
 have H3 := hid G2.out
 clear G2 HS
 go_wp2_with fail
 go_loopw [30] (fun c wr => ∃ (m : Nat) (e1 : Eng) (k1 : EngV), m ≤ nl.length ∧ c = .int .i64 m ∧ Hid (k1.txv = k.txv) ∧ Hid (OkT (N + m) e1 U) ∧ Hid (e1.txs.length = e.txs.length ∧ e1.wr = e.wr ∧ (e1.tx i).alive = true) ∧ Hid (sawNew i nl e = sawNew i (nl.drop m) e1) ∧ S w0 wr (sl 3 1 (.slice an nl.length cn) nl.length (icells nl) :: storeP 107 b 0 e1.V e1.last :: tabP 3 b 11 e1.t :: engO b bs k1 e1 :: L)) (fun c _ => nl.length - (intOf c).toNat)
 case atStart => exact ⟨0, e, k, Nat.zero_le _, rfl, hid rfl, HOK, hid ⟨rfl, rfl, ha⟩, hid rfl, H3.out⟩
 case round =>
  rename World => wr
  obtain ⟨m, e1, k1, hm, rfl, hk1, hok1, hsm1, hf1, hsr⟩ := hrel
  clear H3
  by_cases hlt : m < nl.length
  ·have hp : nl[m]? = some nl[m] := by simp [hlt]
   have hd : nl.drop m = nl[m] :: nl.drop (m + 1) := List.drop_eq_getElem_cons hlt
   generalize nl[m] = t at hp hd
   have hf2 := hf1.out
   rw [hd] at hf2
   obtain ⟨gn, on, rfl, _, c1⟩ := hsr.sl_int hp
   have hO : S w0 wr (engO b bs k1 e1 :: storeP 107 b 0 e1.V e1.last :: tabP 3 b 11 e1.t :: sl 3 1 (.slice (some ⟨gn, on, none⟩) nl.length cn) nl.length (icells nl) :: L) := hsr.conv (by simp only [all]; ac_rfl)
   have hc := hO.eng_c.2
   have c16 := hc.wr
   have lk := Tryz.look1 hc.map t
   have hi1 : i < e1.txs.length := by rw [hsm1.out.1]; exact hi
   by_cases hkk : 0 < (mget e1.wr t).getD 0
   ·obtain ⟨kk, hkv⟩ : ∃ kk, mget e1.wr t = some kk := by
     cases hx : mget e1.wr t with
     | none => rw [hx] at hkk; simp at hkk
     | some kk => exact ⟨kk, rfl⟩
    obtain ⟨g1, g2, g3⟩ := hok1.out.wr t kk hkv
    obtain ⟨j, rfl⟩ : ∃ j : Nat, kk = (j : Int) + 1 := ⟨(kk - 1).toNat, by omega⟩
    have hjj : ((j : Int) + 1).toNat - 1 = j := by omega
    rw [hjj] at g3
    have hj : j < e1.txs.length := by omega
    have hij : i ≠ j := by
     intro h; subst h
     have := hsm1.out.2.2
     simp [Tx.alive, g3] at this
    rw [hkv] at lk
    simp only [Option.getD_some] at lk
    have c14 := hc.txs
    obtain ⟨a, cap, hv, hle, hcap, hrow⟩ := hc.row
    obtain ⟨g, o, rfl, ci⟩ := hrow j hj
    rw [hv] at c14
    unfold maxLen at hcap
    unfold ptr at ci
    have hstr := strict_eng w0 wr b bs k1 e1 j _ hO hj
    have hbnd : ∀ j, j < e1.txs.length → (e1.tx j).aft.length + 1 ≤ 1000000000000 ∧ (e1.tx j).fore.length + 1 ≤ 1000000000000 := fun j hj => by have := hok1.out.fits _ (Eng.tx_mem hj); omega
    have hcall := noted_any w0 wr b bs k1 e1 i j _ hO hi1 hj hij (hbnd i hi1).1 (hbnd j hj).2 (fun x hx => (hok1.out.txs x hx).refs)
    unfold ptr at hcall
    have hnext : sawNew i (t :: nl.drop (m + 1)) e1 = if (e1.tx j).strict = true then (if (e1.note i j).bad i j = true then (e1.note i j, false) else sawNew i (nl.drop (m + 1)) (e1.note i j)) else sawNew i (nl.drop (m + 1)) e1 := by
     rw [sawNew]
     simp only [hkv, Option.getD_some, hjj]
     by_cases hst : (e1.tx j).strict = true
     ·rw [if_pos ⟨by omega, hst⟩, if_pos hst]
     ·rw [if_neg (fun h => hst h.2), if_neg hst]
    rw [hnext] at hf2
    have hkp : (0 : Int) < (j : Int) + 1 := by omega
    have HC := hid hcall; have HSTR := hid hstr; have HF2 := hid hf2; have HSR := hid hsr
    have hok2 := hok1.out.note1 hi1 hj
    have HOK2 := hid hok2
    have hsm2 : (e1.note i j).txs.length = e.txs.length ∧ (e1.note i j).wr = e.wr ∧ ((e1.note i j).tx i).alive = true := ⟨by rw [Eng.note_len]; exact hsm1.out.1, hsm1.out.2.1, by rw [Eng.note_keep Tx.alive (fun _ _ => rfl) (fun _ _ => rfl)]; exact hsm1.out.2.2⟩
    have HSM2 := hid hsm2
    have hk1' := hk1
    clear hp hd hf2 hO hc hi1 hkk hkv g1 g2 g3 hjj hij hv hrow hstr hbnd hcall hnext hsr hf1 hok2 hsm2
    cases hst : (e1.tx j).strict with
    | false =>
     rw [hst] at HSTR HF2
     have hf3 : sawNew i nl e = sawNew i (nl.drop (m + 1)) e1 := by rw [HF2.out]; rfl
     have HF3 := hid hf3
     clear hf3 hst HC HOK2 HSM2 HF2
     go_wp2_with (go_at_call 82; with_reducible refine HSTR.out.mono ?_; rintro r w' ⟨rfl, rfl⟩)
     go_roundw
     case rel => exact ⟨m + 1, e1, k1, by omega, by go_num, hk1, hid (hok1.out.mono (by omega)), hsm1, HF3, HSR.out⟩
     case measure => simp [intOf]; omega
    | true =>
     rw [hst] at HSTR HF2
     cases hbad : (e1.note i j).bad i j with
     | true =>
      rw [hbad] at HC
      have hf3 : sawNew i nl e = (e1.note i j, false) := by rw [HF2.out]; simp [hbad]
      have hse : e.sees i key = (e1.note i j, false) := by rw [HSE.out, hf3]; rfl
      have HSF := hid hse
      clear hf3 hse hst hbad HOK2 HSM2 HF2
      go_wp2_with (first | (go_at_call 82; with_reducible refine HSTR.out.mono ?_; rintro r w' ⟨rfl, rfl⟩) | (go_at_call 83; with_reducible refine HC.out.mono ?_; rintro r w' ⟨k2, hk2, rfl, hs2⟩; have H5 := hid hs2; clear hs2 hk2))
      go_ret
      exact ⟨by rw [HSF.out]; rfl, by rw [HSF.out]; exact S.eng_shut (k := k2) (S.tail (P := sl 3 1 (.slice (some ⟨gn, on, none⟩) nl.length cn) nl.length (icells nl)) (H5.out.conv (by simp only [all]; show _ = sep _ (sep (storeP _ b 0 e1.V e1.last) (sep (tabP _ b 11 e1.t) _)); ac_rfl)))⟩
     | false =>
      rw [hbad] at HC
      have hf3 : sawNew i nl e = sawNew i (nl.drop (m + 1)) (e1.note i j) := by rw [HF2.out]; simp [hbad]
      have HF3 := hid hf3
      clear hf3 hst hbad HF2
      go_wp2_with (first | (go_at_call 82; with_reducible refine HSTR.out.mono ?_; rintro r w' ⟨rfl, rfl⟩) | (go_at_call 83; with_reducible refine HC.out.mono ?_; rintro r w' ⟨k2, hk2, rfl, hs2⟩; have H5 := hid hs2; have HK2 := hid hk2; clear hs2 hk2))
      go_roundw
      case rel => exact ⟨m + 1, e1.note i j, k2, by omega, by go_num, hid (HK2.out.trans hk1'.out), hid (HOK2.out.mono (by omega)), HSM2, HF3, H5.out.conv (by simp only [all]; show _ = sep _ (sep (storeP _ b 0 e1.V e1.last) (sep (tabP _ b 11 e1.t) _)); ac_rfl)⟩
      case measure => simp [intOf]; omega
   ·have hf3 : sawNew i nl e = sawNew i (nl.drop (m + 1)) e1 := by
     rw [hf2, sawNew]
     simp only
     rw [if_neg (fun h => hkk h.1)]
    generalize (mget e1.wr t).getD 0 = kk at lk hkk
    have hkn : kk ≤ 0 := by omega
    have HF3 := hid hf3; have HSR := hid hsr
    clear hp hd hf2 hf3 hO hc hi1 hkk hsr hf1
    go_wp2_with fail
    go_roundw
    case rel => exact ⟨m + 1, e1, k1, by omega, by go_num, hk1, hid (hok1.out.mono (by omega)), hsm1, HF3, HSR.out⟩
    case measure => simp [intOf]; omega
  ·have hd : nl.drop m = [] := List.drop_eq_nil_iff.2 (by omega)
   have hf2 := hf1.out
   rw [hd] at hf2
   have hse : e.sees i key = (sawOpen i key (List.range e.txs.length) e1, true) := by
    rw [HSE.out, hf2]
    show ((sawOpen i key (List.range e1.txs.length) e1, true) : Eng × Bool) = _
    rw [hsm1.out.1]
   have hc := hsr.tail.tail.tail.eng_c.2
   have c14 := hc.txs
   obtain ⟨a, cap, hv, hle, hcap, hrow⟩ := hc.row
   rw [hv, hsm1.out.1] at c14
   unfold maxLen at hcap
   have hle2 : e.txs.length ≤ cap := by rw [← hsm1.out.1]; exact hle
   have hrw : ∀ (W : World) (k2 : EngV) (e2 : Eng) (M : List HProp), k2.txv = k.txv → e2.txs.length = e.txs.length → S w0 W (engO b bs k2 e2 :: M) → ∀ j, j < e.txs.length → ∃ g o, a = some ⟨g, o, none⟩ ∧ W.cell? ⟨g, o + j, none⟩ = some (ptr bs j) := by
    intro W k2 e2 M h1 h2 h3 j hj
    obtain ⟨a', cap', h4, _, _, h5⟩ := h3.eng_c.2.row
    obtain ⟨g', o', h6, h7⟩ := h5 j (by omega)
    rw [h1, ← hk1.out, hv] at h4
    simp only [Value.slice.injEq] at h4
    exact ⟨g', o', by rw [h4.1, h6], h7⟩
   have hokm := hok1.out.mono (M := N + 401 + 0) (by omega)
   have HRW := hid hrw; have HSF := hid hse; have HSR1 := hid hsr.tail; have HOKM := hid hokm; have HLN1 := hid hsm1.out.1
   have hfew := HOK.out.few
   clear hd hf2 hse hc hv hle hrow hrw hsr hf1 hok1 hsm1 hokm HSE
   go_wp2_with fail
   go_loopw [73] (fun c wr => ∃ (m : Nat) (e2 : Eng) (k2 : EngV), m ≤ e.txs.length ∧ c = .int .i64 m ∧ Hid (k2.txv = k.txv) ∧ Hid (OkT (N + 401 + m) e2 U) ∧ Hid (e2.txs.length = e.txs.length) ∧ Hid (sawOpen i key (List.range e.txs.length) e1 = sawOpen i key ((List.range e.txs.length).drop m) e2) ∧ S w0 wr (storeP 107 b 0 e2.V e2.last :: tabP 3 b 11 e2.t :: engO b bs k2 e2 :: L)) (fun c _ => e.txs.length - (intOf c).toNat)
   case atStart => exact ⟨0, e1, k1, Nat.zero_le _, rfl, hk1, HOKM, HLN1, hid rfl, HSR1.out⟩
   case round =>
    rename World => wq
    obtain ⟨m, e2, k2, hm, rfl, hk2, hok2, hln2, hf1, hsr⟩ := hrel
    clear HSR1 HOKM HLN1
    by_cases hlt : m < e.txs.length
    ·have hd : (List.range e.txs.length).drop m = m :: (List.range e.txs.length).drop (m + 1) := by rw [List.drop_eq_getElem_cons (by simpa using hlt)]; simp
     have hf2 := hf1.out
     rw [hd] at hf2
     have hj : m < e2.txs.length := by rw [hln2.out]; exact hlt
     have hi2 : i < e2.txs.length := by rw [hln2.out]; exact hi
     have hO : S w0 wq (engO b bs k2 e2 :: storeP 107 b 0 e2.V e2.last :: tabP 3 b 11 e2.t :: L) := hsr.conv (by simp only [all]; ac_rfl)
     obtain ⟨g, o, rfl, ci⟩ := HRW.out wq k2 e2 _ hk2.out hln2.out hO m hlt
     unfold ptr at ci
     have hx := (hO.eng_txc hj).2
     have x1 := hx.state
     have x6 := hx.writes
     have lk := Tryz.look2 hx.map key
     have hwr : (e2.tx m).wrote key = (mget (e2.tx m).writes key).isSome := rfl
     have hal : (e2.tx m).alive = decide ((e2.tx m).state ≤ 1) := rfl
     have hstr := strict_eng w0 wq b bs k2 e2 m _ hO hj
     have hbnd : ∀ j, j < e2.txs.length → (e2.tx j).aft.length + 1 ≤ 1000000000000 ∧ (e2.tx j).fore.length + 1 ≤ 1000000000000 := fun j hj => by have := hok2.out.fits _ (Eng.tx_mem hj); omega
     have hcall := fun hij => noted_any w0 wq b bs k2 e2 i m _ hO hi2 hj hij (hbnd i hi2).1 (hbnd m hj).2 (fun x hx => (hok2.out.txs x hx).refs)
     unfold ptr at hcall
     have hoth := fun hne => neqT_other (hs := hO) hi2 hj hne
     have hbn := fun hij : m ≠ i => blk_ne hO.eng_c.2 hj hi2 hij
     have HC := hid hcall; have HSTR := hid hstr; have HSR := hid hsr
     have hokn := hok2.out.note1 hi2 hj
     have HOK2 := hid hokn
     have hlnn := Eng.note_len e2 i m
     have HLN2 := hid hlnn
     rw [← hwr] at lk
     generalize (mget (e2.tx m).writes key).getD 0 = vv at lk
     generalize hst : (e2.tx m).strict = st at *
     generalize hws : (e2.tx m).wrote key = ws at *
     generalize hsta : (e2.tx m).state = sta at *
     have HST := hid hst; have HWS := hid hws; have HAL := hid hal; have HOTH := hid hoth; have HBN := hid hbn
     have HSTR2 := hid hstr
     clear hd hj hi2 hO hx hwr hal hstr hbnd hcall hoth hbn hsr hf1 hokn hlnn hst hws hsta
     cases ws with
     | false =>
      have hf3 : sawOpen i key (List.range e.txs.length) e1 = sawOpen i key ((List.range e.txs.length).drop (m + 1)) e2 := by rw [hf2, sawOpen, if_neg (by simp [HWS.out])]
      have HF3 := hid hf3
      clear hf2 hf3 HC HSTR HOK2 HLN2 HST HWS HAL HOTH HBN
      go_wp2_with (go_at_call 82; with_reducible refine HSTR2.out.mono ?_; rintro r w' ⟨rfl, rfl⟩)
      go_roundw
      case rel => exact ⟨m + 1, e2, k2, by omega, by go_num, hk2, hid (hok2.out.mono (by omega)), hln2, HF3, HSR.out⟩
      case measure => simp [intOf]; omega
     | true =>
      by_cases hmi : m = i
      ·subst hmi
       have hnq := fun w => neqT_same w (blkOf bs m)
       have hf3 : sawOpen m key (List.range e.txs.length) e1 = sawOpen m key ((List.range e.txs.length).drop (m + 1)) e2 := by rw [hf2, sawOpen, if_neg (by simp [])]
       have HF3 := hid hf3
       clear hf2 hf3 HC HSTR HOK2 HLN2 HST HWS HAL HOTH HBN
       go_wp2_with (go_at_call 82; with_reducible refine HSTR2.out.mono ?_; rintro r w' ⟨rfl, rfl⟩)
       go_roundw
       case rel => exact ⟨m + 1, e2, k2, by omega, by go_num, hk2, hid (hok2.out.mono (by omega)), hln2, HF3, HSR.out⟩
       case measure => simp [intOf]; omega
      ·have hnq := HOTH.out (HBN.out hmi)
       cases st with
       | false =>
        have hf3 : sawOpen i key (List.range e.txs.length) e1 = sawOpen i key ((List.range e.txs.length).drop (m + 1)) e2 := by rw [hf2, sawOpen, if_neg (by simp [HST.out])]
        have HF3 := hid hf3
        clear hf2 hf3 HC HSTR HOK2 HLN2 HST HWS HAL HOTH HBN hmi
        go_wp2_with (go_at_call 82; with_reducible refine HSTR2.out.mono ?_; rintro r w' ⟨rfl, rfl⟩)
        go_roundw
        case rel => exact ⟨m + 1, e2, k2, by omega, by go_num, hk2, hid (hok2.out.mono (by omega)), hln2, HF3, HSR.out⟩
        case measure => simp [intOf]; omega
       | true =>
        by_cases h1 : sta ≤ 1
        ·have hb1 : decide (sta ≤ 1) = true := decide_eq_true h1
         have hf3 : sawOpen i key (List.range e.txs.length) e1 = sawOpen i key ((List.range e.txs.length).drop (m + 1)) (e2.note i m) := by rw [hf2, sawOpen, if_pos (by simp [HWS.out, HST.out, HAL.out, hb1, hmi])]
         have HF3 := hid hf3; have HC2 := hid (HC.out (Ne.symm hmi))
         clear hf2 hf3 HC HSTR HST HWS HAL HOTH HBN hmi h1
         go_wp2_with (first | (go_at_call 82; with_reducible refine HSTR2.out.mono ?_; rintro r w' ⟨rfl, rfl⟩) | (go_at_call 83; with_reducible refine HC2.out.mono ?_; rintro r w' ⟨k3, hk3, rfl, hs3⟩; have H5 := hid hs3; have HK3 := hid hk3; clear hs3 hk3))
         go_roundw
         case rel => exact ⟨m + 1, e2.note i m, k3, by omega, by go_num, hid (HK3.out.trans hk2.out), hid (HOK2.out.mono (by omega)), hid (HLN2.out.trans hln2.out), HF3, H5.out.conv (by simp only [all]; show _ = sep (storeP _ b 0 e2.V e2.last) (sep (tabP _ b 11 e2.t) _); ac_rfl)⟩
         case measure => simp [intOf]; omega
        ·have hb1 : decide (sta ≤ 1) = false := decide_eq_false h1
         have hf3 : sawOpen i key (List.range e.txs.length) e1 = sawOpen i key ((List.range e.txs.length).drop (m + 1)) e2 := by rw [hf2, sawOpen, if_neg (by simp [HAL.out, hb1])]
         have HF3 := hid hf3
         clear hf2 hf3 HC HSTR HOK2 HLN2 HST HWS HAL HOTH HBN hmi h1
         go_wp2_with (go_at_call 82; with_reducible refine HSTR2.out.mono ?_; rintro r w' ⟨rfl, rfl⟩)
         go_roundw
         case rel => exact ⟨m + 1, e2, k2, by omega, by go_num, hk2, hid (hok2.out.mono (by omega)), hln2, HF3, HSR.out⟩
         case measure => simp [intOf]; omega
    ·have hd : (List.range e.txs.length).drop m = [] := List.drop_eq_nil_iff.2 (by simp; omega)
     have hf2 := hf1.out
     rw [hd, sawOpen] at hf2
     have HF2 := hid hf2; have HSR := hid hsr
     clear hd hf2 hsr hf1
     go_wp2_with fail
     go_ret
     exact ⟨by rw [HSF.out]; rfl, by rw [HSF.out]; show S w0 wq (engP b bs (sawOpen i key (List.range e.txs.length) e1) :: L); rw [HF2.out]; exact HSR.out.eng_shut⟩
end Go.Proofs.YtmfngjclccehaaaGreatDoor
/- The program's engine: Ready, Abort. -/
namespace Go.Proofs.YtmfngjclccehaaaGreatDoor
open Go Go.RowKit Go.Sep
theorem ready_any (w0 w : World) (b : Nat) (bs : List Nat) (k : EngV) (e : Eng) (n : Int) (L : List HProp) (N : Nat) (U : List Task) (hok : OkT N e U) (hs : S w0 w (engO b bs k e :: L)) :
  Calls Tryz.prog 28 #[.pointer (some ⟨b, 0, none⟩), .int .i64 n] w fun r w' => r = .returned (errV (e.ready n)) ∧ w = w' := by
 rcases e.err_cases n true with ⟨h1, h2⟩ | ⟨i, rfl, hi, ⟨h1, h2, h3⟩ | ⟨h1, h2⟩⟩
 ·have hf : e.ready n = 7 := by unfold Eng.ready; rw [if_pos (by rw [h1]; decide), h1]
  have HF := hid hf; have HC := hid (of_miss w0 w b bs k e n true L hs h2)
  clear hs h1 h2 hf hok
  go_enter Tryz.func28, Tryz.ntmps28
  go_wp2_with fail
  with_reducible refine HC.out.mono ?_
  rintro r w' ⟨rfl, rfl⟩
  go_wp2_with fail
  go_ret
  exact ⟨by rw [HF.out]; rfl, rfl⟩
 ·have hf : e.ready ((i : Int) + 1) = 6 := by unfold Eng.ready; rw [if_pos (by rw [h1]; decide), h1]
  have HF := hid hf; have HC := hid (of_shut w0 w b bs k e i L hs hi h3)
  clear hs h1 h2 h3 hf hok
  go_enter Tryz.func28, Tryz.ntmps28
  go_wp2_with fail
  with_reducible refine HC.out.mono ?_
  rintro r w' ⟨rfl, rfl⟩
  go_wp2_with fail
  go_ret
  exact ⟨by rw [HF.out]; rfl, rfl⟩
 ·have hi2 : ((i : Int) + 1).toNat - 1 = i := by omega
  have hf : e.ready ((i : Int) + 1) = if (e.tx i).level = 2 ∧ e.middle i = true then 13 else 0 := by unfold Eng.ready; rw [if_neg (by rw [h1]; decide), hi2]
  have hc := of_ok w0 w b bs k e i true L hs hi h2
  unfold ptr at hc
  have c0 := (hs.eng_txc hi).2.level
  have hm := middle_eng w0 w b bs k e i L hs hi (hok.at hi).refs
  have HF := hid hf; have HC := hid hc; have HM := hid hm
  clear hs h1 h2 hf hc hm hok hi2
  by_cases hl : (e.tx i).level = 2
  ·have hb : ((e.tx i).level == 2) = true := by simpa using hl
   cases hmm : e.middle i with
   | true =>
    have hf : e.ready ((i : Int) + 1) = 13 := by rw [HF.out, if_pos ⟨hl, hmm⟩]
    rw [hmm] at HM
    have HF2 := hid hf
    rw [hl] at c0
    clear hf hmm hl HF hb
    go_enter Tryz.func28, Tryz.ntmps28
    go_wp2_with fail
    with_reducible refine HC.out.mono ?_
    rintro r w' ⟨rfl, rfl⟩
    go_wp2_with (go_at_call 67; with_reducible refine HM.out.mono ?_; rintro r w' ⟨rfl, rfl⟩)
    go_ret
    exact ⟨by rw [HF2.out]; rfl, rfl⟩
   | false =>
    have hf : e.ready ((i : Int) + 1) = 0 := by rw [HF.out, if_neg (by simp [hmm])]
    rw [hmm] at HM
    have HF2 := hid hf
    rw [hl] at c0
    clear hf hmm hl HF hb
    go_enter Tryz.func28, Tryz.ntmps28
    go_wp2_with fail
    with_reducible refine HC.out.mono ?_
    rintro r w' ⟨rfl, rfl⟩
    go_wp2_with (go_at_call 67; with_reducible refine HM.out.mono ?_; rintro r w' ⟨rfl, rfl⟩)
    go_ret
    exact ⟨by rw [HF2.out]; rfl, rfl⟩
  ·have hb : ((e.tx i).level == 2) = false := by simpa using hl
   have hf : e.ready ((i : Int) + 1) = 0 := by rw [HF.out, if_neg (fun h => hl h.1)]
   have HF2 := hid hf
   clear hf hl HF HM
   go_enter Tryz.func28, Tryz.ntmps28
   go_wp2_with fail
   with_reducible refine HC.out.mono ?_
   rintro r w' ⟨rfl, rfl⟩
   go_wp2_with fail
   go_ret
   exact ⟨by rw [HF2.out]; rfl, rfl⟩
theorem abort_any (w0 w : World) (b : Nat) (bs : List Nat) (e : Eng) (n : Int) (L : List HProp) (N : Nat) (hok : OkT N e []) (hN : N ≤ 100000000) (hs : S w0 w (engP b bs e :: L)) :
  Calls Tryz.prog 24 #[.pointer (some ⟨b, 0, none⟩), .int .i64 n] w fun r w' => r = .returned (errV (e.abort n).2) ∧ S w0 w' (engP b bs (e.abort n).1 :: L) := by
 have HS := hid hs
 obtain ⟨k, hs⟩ := hs.eng_open
 have hO : S w0 w (engO b bs k e :: storeP 107 b 0 e.V e.last :: tabP 3 b 11 e.t :: L) := hs.conv (by simp only [all]; ac_rfl)
 rcases e.err_cases n false with ⟨h1, h2⟩ | ⟨i, rfl, hi, ⟨h1, h2, h3⟩ | ⟨h1, h2⟩⟩
 ·have hf : e.abort n = (e, 7) := by unfold Eng.abort; rw [if_pos (by rw [h1]; decide), h1]
  have HF := hid hf; have HC := hid (of_miss w0 w b bs k e n false _ hO h2)
  clear hs hO h1 h2 hf hok
  go_enter Tryz.func24, Tryz.ntmps24
  go_wp2_with fail
  with_reducible refine HC.out.mono ?_
  rintro r w' ⟨rfl, rfl⟩
  go_wp2_with fail
  go_ret
  exact ⟨by rw [HF.out]; rfl, by rw [HF.out]; exact HS.out⟩
 ·cases h2
 ·have hi2 : ((i : Int) + 1).toNat - 1 = i := by omega
  have hf : e.abort ((i : Int) + 1) = if 1 < (e.tx i).state then (e, 6) else (e.goes i 0, 0) := by unfold Eng.abort; rw [if_neg (by rw [h1]; decide), hi2]
  have hc := of_ok w0 w b bs k e i false _ hO hi h2
  unfold ptr at hc
  have c1 := (hO.eng_txc hi).2.state
  have HF := hid hf; have HC := hid hc
  by_cases hst : 1 < (e.tx i).state
  ·have hf2 : e.abort ((i : Int) + 1) = (e, 6) := by rw [hf, if_pos hst]
   have HF2 := hid hf2
   clear hs hO h1 h2 hf hf2 hc hok hi2 HF
   go_enter Tryz.func24, Tryz.ntmps24
   go_wp2_with fail
   with_reducible refine HC.out.mono ?_
   rintro r w' ⟨rfl, rfl⟩
   go_wp2_with fail
   go_ret
   exact ⟨by rw [HF2.out]; rfl, by rw [HF2.out]; exact HS.out⟩
  ·have hf2 : e.abort ((i : Int) + 1) = (e.goes i 0, 0) := by rw [hf, if_neg hst]
   have hcall := goes_any e.open_ w0 w b bs e i 0 L N [] hok hi (by simp only [Tx.alive, decide_eq_true_eq]; omega) (by simp) (Nat.le_refl _) hN HS.out
   have HF2 := hid hf2; have HG := hid hcall
   clear hs hO h1 h2 hf hf2 hc hok hi2 HF hcall
   go_enter Tryz.func24, Tryz.ntmps24
   go_wp2_with fail
   with_reducible refine HC.out.mono ?_
   rintro r w' ⟨rfl, rfl⟩
   go_wp2_with fail
   with_reducible refine HG.out.mono ?_
   rintro r w' ⟨rfl, hs'⟩
   have H5 := hid hs'
   clear hs'
   go_wp2_with fail
   go_ret
   exact ⟨by rw [HF2.out]; rfl, by rw [HF2.out]; exact H5.out⟩
end Go.Proofs.YtmfngjclccehaaaGreatDoor
/- The program's engine: Sweep. -/
namespace Go.Proofs.YtmfngjclccehaaaGreatDoor
open Go Go.RowKit Go.Sep
def floorStep (a : Int) (x : Tx) : Int := if x.alive = true ∧ x.level ≠ 0 then min a x.start else a
theorem floor_eq (e : Eng) : e.floor = e.txs.foldl floorStep e.last := rfl
theorem floor_take {e : Eng} {m : Nat} (h : m < e.txs.length) : (e.txs.take (m + 1)).foldl floorStep e.last = floorStep ((e.txs.take m).foldl floorStep e.last) (e.tx m) := by
 rw [take_succ_get (Eng.tx_some h), List.foldl_append]; rfl
set_option maxRecDepth 40000 in
set_option maxHeartbeats 4000000 in
theorem sweep_eng (w0 w : World) (b : Nat) (bs : List Nat) (e : Eng) (L : List HProp) (N : Nat) (U : List Task) (hok : OkT N e U) (hs : S w0 w (engP b bs e :: L)) :
  Calls Tryz.prog 26 #[.pointer (some ⟨b, 0, none⟩)] w fun r w' => r = .returned (.int .i64 e.sweep.2) ∧ S w0 w' (engP b bs e.sweep.1 :: L) := by
 obtain ⟨k, hs⟩ := hs.eng_open
 have hO : S w0 w (engO b bs k e :: storeP 107 b 0 e.V e.last :: tabP 3 b 11 e.t :: L) := hs.conv (by simp only [all]; ac_rfl)
 have hl := last_any b 0 e.last w hs.store_last.1
 have hc := hO.eng_c.2
 have c14 := hc.txs
 obtain ⟨a, cap, hv, hle, hcap, hrow⟩ := hc.row
 rw [hv] at c14
 unfold maxLen at hcap
 have htx : ∀ j, j < e.txs.length → TxC w bs (blkOf bs j) (k.v j) (e.tx j) := fun j hj => (hO.eng_txc hj).2
 have hsw := fun at_ => sweep_any w0 w b 0 e.V e.last at_ _ hs (fun vs hv => by have := hok.row_le vs hv; omega)
 have HL := hid hl; have HROW := hid hrow; have HTX := hid htx; have HSW := hid hsw
 clear hs hO hl hc hv hrow htx hsw hok
 go_enter Tryz.func26, Tryz.ntmps26
 go_wp2_with (go_at_call 48; with_reducible refine HL.out.mono ?_; rintro r w' ⟨rfl, rfl⟩)
 go_loopw [3, 15] (fun f c wr => ∃ m : Nat, m ≤ e.txs.length ∧ c = .int .i64 m ∧ f = .int .i64 ((e.txs.take m).foldl floorStep e.last) ∧ wr = w) (fun _ c _ => e.txs.length - (intOf c).toNat)
 case atStart => exact ⟨0, Nat.zero_le _, rfl, rfl, rfl⟩
 case round =>
  obtain ⟨m, hm, rfl, rfl, rfl⟩ := hrel
  by_cases hlt : m < e.txs.length
  ·obtain ⟨g, o, rfl, ci⟩ := HROW.out m hlt
   unfold ptr at ci
   have hx := HTX.out m hlt
   have x0 := hx.level
   have x1 := hx.state
   have x2 := hx.start
   have hst := floor_take hlt
   generalize hf : (e.txs.take m).foldl floorStep e.last = f at *
   clear hf
   have HST := hid hst
   clear hst hx
   by_cases h1 : (e.tx m).state ≤ 1
   ·have hb1 : decide ((e.tx m).state ≤ 1) = true := decide_eq_true h1
    by_cases h0 : (e.tx m).level = 0
    ·have hb0 : ((e.tx m).level != 0) = false := by simp [h0]
     have hf2 : (e.txs.take (m + 1)).foldl floorStep e.last = f := by rw [HST.out]; unfold floorStep; rw [if_neg (fun h => h.2 h0)]
     have HF := hid hf2
     clear hf2 h0 HST
     go_wp2_with fail
     go_roundw
     case rel => exact ⟨m + 1, by omega, by go_num, by rw [HF.out], by first | rfl | trivial⟩
     case measure => simp [intOf]; omega
    ·have hb0 : ((e.tx m).level != 0) = true := by simpa using h0
     have hf2 : (e.txs.take (m + 1)).foldl floorStep e.last = min f (e.tx m).start := by rw [HST.out]; unfold floorStep; rw [if_pos ⟨by simpa [Tx.alive] using h1, h0⟩]
     have HF := hid hf2
     clear hf2 h0 HST
     go_wp2_with fail
     go_roundw
     case rel => exact ⟨m + 1, by omega, by go_num, by rw [HF.out], by first | rfl | trivial⟩
     case measure => simp [intOf]; omega
   ·have hb1 : decide ((e.tx m).state ≤ 1) = false := decide_eq_false h1
    have hf2 : (e.txs.take (m + 1)).foldl floorStep e.last = f := by rw [HST.out]; unfold floorStep; rw [if_neg (fun h => h1 (by simpa [Tx.alive] using h.1))]
    have HF := hid hf2
    clear hf2 HST
    go_wp2_with fail
    go_roundw
    case rel => exact ⟨m + 1, by omega, by go_num, by rw [HF.out], by first | rfl | trivial⟩
    case measure => simp [intOf]; omega
  ·have hfl : (e.txs.take m).foldl floorStep e.last = e.floor := by rw [floor_eq, List.take_of_length_le (by omega)]
   rw [hfl]
   have HC := hid (HSW.out e.floor)
   clear hfl HSW
   go_wp2_with fail
   with_reducible refine HC.out.mono ?_
   rintro r w' ⟨rfl, hs'⟩
   have H5 := hid hs'
   clear hs'
   go_wp2_with fail
   go_ret
   exact ⟨rfl, S.eng_shut (k := k) (e := e.sweep.1) H5.out⟩
end Go.Proofs.YtmfngjclccehaaaGreatDoor
/- The reference's engine: Ready, Abort, Waits, Sweep. -/
namespace Go.Proofs.YtmfngjclccehaaaGreatDoor
open Go Go.RowKit Go.Sep
theorem rgoes_any : ∀ n, RGoesAny n
 | 0 => fun w0 w b bs e i why L N U M hok hti hi ha hne ho hN hM hs => by
  have : 1 ≤ e.open_ := Eng.many_pos hi ha
  omega
 | n + 1 => rgoes_step n (rdrops_step n (rputs_any n (rgoes_any n)))
theorem rdrops_any (n : Nat) : RDropsAny n := rdrops_step n (rputs_any n (rgoes_any n))
theorem rof_bad (w0 w : World) (b : Nat) (bs : List Nat) (k : RenV) (e : Eng) (n : Int) (op : Bool) (L : List HProp) (hs : S w0 w (renO b bs k e :: L)) {x : Int} (hx : e.err n op = x) (h0 : x ≠ 0) :
  Calls Tryz.prog 38 #[.pointer (some ⟨b, 0, none⟩), .int .i64 n, .bool op] w fun r w' => r = .returned (.tuple #[.pointer none, .int .i64 x]) ∧ w = w' := by
 have h := rof_any w0 w b bs k e n op L hs
 rw [hx, if_neg h0] at h
 exact h
theorem rof_ok (w0 w : World) (b : Nat) (bs : List Nat) (k : RenV) (e : Eng) (i : Nat) (op : Bool) (L : List HProp) (hs : S w0 w (renO b bs k e :: L)) (hx : e.err ((i : Int) + 1) op = 0) :
  Calls Tryz.prog 38 #[.pointer (some ⟨b, 0, none⟩), .int .i64 ((i : Int) + 1), .bool op] w fun r w' => r = .returned (.tuple #[.pointer (some ⟨blkOf bs i, 0, none⟩), .int .i64 0]) ∧ w = w' := by
 have h := rof_any w0 w b bs k e ((i : Int) + 1) op L hs
 rw [hx, if_pos rfl, show ((i : Int) + 1).toNat - 1 = i by omega] at h
 exact h
theorem _root_.Go.Sep.S.ren_o {w0 w : World} {L : List HProp} {b : Nat} {bs : List Nat} {k : RenV} {e : Eng} {K : List Kep} {Qs : List (List Int)} {la : Int} (h : S w0 w (refP 47 109 b K la :: rtabP 3 b 2 Qs :: renO b bs k e :: L)) :
  S w0 w (renO b bs k e :: refP 47 109 b K la :: rtabP 3 b 2 Qs :: L) := h.conv (by simp only [all]; ac_rfl)
theorem rready_any (w0 w : World) (b : Nat) (bs : List Nat) (k : RenV) (e : Eng) (n : Int) (L : List HProp) (N : Nat) (U : List Task) (hok : OkT N e U) (hs : S w0 w (renO b bs k e :: L)) :
  Calls Tryz.prog 29 #[.pointer (some ⟨b, 0, none⟩), .int .i64 n] w fun r w' => r = .returned (.int .i64 (e.ready n)) ∧ w = w' := by
 have bad : ∀ x, e.err n true = x → x ≠ 0 → Calls Tryz.prog 29 #[.pointer (some ⟨b, 0, none⟩), .int .i64 n] w fun r w' => r = .returned (.int .i64 (e.ready n)) ∧ w = w' := by
  intro x h1 h0
  have hf : e.ready n = x := by unfold Eng.ready; rw [if_pos (by rw [h1]; exact h0), h1]
  have HF := hid hf; have HC := hid (rof_bad w0 w b bs k e n true L hs h1 h0)
  have hb : (x == 0) = false := by simpa using h0
  clear hs h1 h0 hf hok
  go_enter Tryz.func29, Tryz.ntmps29
  go_wp2_with fail
  with_reducible refine HC.out.mono ?_
  rintro r w' ⟨rfl, rfl⟩
  go_wp2_with fail
  go_ret
  exact ⟨by rw [HF.out]; rfl, rfl⟩
 rcases e.err_cases n true with ⟨h1, h2⟩ | ⟨i, rfl, hi, ⟨h1, h2, h3⟩ | ⟨h1, h2⟩⟩
 ·exact bad 7 h1 (by decide)
 ·exact bad 6 h1 (by decide)
 ·clear bad
  have hi2 : ((i : Int) + 1).toNat - 1 = i := by omega
  have hf : e.ready ((i : Int) + 1) = if (e.tx i).level = 2 ∧ e.middle i = true then 13 else 0 := by unfold Eng.ready; rw [if_neg (by rw [h1]; decide), hi2]
  have hc := rof_ok w0 w b bs k e i true L hs h1
  have c0 := (hs.ren_txc hi).2.level
  have hm := rbetween_any w0 w b bs k e i L hs hi (hok.at hi).refs
  have HF := hid hf; have HC := hid hc; have HM := hid hm
  clear hs h1 h2 hf hc hm hok hi2
  by_cases hl : (e.tx i).level = 2
  ·have hb : ((e.tx i).level == 2) = true := by simpa using hl
   cases hmm : e.middle i with
   | true =>
    have hf : e.ready ((i : Int) + 1) = 13 := by rw [HF.out, if_pos ⟨hl, hmm⟩]
    rw [hmm] at HM
    have HF2 := hid hf
    rw [hl] at c0
    clear hf hmm hl HF hb
    go_enter Tryz.func29, Tryz.ntmps29
    go_wp2_with fail
    with_reducible refine HC.out.mono ?_
    rintro r w' ⟨rfl, rfl⟩
    go_wp2_with (go_at_call 68; with_reducible refine HM.out.mono ?_; rintro r w' ⟨rfl, rfl⟩)
    go_ret
    exact ⟨by rw [HF2.out]; rfl, rfl⟩
   | false =>
    have hf : e.ready ((i : Int) + 1) = 0 := by rw [HF.out, if_neg (by simp [hmm])]
    rw [hmm] at HM
    have HF2 := hid hf
    rw [hl] at c0
    clear hf hmm hl HF hb
    go_enter Tryz.func29, Tryz.ntmps29
    go_wp2_with fail
    with_reducible refine HC.out.mono ?_
    rintro r w' ⟨rfl, rfl⟩
    go_wp2_with (go_at_call 68; with_reducible refine HM.out.mono ?_; rintro r w' ⟨rfl, rfl⟩)
    go_ret
    exact ⟨by rw [HF2.out]; rfl, rfl⟩
  ·have hb : ((e.tx i).level == 2) = false := by simpa using hl
   have hf : e.ready ((i : Int) + 1) = 0 := by rw [HF.out, if_neg (fun h => hl h.1)]
   have HF2 := hid hf
   clear hf hl HF HM
   go_enter Tryz.func29, Tryz.ntmps29
   go_wp2_with fail
   with_reducible refine HC.out.mono ?_
   rintro r w' ⟨rfl, rfl⟩
   go_wp2_with fail
   go_ret
   exact ⟨by rw [HF2.out]; rfl, rfl⟩
theorem rabort_any (w0 w : World) (b : Nat) (bs : List Nat) (e : Eng) (n : Int) (L : List HProp) (N M : Nat) (hok : OkT N e []) (hti : Times e) (hN : N ≤ 100000000) (hM : M ≤ 1000000) (hs : S w0 w (renP M [] b bs e :: L)) :
  Calls Tryz.prog 25 #[.pointer (some ⟨b, 0, none⟩), .int .i64 n] w fun r w' => r = .returned (.int .i64 (e.abort n).2) ∧ S w0 w' (renP M [] b bs (e.abort n).1 :: L) := by
 have HS := hid hs
 obtain ⟨k, K, Qs, _, hs⟩ := hs.ren_open
 have hO := hs.ren_o
 rcases e.err_cases n false with ⟨h1, h2⟩ | ⟨i, rfl, hi, ⟨h1, h2, h3⟩ | ⟨h1, h2⟩⟩
 ·have hf : e.abort n = (e, 7) := by unfold Eng.abort; rw [if_pos (by rw [h1]; decide), h1]
  have HF := hid hf; have HC := hid (rof_bad w0 w b bs k e n false _ hO h1 (by decide))
  clear hs hO h1 h2 hf hok hti
  go_enter Tryz.func25, Tryz.ntmps25
  go_wp2_with fail
  with_reducible refine HC.out.mono ?_
  rintro r w' ⟨rfl, rfl⟩
  go_wp2_with fail
  go_ret
  exact ⟨by rw [HF.out]; rfl, by rw [HF.out]; exact HS.out⟩
 ·cases h2
 ·have hi2 : ((i : Int) + 1).toNat - 1 = i := by omega
  have hf : e.abort ((i : Int) + 1) = if 1 < (e.tx i).state then (e, 6) else (e.goes i 0, 0) := by unfold Eng.abort; rw [if_neg (by rw [h1]; decide), hi2]
  have hc := rof_ok w0 w b bs k e i false _ hO h1
  have hal := ralive_any (blkOf bs i) (e.tx i).state w (hok.at hi).state.1 (hO.ren_txc hi).2.state
  have HF := hid hf; have HC := hid hc
  by_cases hst : 1 < (e.tx i).state
  ·have hf2 : e.abort ((i : Int) + 1) = (e, 6) := by rw [hf, if_pos hst]
   have HF2 := hid hf2
   rw [decide_eq_false (by omega)] at hal
   have HA := hid hal
   clear hs hO h1 h2 hf hf2 hc hok hi2 HF hal hst hti
   go_enter Tryz.func25, Tryz.ntmps25
   go_wp2_with fail
   with_reducible refine HC.out.mono ?_
   rintro r w' ⟨rfl, rfl⟩
   go_wp2_with (go_at_call 47; with_reducible refine HA.out.mono ?_; rintro r w' ⟨rfl, rfl⟩)
   go_ret
   exact ⟨by rw [HF2.out]; rfl, by rw [HF2.out]; exact HS.out⟩
  ·have hf2 : e.abort ((i : Int) + 1) = (e.goes i 0, 0) := by rw [hf, if_neg hst]
   have hcall := rgoes_any e.open_ w0 w b bs e i 0 L N [] M hok hti hi (by simp only [Tx.alive, decide_eq_true_eq]; omega) (by simp) (Nat.le_refl _) hN hM HS.out
   have HF2 := hid hf2; have HG := hid hcall
   rw [decide_eq_true (by omega)] at hal
   have HA := hid hal
   clear hs hO h1 h2 hf hf2 hc hok hi2 HF hcall hal hst hti
   go_enter Tryz.func25, Tryz.ntmps25
   go_wp2_with fail
   with_reducible refine HC.out.mono ?_
   rintro r w' ⟨rfl, rfl⟩
   go_wp2_with (go_at_call 47; with_reducible refine HA.out.mono ?_; rintro r w' ⟨rfl, rfl⟩)
   with_reducible refine HG.out.mono ?_
   rintro r w' ⟨rfl, hs'⟩
   have H5 := hid hs'
   clear hs'
   go_wp2_with fail
   go_ret
   exact ⟨by rw [HF2.out]; rfl, by rw [HF2.out]; exact H5.out⟩
theorem rwaits_eq {e : Eng} {Qs : List (List Int)} (h : SameT e.t Qs) (n : Int) : rholds Qs (rwaits Qs n) = e.waits n := by
 have h1 := h.waits n
 have h2 := h.waits_nonneg n
 unfold Eng.waits
 cases hw : mget e.t.wait n with
 | none =>
  rw [hw] at h1
  have h3 : rwaits Qs n = -1 := by rw [← h1]; rfl
  rw [h3]
  unfold rholds qf
  rw [if_neg (by omega)]; rfl
 | some k =>
  rw [hw] at h1 h2
  have h3 : rwaits Qs n = k := by rw [← h1]; rfl
  have h4 : 0 ≤ rwaits Qs n := by simpa using h2.symm
  simp only
  rw [if_pos (by omega), h3, h.holds]
theorem rwaitsE_any (w0 w : World) (b : Nat) (e : Eng) (Qs : List (List Int)) (n : Int) (L : List HProp) (hST : SameT e.t Qs) (hQs : ∀ q ∈ Qs, q.length ≤ 900000) (hs : S w0 w (rtabP 3 b 2 Qs :: L)) :
  Calls Tryz.prog 43 #[.pointer (some ⟨b, 0, none⟩), .int .i64 n] w fun r w' => r = .returned (.int .i64 (e.waits n)) ∧ S w0 w' (rtabP 3 b 2 Qs :: L) := by
 have he := rwaits_eq hST n
 obtain ⟨kv, hk⟩ := hs.ex_elim
 have G1 := hid hk.drew
 have HQ := hid (show ∀ q ∈ Qs, q.length ≤ 1000000 from fun q hq => by have := hQs q hq; omega)
 have HE := hid he
 clear hs hk he hQs hST
 go_enter Tryz.func43, Tryz.ntmps43
 go_wp2_with fail
 go_region_held_law (fun w' => True) (first | trivial)
  (first
   | (go_at_call 77; with_reducible refine (rwaits_any w0 _ b kv Qs n _ G1.out HQ.out).mono ?_; rintro e w2 ⟨rfl, rfl⟩)
   | (go_at_call 76; with_reducible refine (rholds_any w0 _ b kv Qs (rwaits Qs n) _ G1.out).mono ?_; rintro e w2 ⟨rfl, rfl⟩))
 go_wp2_with fail
 go_ret
 exact ⟨by rw [HE.out]; rfl, .ex_intro kv G1.out⟩
set_option maxRecDepth 40000 in
set_option maxHeartbeats 4000000 in
theorem rsweepE_any (w0 w : World) (b : Nat) (bs : List Nat) (e : Eng) (L : List HProp) (N M : Nat) (U : List Task) (T : List Nat) (hok : OkT N e U) (hs : S w0 w (renP M T b bs e :: L)) :
  Calls Tryz.prog 27 #[.pointer (some ⟨b, 0, none⟩)] w fun r w' => r = .returned (.int .i64 e.sweep.2) ∧ S w0 w' (renP M T b bs e.sweep.1 :: L) := by
 obtain ⟨k, K, Qs, ⟨hS, hST, hRm⟩, hs⟩ := hs.ren_open
 have hO := hs.ren_o
 have hla : w.cell? ⟨b, 1, none⟩ = some (.int .i64 e.last) := by
  obtain ⟨v, h⟩ := hs.ref_elim
  exact h.c0_cell 1 rfl
 have hc := hO.ren_c.2
 have c12 := hc.txs
 obtain ⟨a, cap, hv, hle, hcap, hrow⟩ := hc.row
 rw [hv] at c12
 unfold maxLen at hcap
 have htx : ∀ j, j < e.txs.length → RtxC w bs (blkOf bs j) j (k.v j) (e.tx j) := fun j hj => (hO.ren_txc hj).2
 have hal : ∀ j, j < e.txs.length → Calls Tryz.prog 47 #[.pointer (some ⟨blkOf bs j, 0, none⟩)] w fun r w' => r = .returned (.bool (e.tx j).alive) ∧ w = w' := fun j hj => ralive_any _ _ w (hok.at hj).state.1 (htx j hj).state
 have hsw := fun at_ => rsweep_any w0 w b K e.last at_ _ hs (by have := hS.few hok; omega) hS.ok
 have hsz := hS.size e.floor
 have hsame := hS.sweep e.floor
 have hcnt : ((((e.V.map (sweptN e.floor)).sum : Nat) : Int)) = e.sweep.2 := rfl
 have HROW := hid hrow; have HTX := hid htx; have HAL := hid hal; have HSW := hid hsw; have HSAME := hid hsame; have HST := hid hST; have HRM := hid hRm; have HCN := hid hcnt; have HSZ := hid hsz
 clear hs hO hc hv hrow htx hal hsw hsz hsame hcnt hS hST hRm hok
 go_enter Tryz.func27, Tryz.ntmps27
 go_wp2_with fail
 go_loopw [3, 16] (fun f c wr => ∃ m : Nat, m ≤ e.txs.length ∧ c = .int .i64 m ∧ f = .int .i64 ((e.txs.take m).foldl floorStep e.last) ∧ wr = w) (fun _ c _ => e.txs.length - (intOf c).toNat)
 case atStart => exact ⟨0, Nat.zero_le _, rfl, rfl, rfl⟩
 case round =>
  obtain ⟨m, hm, rfl, rfl, rfl⟩ := hrel
  by_cases hlt : m < e.txs.length
  ·obtain ⟨g, o, rfl, ci⟩ := HROW.out m hlt
   unfold ptr at ci
   have hx := HTX.out m hlt
   have x0 := hx.level
   have x3 := hx.start
   have hst := floor_take hlt
   have hal := HAL.out m hlt
   generalize hf : (e.txs.take m).foldl floorStep e.last = f at *
   clear hf
   have hfs : floorStep f (e.tx m) = if (e.tx m).alive = true ∧ (e.tx m).level ≠ 0 then min f (e.tx m).start else f := rfl
   rw [hfs] at hst
   generalize (e.tx m).alive = al at *
   have HST2 := hid hst; have HC := hid hal
   clear hst hx hal hfs
   cases al with
   | false =>
    have hf2 : (e.txs.take (m + 1)).foldl floorStep e.last = f := by rw [HST2.out, if_neg (by simp)]
    have HF := hid hf2
    clear hf2 HST2
    go_wp2_with (go_at_call 47; with_reducible refine HC.out.mono ?_; rintro r w' ⟨rfl, rfl⟩)
    go_roundw
    case rel => exact ⟨m + 1, by omega, by go_num, by rw [HF.out], by first | rfl | trivial⟩
    case measure => simp [intOf]; omega
   | true =>
    by_cases h0 : (e.tx m).level = 0
    ·have hb0 : ((e.tx m).level != 0) = false := by simp [h0]
     have hf2 : (e.txs.take (m + 1)).foldl floorStep e.last = f := by rw [HST2.out, if_neg (fun h => h.2 h0)]
     have HF := hid hf2
     clear hf2 h0 HST2
     go_wp2_with (go_at_call 47; with_reducible refine HC.out.mono ?_; rintro r w' ⟨rfl, rfl⟩)
     go_roundw
     case rel => exact ⟨m + 1, by omega, by go_num, by rw [HF.out], by first | rfl | trivial⟩
     case measure => simp [intOf]; omega
    ·have hb0 : ((e.tx m).level != 0) = true := by simpa using h0
     by_cases h3 : (e.tx m).start < f
     ·have hf2 : (e.txs.take (m + 1)).foldl floorStep e.last = (e.tx m).start := by rw [HST2.out, if_pos ⟨rfl, h0⟩]; omega
      have hb3 : decide ((e.tx m).start < f) = true := decide_eq_true h3
      have HF := hid hf2
      clear hf2 h0 HST2 h3
      go_wp2_with (go_at_call 47; with_reducible refine HC.out.mono ?_; rintro r w' ⟨rfl, rfl⟩)
      go_roundw
      case rel => exact ⟨m + 1, by omega, by go_num, by rw [HF.out], by first | rfl | trivial⟩
      case measure => simp [intOf]; omega
     ·have hf2 : (e.txs.take (m + 1)).foldl floorStep e.last = f := by rw [HST2.out, if_pos ⟨rfl, h0⟩]; omega
      have hb3 : decide ((e.tx m).start < f) = false := decide_eq_false h3
      have HF := hid hf2
      clear hf2 h0 HST2 h3
      go_wp2_with (go_at_call 47; with_reducible refine HC.out.mono ?_; rintro r w' ⟨rfl, rfl⟩)
      go_roundw
      case rel => exact ⟨m + 1, by omega, by go_num, by rw [HF.out], by first | rfl | trivial⟩
      case measure => simp [intOf]; omega
  ·have hfl : (e.txs.take m).foldl floorStep e.last = e.floor := by rw [floor_eq, List.take_of_length_le (by omega)]
   rw [hfl]
   have HC := hid (HSW.out e.floor)
   clear hfl HSW
   go_wp2_with fail
   with_reducible refine HC.out.mono ?_
   rintro r w' ⟨rfl, hs'⟩
   have H5 := hid hs'
   clear hs'
   go_wp2_with fail
   go_ret
   exact ⟨by rw [← HCN.out, HSZ.out]; rfl, S.ren_shut (k := k) (e := e.sweep.1) ⟨HSAME.out, HST.out, HRM.out⟩ H5.out⟩
end Go.Proofs.YtmfngjclccehaaaGreatDoor
/- Transactions at the same time: what a write brings about. No walk in sight. -/
namespace Go.Proofs.YtmfngjclccehaaaGreatDoor
open Go Go.RowKit Go.Sep
variable {e : Eng} {i j : Nat} {N M : Nat} {U : List Task}
structure Keeps (R : Eng → Eng → Prop) : Prop where
 refl : ∀ e, R e e
 trans : ∀ e f g, R e f → R f g → R e g
 note : ∀ e a b, R e (e.note a b)
 opens : ∀ e i, R e (e.opens i)
 wput : ∀ e i w, R e (e.wput i w)
 lets : ∀ e i, R e (e.lets i)
section
variable {R : Eng → Eng → Prop} {g : Eng → Nat → Int → Eng}
theorem putsL_keep (hR : Keeps R) (hg : ∀ e i why, why ≠ 0 → R e (g e i why)) {i : Nat} {key : Int} : ∀ (l : List Nat) (e : Eng), R e (putsL g i key l e)
 | [], e => hR.refl e
 | j :: l, e => by
  unfold putsL
  split
  ·exact putsL_keep hR hg l e
  ·simp only
   split
   ·exact hR.trans _ _ _ (hR.note e j i) (hg _ i 13 (by decide))
   ·exact hR.trans _ _ _ (hR.note e j i) (putsL_keep hR hg l _)
theorem putsG_keep (hR : Keeps R) (hg : ∀ e i why, why ≠ 0 → R e (g e i why)) (e : Eng) (i : Nat) (w : Int × Int) : R e (putsG g e i w) := by
 unfold putsG
 split
 ·exact hg e i 10 (by decide)
 ·split
  ·exact hR.trans _ _ _ (hR.wput e i w) (putsL_keep hR hg _ _)
  ·exact hR.wput e i w
theorem freesL_keep (hR : Keeps R) (hg : ∀ e i why, why ≠ 0 → R e (g e i why)) : ∀ (l : List (Int × Int)) (e : Eng), R e (freesL g l e)
 | [], e => hR.refl e
 | w :: l, e => by
  unfold freesL
  exact hR.trans _ _ _ (hR.opens e _) (hR.trans _ _ _ (putsG_keep hR hg _ _ _) (freesL_keep hR hg l _))
theorem goesN_keep (hR : Keeps R) (ok : Nat → Int → Prop) (hok : ∀ i why, why ≠ 0 → ok i why) (hm : ∀ e i why, ok i why → R e (e.mark i why)) : ∀ (n : Nat) (e : Eng) (i : Nat) (why : Int), ok i why → R e (goesN n e i why)
 | 0, e, i, why, _ => hR.refl e
 | n + 1, e, i, why, h => by
  unfold goesN freesG
  exact hR.trans _ _ _ (hm e i why h) (hR.trans _ _ _ (hR.lets _ i) (freesL_keep hR (fun e i why hw => goesN_keep hR ok hok hm n e i why (hok i why hw)) _ _))
end
theorem keeps_len : Keeps fun e f => f.txs.length = e.txs.length where
 refl _ := rfl
 trans _ _ _ h1 h2 := h2.trans h1
 note e a b := Eng.note_len e a b
 opens _ _ := Eng.upd_len ..
 wput _ _ _ := Eng.upd_len ..
 lets _ _ := rfl
theorem goesN_len (n : Nat) (e : Eng) (i : Nat) (why : Int) : (goesN n e i why).txs.length = e.txs.length :=
 goesN_keep keeps_len (fun _ _ => True) (fun _ _ _ => trivial) (fun e i why _ => Eng.mark_len e i why) n e i why trivial
theorem puts_len (e : Eng) (i : Nat) (w : Int × Int) : (e.puts i w).txs.length = e.txs.length := putsG_keep keeps_len (fun e i why _ => goesN_len _ e i why) e i w
def WhyOk (i : Nat) (e : Eng) : Prop := (e.tx i).state = 3 → (e.tx i).why ≠ 0
theorem keeps_why (i : Nat) : Keeps fun e f => WhyOk i e → WhyOk i f where
 refl _ := id
 trans _ _ _ h1 h2 := h2 ∘ h1
 note e a b h := by
  unfold WhyOk
  rw [Eng.note_state, Eng.note_keep (·.why) (fun _ _ => rfl) (fun _ _ => rfl)]
  exact h
 opens e j h := by
  unfold WhyOk Eng.opens
  rw [Eng.upd_tx]
  split
  ·intro h2; cases h2
  ·exact h
 wput e j w h := by
  unfold WhyOk Eng.wput
  rw [Eng.upd_keep (·.state) (fun x => { x with writes := mput x.writes w.1 w.2 }) (fun _ => rfl), Eng.upd_keep (·.why) (fun x => { x with writes := mput x.writes w.1 w.2 }) (fun _ => rfl)]
  exact h
 lets e j h := h
theorem goesN_why (n : Nat) (e : Eng) (j i : Nat) (why : Int) (hw : i = j → why ≠ 0) : WhyOk j e → WhyOk j (goesN n e i why) :=
 goesN_keep (keeps_why j) (fun i why => i = j → why ≠ 0) (fun _ _ h _ => h) (fun e i why h he => by
  unfold WhyOk
  rw [Eng.mark_tx]
  split
  ·rename_i hc; intro _; exact h hc.1
  ·exact he) n e i why hw
theorem puts_why (e : Eng) (j i : Nat) (w : Int × Int) (h : WhyOk j e) : WhyOk j (e.puts i w) :=
 putsG_keep (keeps_why j) (fun e i why hw he => goesN_why _ e j i why (fun _ => hw) he) e i w h
theorem OkT.chased (h : OkT N e U) (n key : Int) : ∀ a, mget e.t.hold key = some a → ∃ m, chase e.t n m a = some (comesRound e.t n key) := by
 intro a ha
 obtain ⟨Q, hQ⟩ := h.tab
 obtain ⟨r, hr⟩ := hQ.rk
 obtain ⟨c, hc⟩ := chase_ends (hr.ranked hQ.tab) n (r a + 1) a (by omega)
 refine ⟨r a + 1, ?_⟩
 rw [hc]
 congr 1
 cases c with
 | true =>
  symm
  simp only [comesRound, decide_eq_true_eq]
  exact ⟨a, ha, r a + 1, hc⟩
 | false =>
  symm
  simp only [comesRound, decide_eq_false_iff_not]
  rintro ⟨a', ha', m, hm⟩
  rw [ha] at ha'; cases ha'
  exact absurd (chase_one hc hm) (by decide)
theorem asked_cases (h : OkT N e []) (hi : i < e.txs.length) (hs : (e.tx i).state = 0) {key : Int} (hk : keyOk key) :
  (tbAsk e.t ((i : Int) + 1) key (comesRound e.t ((i : Int) + 1) key) = (e.t, false, 11)) ∨
  (∃ t', tbAsk e.t ((i : Int) + 1) key (comesRound e.t ((i : Int) + 1) key) = (t', true, 0) ∧ OkT N { e with t := t' } []) ∨
  (∃ t', tbAsk e.t ((i : Int) + 1) key (comesRound e.t ((i : Int) + 1) key) = (t', false, 0) ∧ OkT (N + 200) ({ e with t := t' }.upd i fun x => { x with state := 1 }) []) := by
 have hw := h.wait_none (i := i) (by omega)
 have h0 : ¬ (key < 0 ∨ 10 ≤ key ∨ (i : Int) + 1 < 1) := by have := hk.1; have := hk.2; omega
 have hch := h.chased ((i : Int) + 1) key
 generalize comesRound e.t ((i : Int) + 1) key = c at *
 unfold tbAsk
 rw [if_neg h0, hw]
 simp only [Option.isSome_none, Bool.false_eq_true, if_false]
 cases hh : mget e.t.hold key with
 | none => exact .inr (.inl ⟨_, rfl, h.got hi hs hk hh⟩)
 | some a =>
  simp only
  by_cases ha : a = (i : Int) + 1
  ·rw [if_pos ha]; exact .inr (.inl ⟨_, rfl, h⟩)
  ·rw [if_neg ha]
   obtain ⟨m, hm⟩ := hch a hh
   cases c with
   | true => exact .inl rfl
   | false => exact .inr (.inr ⟨_, rfl, h.stands hi hs hk hh ha hm⟩)
theorem OkT.wanted (h : OkT N e U) (hi : i < e.txs.length) {w : Int × Int} (hk : keyOk w.1) (hv : valOk w.2) : OkT N (e.upd i fun x => { x with want := w }) U :=
 h.field (Nat.le_refl _) _ (fun _ => rfl) (fun _ => rfl) (fun _ => rfl) (fun _ => rfl) (fun _ => rfl) ⟨hk, hv⟩ (h.reads (e.tx i) (Eng.tx_mem hi))
theorem OkT.puts (h : OkT N e []) (hi : i < e.txs.length) (hs : (e.tx i).state = 0) {w : Int × Int} (hk : keyOk w.1) (hv : valOk w.2) : OkT (N + 200) (e.puts i w) [] :=
 (putsG_ok (goesOk e.open_) (h.to_put hi hs hk hv) (Nat.le_refl _)).1
theorem OkT.wrote (h : OkT N e []) (n key value : Int) : OkT (N + 1000) (e.write n key value).1 [] := by
 have hm := h.mono (M := N + 1000) (by omega)
 unfold Eng.write
 split
 ·exact hm
 ·rename_i herr
  obtain ⟨i, rfl, hi, hst⟩ := err_num (Decidable.not_not.1 herr)
  have hi2 : ((i : Int) + 1).toNat - 1 = i := by omega
  split
  ·exact hm
  ·rename_i hk
   split
   ·exact hm
   ·rename_i hv
    have hk := Decidable.not_not.1 hk
    have hv := Decidable.not_not.1 hv
    simp only [hi2]
    have h1 := h.wanted hi (w := (key, value)) hk hv
    have hlen : (e.upd i fun x => { x with want := (key, value) }).txs.length = e.txs.length := Eng.upd_len ..
    have hs1 : ((e.upd i fun x => { x with want := (key, value) }).tx i).state = 0 := (Eng.upd_keep (·.state) (fun x => { x with want := (key, value) }) (fun _ => rfl) i).trans (hst rfl)
    have ht : (e.upd i fun x => { x with want := (key, value) }).t = e.t := rfl
    generalize (e.upd i fun x => { x with want := (key, value) }) = e1 at *
    have hi1 : i < e1.txs.length := by omega
    have hc := asked_cases h1 hi1 hs1 hk
    rw [ht] at hc
    rcases hc with hc | ⟨t', hc, h2⟩ | ⟨t', hc, h2⟩ <;> rw [hc]
    ·simp only
     rw [if_pos (by decide)]
     have h2 : OkT N ({ e1 with t := e.t } : Eng) [] := by rw [← ht]; exact h1
     exact (goes_kept h2 hi1 (by simp only [Tx.alive, decide_eq_true_eq]; show (e1.tx i).state ≤ 1; omega) 11).mono (by omega)
    ·simp only
     rw [if_neg (by decide), if_neg (by decide)]
     have h3 := h2.puts hi1 hs1 (w := (key, value)) hk hv
     split
     ·exact h3.mono (by omega)
     ·exact h3.mono (by omega)
    ·simp only
     rw [if_neg (by decide), if_pos trivial]
     exact h2.mono (by omega)
end Go.Proofs.YtmfngjclccehaaaGreatDoor
/- The program's engine: New. -/
namespace Go.Proofs.YtmfngjclccehaaaGreatDoor
open Go Go.RowKit Go.Sep
theorem store_cells {w0 w : World} {L : List HProp} {b T : Nat} (h : S w0 w (cells b 0 (List.replicate 10 (.slice none 0 0) ++ [.int .i64 0]) :: L)) : S w0 w (storeP T b 0 (List.replicate 10 []) 0 :: L) := by
 refine .ex_intro (List.replicate 10 (.slice none 0 0)) (.sep_intro (.pur_intro ⟨rfl, rfl⟩ (.sep_intro ?_)))
 have h2 : ∀ n, S w0 w (cells b 0 (List.replicate 10 (.slice none 0 0) ++ [.int .i64 0]) :: all (List.replicate n (sl T 2 (.slice none 0 0) 0 [])) :: L) := by
  intro n
  induction n with
  | zero => exact h.conv (by simp [all, emp_sep])
  | succ n ih => exact (S.sl_nil (e := T) (size := 2) ih).conv (by simp only [all, List.replicate_succ]; rw [sep_left_comm]; simp only [sep_assoc])
 exact h2 10
def engVals (m : Nat) : List Value := (List.replicate 10 (.slice none 0 0) ++ [.int .i64 0]) ++ ([.map none, .map none, .map none] ++ [.slice none 0 0, .int .i64 0, .map (some m), .slice none 0 0])
theorem eng_new {w0 w : World} {L : List HProp} {b m : Nat} (h : S w0 w (blk b 67 (engVals m) :: mp encI (fun _ => True) m [] :: L)) : S w0 w (engP b [] Eng.zero :: L) := by
 have h1 : S w0 w (cells b 0 (List.replicate 10 (.slice none 0 0) ++ [.int .i64 0]) :: cells b 11 [.map none, .map none, .map none] :: cells b 14 [.slice none 0 0, .int .i64 0, .map (some m), .slice none 0 0] :: shp b 67 18 :: mp encI (fun _ => True) m [] :: L) := by
  have e1 : cells b 0 (engVals m) = sep (cells b 0 (List.replicate 10 (.slice none 0 0) ++ [.int .i64 0])) (sep (cells b 11 [.map none, .map none, .map none]) (cells b 14 [.slice none 0 0, .int .i64 0, .map (some m), .slice none 0 0])) := by
   have a1 : ∀ A B C : List Value, A.length = 11 → B.length = 3 → cells b 0 (A ++ (B ++ C)) = sep (cells b 0 A) (sep (cells b 11 B) (cells b 14 C)) := by
    intro A B C hA hB
    rw [cells_append, cells_append, hA, hB]
   exact a1 _ _ _ rfl rfl
  have e2 : blk b 67 (engVals m) = sep (shp b 67 18) (cells b 0 (engVals m)) := rfl
  refine h.conv ?_
  simp only [all]
  rw [e2, e1]
  ac_rfl
 have h2 := store_cells (T := 107) h1
 have h3 := S.tab_zero (T := 3) h2.swap
 have h4 : S w0 w (engG b [] (.slice none 0 0) (.slice none 0 0) m 0 0 [] [] [] :: storeP 107 b 0 (List.replicate 10 []) 0 :: tabP 3 b 11 ⟨[], [], []⟩ :: L) := by
  refine S.engG_join ⟨rfl, rfl, List.nodup_nil⟩ ?_
  have h5 := (S.sl_nil (e := 129) (size := 4) (S.sl_nil (e := 120) (size := 1) h3))
  refine h5.conv ?_
  simp only [all, List.length_nil, fcells_nil, ptrs, List.range_zero, List.map_nil, ienc, emp_sep]
  ac_rfl
 refine .ex_intro ⟨[], .slice none 0 0, .slice none 0 0, m⟩ ?_
 refine S.mono (P := sep (storeP 107 b 0 (List.replicate 10 []) 0) (sep (tabP 3 b 11 ⟨[], [], []⟩) (sep (pur (0 = 0)) (engG b [] (.slice none 0 0) (.slice none 0 0) m 0 0 [] [] [])))) ?_ (fun _ p => p)
 exact (S.pur_intro (p := 0 = 0) rfl h4).conv (by simp only [all]; ac_rfl)
set_option maxRecDepth 40000 in
theorem new_any (w0 w : World) (L : List HProp) (hs : S w0 w L) :
  Calls Tryz.prog 7 #[] w fun r w' => r = .returned (.pointer (some ⟨w.heap.size + 1, 0, none⟩)) ∧ S w0 w' (engP (w.heap.size + 1) [] Eng.zero :: L) := by
 have hmm := @run_makeMap Tryz.prog
 have h1 := (hs.made (κ := Int) (enc := encI) (ok := fun _ => True)).alloc (engVals w.heap.size).toArray 67
 rw [World.size_alloc] at h1
 have H1 := hid (eng_new h1)
 clear h1 hs
 go_enter Tryz.func7, Tryz.ntmps7
 go_wp2
 go_ret
 exact ⟨rfl, H1.out⟩
end Go.Proofs.YtmfngjclccehaaaGreatDoor
/- The program's engine: Write. -/
namespace Go.Proofs.YtmfngjclccehaaaGreatDoor
open Go Go.RowKit Go.Sep
theorem want_eq (e : Eng) (i : Nat) (a c : Int) : (e.upd i fun x => { x with want := (a, x.want.2) }).upd i (fun x => { x with want := (x.want.1, c) }) = e.upd i fun x => { x with want := (a, c) } := by
 unfold Eng.upd
 simp only [Eng.mk.injEq, and_true, true_and]
 apply List.ext_getElem?
 intro j
 simp only [List.getElem?_modify]
 by_cases h : i = j
 ·subst h; cases e.txs[i]? <;> simp
 ·simp [h]
theorem OkT.lines {e : Eng} {N : Nat} {U : List Task} (h : OkT N e U) (k : Int) : (lineAt e.t k).length ≤ 1000000 := by
 obtain ⟨Q, hQ⟩ := h.tab
 have hf := h.few
 unfold lineAt
 rw [hQ.tab.line k]
 have := Go.Sep.few (S := (List.range e.txs.length).map fun m : Nat => (m : Int) + 1) (hQ.tab.nod k) (fun x hx => by
  have := hQ.key k x hx
  simp only [List.mem_map, List.mem_range]
  exact ⟨(x - 1).toNat, by omega, by omega⟩)
 simp only [List.length_map, List.length_range] at this
 rw [List.length_tail]; omega
set_option linter.unusedSimpArgs false in
set_option maxRecDepth 100000 in
set_option maxHeartbeats 8000000 in
theorem ewrite_any (w0 w : World) (b : Nat) (bs : List Nat) (e : Eng) (n key value : Int) (L : List HProp) (N : Nat) (hok : OkT N e []) (hN : N ≤ 90000000) (hs : S w0 w (engP b bs e :: L)) :
  Calls Tryz.prog 21 #[.pointer (some ⟨b, 0, none⟩), .int .i64 n, .int .i64 key, .int .i64 value] w fun r w' => r = .returned (.tuple #[.bool (e.write n key value).2.1, errV (e.write n key value).2.2]) ∧ S w0 w' (engP b bs (e.write n key value).1 :: L) := by
 have HS := hid hs
 obtain ⟨k, hs⟩ := hs.eng_open
 have hO : S w0 w (engO b bs k e :: storeP 107 b 0 e.V e.last :: tabP 3 b 11 e.t :: L) := hs.conv (by simp only [all]; ac_rfl)
 rcases e.err_cases n true with ⟨h1, h2⟩ | ⟨i, rfl, hi, ⟨h1, h2, h3⟩ | ⟨h1, h2⟩⟩
 ·have hf : e.write n key value = (e, false, 7) := by unfold Eng.write; rw [if_pos (by rw [h1]; decide), h1]
  have HF := hid hf; have HC := hid (of_miss w0 w b bs k e n true _ hO h2)
  clear hs hO h1 h2 hf hok
  go_enter Tryz.func21, Tryz.ntmps21
  go_wp2_with fail
  with_reducible refine HC.out.mono ?_
  rintro r w' ⟨rfl, rfl⟩
  go_wp2_with fail
  go_ret2
  exact ⟨by rw [HF.out]; rfl, by rw [HF.out]; exact HS.out⟩
 ·have hf : e.write ((i : Int) + 1) key value = (e, false, 6) := by unfold Eng.write; rw [if_pos (by rw [h1]; decide), h1]
  have HF := hid hf; have HC := hid (of_shut w0 w b bs k e i _ hO hi h3)
  clear hs hO h1 h2 h3 hf hok
  go_enter Tryz.func21, Tryz.ntmps21
  go_wp2_with fail
  with_reducible refine HC.out.mono ?_
  rintro r w' ⟨rfl, rfl⟩
  go_wp2_with fail
  go_ret2
  exact ⟨by rw [HF.out]; rfl, by rw [HF.out]; exact HS.out⟩
 ·have hi2 : ((i : Int) + 1).toNat - 1 = i := by omega
  have hc := of_ok w0 w b bs k e i true _ hO hi h2
  unfold ptr at hc
  have HC := hid hc
  by_cases hk0 : key < 0
  ·have hf : e.write ((i : Int) + 1) key value = (e, false, 2) := by
    unfold Eng.write; rw [if_neg (by rw [h1]; decide), if_pos (by unfold keyOk; omega)]
   have HF := hid hf
   clear hs hO h1 h2 hf hc hok hi2
   go_enter Tryz.func21, Tryz.ntmps21
   go_wp2_with fail
   with_reducible refine HC.out.mono ?_
   rintro r w' ⟨rfl, rfl⟩
   go_wp2_with fail
   go_ret2
   exact ⟨by rw [HF.out]; rfl, by rw [HF.out]; exact HS.out⟩
  by_cases hk1 : 10 ≤ key
  ·have hf : e.write ((i : Int) + 1) key value = (e, false, 2) := by
    unfold Eng.write; rw [if_neg (by rw [h1]; decide), if_pos (by unfold keyOk; omega)]
   have HF := hid hf
   clear hs hO h1 h2 hf hc hok hi2
   go_enter Tryz.func21, Tryz.ntmps21
   go_wp2_with fail
   with_reducible refine HC.out.mono ?_
   rintro r w' ⟨rfl, rfl⟩
   go_wp2_with fail
   go_ret2
   exact ⟨by rw [HF.out]; rfl, by rw [HF.out]; exact HS.out⟩
  have hk : keyOk key := by unfold keyOk; omega
  by_cases hv0 : value < -1099511627776
  ·have hf : e.write ((i : Int) + 1) key value = (e, false, 1) := by
    unfold Eng.write; rw [if_neg (by rw [h1]; decide), if_neg (by simpa using hk), if_pos (by unfold valOk; omega)]
   have HF := hid hf
   clear hs hO h1 h2 hf hc hok hi2 hk
   go_enter Tryz.func21, Tryz.ntmps21
   go_wp2_with fail
   with_reducible refine HC.out.mono ?_
   rintro r w' ⟨rfl, rfl⟩
   go_wp2_with fail
   go_ret2
   exact ⟨by rw [HF.out]; rfl, by rw [HF.out]; exact HS.out⟩
  by_cases hv1 : 1099511627776 < value
  ·have hf : e.write ((i : Int) + 1) key value = (e, false, 1) := by
    unfold Eng.write; rw [if_neg (by rw [h1]; decide), if_neg (by simpa using hk), if_pos (by unfold valOk; omega)]
   have HF := hid hf
   clear hs hO h1 h2 hf hc hok hi2 hk
   go_enter Tryz.func21, Tryz.ntmps21
   go_wp2_with fail
   with_reducible refine HC.out.mono ?_
   rintro r w' ⟨rfl, rfl⟩
   go_wp2_with fail
   go_ret2
   exact ⟨by rw [HF.out]; rfl, by rw [HF.out]; exact HS.out⟩
  have hv : valOk value := by unfold valOk; omega
  have hx := (hO.eng_txc hi).2
  have c7 := hx.want1
  have c8 := hx.want2
  have f7 := hx.free 7
  have f8 := hx.free 8
  obtain ⟨e1, he1⟩ : ∃ e1, (e.upd i fun x => { x with want := (key, value) }) = e1 := ⟨_, rfl⟩
  have hok1 : OkT N e1 [] := by rw [← he1]; exact hok.wanted hi (w := (key, value)) hk hv
  have hlen1 : e1.txs.length = e.txs.length := by rw [← he1]; exact Eng.upd_len ..
  have hs1 : (e1.tx i).state = 0 := by rw [← he1]; exact (Eng.upd_keep (·.state) (fun x => { x with want := (key, value) }) (fun _ => rfl) i).trans (h2 rfl)
  have hw1 : (e1.tx i).want = (key, value) := by rw [← he1, Eng.upd_self hi]
  have ht1 : e1.t = e.t := by rw [← he1]; rfl
  have hi1 : i < e1.txs.length := by omega
  have hst : S w0 ((w.setCell ⟨blkOf bs i, 7, none⟩ (.int .i64 key)).setCell ⟨blkOf bs i, 8, none⟩ (.int .i64 value)) (tabP 3 b 11 e.t :: storeP 107 b 0 e1.V e1.last :: engO b bs k e1 :: L) := by
   have g1 := hO.eng_set (j := 7) (u := .int .i64 key) hi (fun x => { x with want := (key, x.want.2) }) (by decide) rfl rfl rfl rfl rfl
   have g2 := g1.eng_set (j := 8) (u := .int .i64 value) (by rw [Eng.upd_len]; exact hi) (fun x => { x with want := (x.want.1, value) }) (by decide) rfl rfl rfl rfl rfl
   rw [want_eq, he1] at g2
   have e2 : e1.V = e.V := by rw [← he1]; rfl
   have e3 : e1.last = e.last := by rw [← he1]; rfl
   rw [e2, e3]
   exact g2.conv (by simp only [all]; ac_rfl)
  obtain ⟨Q, hQ⟩ := hok.tab
  obtain ⟨rk, hrk⟩ := hQ.rk
  have hask := task_any w0 _ b 11 e.t ((i : Int) + 1) key rk (comesRound e.t ((i : Int) + 1) key) _ hst (hrk.ranked hQ.tab) (hok.chased _ key) (hok.lines key)
  unfold AskPost at hask
  have hf : e.write ((i : Int) + 1) key value = (if (tbAsk e.t ((i : Int) + 1) key (comesRound e.t ((i : Int) + 1) key)).2.2 ≠ 0 then (({ e1 with t := (tbAsk e.t ((i : Int) + 1) key (comesRound e.t ((i : Int) + 1) key)).1 } : Eng).goes i 11, false, 11)
    else if (tbAsk e.t ((i : Int) + 1) key (comesRound e.t ((i : Int) + 1) key)).2.1 = false then (({ e1 with t := (tbAsk e.t ((i : Int) + 1) key (comesRound e.t ((i : Int) + 1) key)).1 } : Eng).upd i fun x => { x with state := 1 }, false, 0)
    else if ((({ e1 with t := (tbAsk e.t ((i : Int) + 1) key (comesRound e.t ((i : Int) + 1) key)).1 } : Eng).puts i (key, value)).tx i).state = 3 then (({ e1 with t := (tbAsk e.t ((i : Int) + 1) key (comesRound e.t ((i : Int) + 1) key)).1 } : Eng).puts i (key, value), false, ((({ e1 with t := (tbAsk e.t ((i : Int) + 1) key (comesRound e.t ((i : Int) + 1) key)).1 } : Eng).puts i (key, value)).tx i).why) else (({ e1 with t := (tbAsk e.t ((i : Int) + 1) key (comesRound e.t ((i : Int) + 1) key)).1 } : Eng).puts i (key, value), true, 0)) := by
   unfold Eng.write
   rw [if_neg (by rw [h1]; decide), if_neg (by simpa using hk), if_neg (by simpa using hv)]
   simp only [hi2, he1]
  have hcase := asked_cases hok1 hi1 hs1 hk
  rw [ht1] at hcase
  rcases hcase with hca | ⟨t', hca, hok2⟩ | ⟨t', hca, hok2⟩
  ·rw [hca] at hask hf
   simp only at hask hf
   rw [if_pos (by decide)] at hf
   have hok3 : OkT N ({ e1 with t := e.t } : Eng) [] := by rw [← ht1]; exact hok1
   have hgo := fun W h => goes_any ({ e1 with t := e.t } : Eng).open_ w0 W b bs _ i 11 L N [] hok3 hi1 (by simp only [Tx.alive, decide_eq_true_eq]; show (e1.tx i).state ≤ 1; omega) (by simp) (Nat.le_refl _) (by omega) h
   have HF := hid hf; have HA := hid hask; have HG := hid hgo
   clear hs hO h1 h2 hc hok hi2 hx hk hv he1 hok1 hlen1 hs1 hw1 ht1 hi1 hst hQ hrk hask hf hca hok3 hgo
   go_enter Tryz.func21, Tryz.ntmps21
   go_wp2_with fail
   with_reducible refine HC.out.mono ?_
   rintro r w' ⟨rfl, rfl⟩
   go_wp2_with fail
   with_reducible refine HA.out.mono ?_
   rintro r w3 ⟨rfl, hs3⟩
   have H3 := hid (S.eng_shut (k := k) (e := { e1 with t := e.t }) (hs3.conv (by simp only [all]; ac_rfl)))
   clear hs3 HA HC
   rw [show errV 11 = .iface 25 (.int .i64 11) from rfl]
   go_wp2_with fail
   with_reducible refine (HG.out _ H3.out).mono ?_
   rintro r w4 ⟨rfl, hs4⟩
   have H4 := hid hs4
   clear hs4 H3 HG
   go_wp2_with fail
   go_ret2
   exact ⟨by rw [HF.out]; rfl, by rw [HF.out]; exact H4.out⟩
  ·rw [hca] at hask hf
   simp only at hask hf
   rw [if_neg (by decide), if_neg (by decide)] at hf
   obtain ⟨e2, he2⟩ : ∃ e2 : Eng, ({ e1 with t := t' } : Eng) = e2 := ⟨_, rfl⟩
   rw [he2] at hf hok2
   have hi3 : i < e2.txs.length := by rw [← he2]; exact hi1
   have hs2 : (e2.tx i).state = 0 := by rw [← he2]; exact hs1
   have hw2 : (e2.tx i).want = (key, value) := by rw [← he2]; exact hw1
   have hput := hok2.to_put hi3 hs2 (w := (key, value)) hk hv
   have hwr := fun W h => writes_any e2.open_ (goes_any e2.open_) w0 W b bs e2 i key value L (N + 200) [] hput (Nat.le_refl _) (by omega) h
   rw [show putsG (goesN e2.open_) e2 i (key, value) = e2.puts i (key, value) from rfl] at hwr
   have hlen3 := puts_len e2 i (key, value)
   have hwhy := puts_why e2 i i (key, value) (fun h => by rw [hs2] at h; cases h)
   unfold WhyOk at hwhy
   have hst2 : ∀ W, S w0 W (tabP 3 b 11 t' :: storeP 107 b 0 e1.V e1.last :: engO b bs k e1 :: L) → S w0 W (engP b bs e2 :: L) := fun W h => by
    rw [← he2]
    exact S.eng_shut (k := k) (h.conv (by simp only [all]; ac_rfl))
   have hcl : ∀ W (e : Eng) M, i < e.txs.length → S w0 W (engP b bs e :: M) → W.cell? ⟨blkOf bs i, 7, none⟩ = some (.int .i64 (e.tx i).want.1) ∧ W.cell? ⟨blkOf bs i, 8, none⟩ = some (.int .i64 (e.tx i).want.2) ∧ W.cell? ⟨blkOf bs i, 1, none⟩ = some (.int .i64 (e.tx i).state) ∧ W.cell? ⟨blkOf bs i, 11, none⟩ = some (.int .i64 (e.tx i).why) := fun W e M hi h => by
    obtain ⟨k', g⟩ := h.eng_open
    have g2 : S w0 W (engO b bs k' e :: storeP 107 b 0 e.V e.last :: tabP 3 b 11 e.t :: M) := g.conv (by simp only [all]; ac_rfl)
    have g3 := (g2.eng_txc hi).2
    exact ⟨g3.want1, g3.want2, g3.state, g3.why⟩
   obtain ⟨e3, he3⟩ : ∃ e3, e2.puts i (key, value) = e3 := ⟨_, rfl⟩
   rw [he3] at hf hwr hlen3 hwhy
   have hi4 : i < e3.txs.length := by omega
   have hcl2 := fun W h => hcl W e2 L hi3 h
   rw [hw2] at hcl2
   have hcl3 := fun W h => hcl W e3 L hi4 h
   have HF := hid hf; have HA := hid hask; have HW := hid hwr; have HST := hid hst2; have HCL2 := hid hcl2; have HCL3 := hid hcl3; have HWHY := hid hwhy
   clear hs hO h1 h2 hc hok hi2 hx hk hv he1 hok1 hlen1 hs1 hw1 ht1 hi1 hst hQ hrk hask hf hca hok2 he2 hi3 hs2 hw2 hput hwr hlen3 hwhy hst2 hcl he3 hi4 hcl2 hcl3
   go_enter Tryz.func21, Tryz.ntmps21
   go_wp2_with fail
   with_reducible refine HC.out.mono ?_
   rintro r w' ⟨rfl, rfl⟩
   go_wp2_with fail
   with_reducible refine HA.out.mono ?_
   rintro r w3 ⟨rfl, hs3⟩
   have hs3 := HST.out _ hs3
   obtain ⟨d7, d8, _, _⟩ := HCL2.out _ hs3
   have H3 := hid hs3
   clear hs3 HA HC HST HCL2 c7 c8 f7 f8
   rw [show errV 0 = .nilIface from rfl]
   go_wp2_with fail
   with_reducible refine (HW.out _ H3.out).mono ?_
   rintro r w4 ⟨rfl, hs4⟩
   obtain ⟨_, _, d1, d11⟩ := HCL3.out _ hs4
   have H4 := hid hs4
   clear hs4 H3 HW HCL3
   by_cases hst3 : (e3.tx i).state = 3
   ·have hff : e.write ((i : Int) + 1) key value = (e3, false, (e3.tx i).why) := by rw [HF.out, if_pos hst3]
    have hne := HWHY.out hst3
    have HFF := hid hff
    have HE := hid (errV_ne hne)
    rw [hst3] at d1
    clear hst3 hff hne HF
    go_wp2_with fail
    go_quiet (fail)
    go_wp2_with fail
    go_ret2
    exact ⟨by rw [HFF.out, HE.out]; rfl, by rw [HFF.out]; exact H4.out.drewN nq⟩
   ·have hff : e.write ((i : Int) + 1) key value = (e3, true, 0) := by rw [HF.out, if_neg hst3]
    have hb3 : ((e3.tx i).state == 3) = false := by simpa using hst3
    have HFF := hid hff
    clear hst3 hff HF
    go_wp2_with fail
    go_ret2
    exact ⟨by rw [HFF.out]; rfl, by rw [HFF.out]; exact H4.out⟩
  ·rw [hca] at hask hf
   simp only at hask hf
   rw [if_neg (by decide), if_pos trivial] at hf
   have hi3 : i < ({ e1 with t := t' } : Eng).txs.length := hi1
   have hst2 : ∀ W, S w0 W (tabP 3 b 11 t' :: storeP 107 b 0 e1.V e1.last :: engO b bs k e1 :: L) → W.cell? ⟨blkOf bs i, 1, none⟩ = some (.int .i64 (e1.tx i).state) ∧ W.frozen? ⟨blkOf bs i, 1, none⟩ = false ∧ S w0 (W.setCell ⟨blkOf bs i, 1, none⟩ (.int .i64 1)) (engP b bs (({ e1 with t := t' } : Eng).upd i fun x => { x with state := 1 }) :: L) := fun W h => by
    have g : S w0 W (engO b bs k ({ e1 with t := t' } : Eng) :: storeP 107 b 0 e1.V e1.last :: tabP 3 b 11 t' :: L) := S.conv h (by
     show all (tabP 3 b 11 t' :: storeP 107 b 0 e1.V e1.last :: engO b bs k e1 :: L) = all (engO b bs k e1 :: storeP 107 b 0 e1.V e1.last :: tabP 3 b 11 t' :: L)
     simp only [all]; ac_rfl)
    have g0 := (g.eng_txc hi3).2
    have g1 := g.eng_set (j := 1) (u := .int .i64 1) hi3 (fun x => { x with state := 1 }) (by decide) rfl rfl rfl rfl rfl
    refine ⟨g0.state, g0.free 1, S.eng_shut (k := k) (e := ({ e1 with t := t' } : Eng).upd i fun x => { x with state := 1 }) (S.conv g1 ?_)⟩
    show all (engO b bs k (({ e1 with t := t' } : Eng).upd i fun x => { x with state := 1 }) :: storeP 107 b 0 e1.V e1.last :: tabP 3 b 11 t' :: L) = all (storeP 107 b 0 e1.V e1.last :: tabP 3 b 11 t' :: engO b bs k (({ e1 with t := t' } : Eng).upd i fun x => { x with state := 1 }) :: L)
    simp only [all]; ac_rfl
   have HF := hid hf; have HA := hid hask; have HST := hid hst2
   clear hs hO h1 h2 hc hok hi2 hx hk hv he1 hok1 hlen1 hs1 hw1 ht1 hi1 hst hQ hrk hask hf hca hok2 hi3 hst2
   go_enter Tryz.func21, Tryz.ntmps21
   go_wp2_with fail
   with_reducible refine HC.out.mono ?_
   rintro r w' ⟨rfl, rfl⟩
   go_wp2_with fail
   with_reducible refine HA.out.mono ?_
   rintro r w3 ⟨rfl, hs3⟩
   obtain ⟨d1, f1, hs4⟩ := HST.out _ hs3
   have H3 := hid hs4
   clear hs3 hs4 HA HC HST c7 c8 f7 f8
   rw [show errV 0 = .nilIface from rfl]
   go_wp2_with fail
   go_ret2
   exact ⟨by rw [HF.out]; rfl, by rw [HF.out]; exact H3.out⟩
end Go.Proofs.YtmfngjclccehaaaGreatDoor
namespace Go.Proofs
open Go.Shelf
def Tryz.keysA_ren : Go.Shelf.Ren := ⟨fun | 7 => 73 | 10 => 94 | n => n, fun | 23 => 53 | 26 => 3 | 3 => 3 | 28 => 148 | 0 => 0 | 27 => 147 | 33 => 111 | 4 => 4 | n => n, fun | n => n⟩
theorem Tryz.keysA : Go.Proofs.SlLaysZI.n7 Tryz.prog Tryz.keysA_ren := {
 mixed := by kernel_rfl
 f7 := ⟨Tryz.f73.name, by decide, Tryz.func73.trans (congrArg some (by kernel_rfl))⟩
 f10 := ⟨Tryz.f94.name, by decide, Tryz.func94.trans (congrArg some (by kernel_rfl))⟩
 t0 := Tryz.underlying0
 a0 := Tryz.isAgg0
 z0 := Tryz.sizeOf0
 v0 := Tryz.zeroValue0
 t4 := Tryz.underlying4
 a4 := Tryz.isAgg4
 z4 := Tryz.sizeOf4
 v4 := Tryz.zeroValue4
 t23 := Tryz.underlying53
 a23 := Tryz.isAgg53
 z23 := Tryz.sizeOf53
 v23 := Tryz.zeroValue53
 t26 := Tryz.underlying3
 a26 := Tryz.isAgg3
 z26 := Tryz.sizeOf3
 v26 := Tryz.zeroValue3
 t27 := Tryz.underlying147
 a27 := Tryz.isAgg147
 z27 := Tryz.sizeOf147
 v27 := Tryz.zeroValue147
 t28 := Tryz.underlying148
 a28 := Tryz.isAgg148
 z28 := Tryz.sizeOf148
 v28 := Tryz.zeroValue148
 t33 := Tryz.underlying111
 a33 := Tryz.isAgg111
 z33 := Tryz.sizeOf111
 v33 := Tryz.zeroValue111 }
def Tryz.sortedA_ren : Go.Shelf.Ren := ⟨fun | 6 => 72 | 8 => 92 | 9 => 93 | 11 => 104 | 13 => 106 | 12 => 105 | 23 => 120 | 24 => 121 | 14 => 111 | 15 => 112 | 16 => 113 | 17 => 114 | 18 => 115 | 19 => 116 | 20 => 117 | 21 => 118 | 22 => 119 | 25 => 122 | 26 => 123 | 27 => 124 | 28 => 125 | 29 => 126 | 30 => 127 | 31 => 128 | n => n, fun | 26 => 3 | 28 => 148 | 24 => 48 | 0 => 0 | 3 => 3 | 37 => 37 | 48 => 207 | 50 => 209 | 4 => 4 | 40 => 200 | 39 => 199 | 45 => 124 | 5 => 5 | 9 => 9 | 51 => 210 | 55 => 214 | 57 => 216 | 58 => 217 | 33 => 111 | n => n, fun | n => n⟩
theorem Tryz.sortedA : Go.Proofs.SlLaysZI.n6 Tryz.prog Tryz.sortedA_ren := {
 mixed := by kernel_rfl
 f6 := ⟨Tryz.f72.name, by decide, Tryz.func72.trans (congrArg some (by kernel_rfl))⟩
 f8 := ⟨Tryz.f92.name, by decide, Tryz.func92.trans (congrArg some (by kernel_rfl))⟩
 f11 := ⟨Tryz.f104.name, by decide, Tryz.func104.trans (congrArg some (by kernel_rfl))⟩
 t0 := Tryz.underlying0
 a0 := Tryz.isAgg0
 z0 := Tryz.sizeOf0
 v0 := Tryz.zeroValue0
 t24 := Tryz.underlying48
 a24 := Tryz.isAgg48
 z24 := Tryz.sizeOf48
 v24 := Tryz.zeroValue48
 t26 := Tryz.underlying3
 a26 := Tryz.isAgg3
 z26 := Tryz.sizeOf3
 v26 := Tryz.zeroValue3
 t28 := Tryz.underlying148
 a28 := Tryz.isAgg148
 z28 := Tryz.sizeOf148
 v28 := Tryz.zeroValue148
 i26 := by kernel_rfl }
def Tryz.sortA_ren : Go.Shelf.Ren := ⟨fun | 5 => 93 | 8 => 106 | 7 => 105 | 19 => 120 | 20 => 121 | 10 => 111 | 11 => 112 | 12 => 113 | 13 => 114 | 14 => 115 | 15 => 116 | 16 => 117 | 17 => 118 | 18 => 119 | 30 => 122 | 31 => 123 | 32 => 124 | 33 => 125 | 34 => 126 | 35 => 127 | 40 => 128 | n => n, fun | 23 => 48 | 25 => 3 | 3 => 3 | 32 => 37 | 22 => 48 | 0 => 0 | 44 => 207 | 46 => 209 | 4 => 4 | 36 => 200 | 35 => 199 | 41 => 124 | 5 => 5 | 9 => 9 | 53 => 210 | 57 => 214 | 63 => 216 | 64 => 217 | n => n, fun | n => n⟩
theorem Tryz.sortA : Go.Proofs.SlLaysM.n5 Tryz.prog Tryz.sortA_ren := {
 mixed := by kernel_rfl
 f5 := ⟨Tryz.f93.name, by decide, Tryz.func93.trans (congrArg some (by kernel_rfl))⟩
 f7 := ⟨Tryz.f105.name, by decide, Tryz.func105.trans (congrArg some (by kernel_rfl))⟩
 f8 := Tryz.func106.trans (congrArg some (by kernel_rfl))
 f10 := ⟨Tryz.f111.name, by decide, Tryz.func111.trans (congrArg some (by kernel_rfl))⟩
 f11 := ⟨Tryz.f112.name, by decide, Tryz.func112.trans (congrArg some (by kernel_rfl))⟩
 f12 := ⟨Tryz.f113.name, by decide, Tryz.func113.trans (congrArg some (by kernel_rfl))⟩
 f13 := ⟨Tryz.f114.name, by decide, Tryz.func114.trans (congrArg some (by kernel_rfl))⟩
 f14 := ⟨Tryz.f115.name, by decide, Tryz.func115.trans (congrArg some (by kernel_rfl))⟩
 f15 := ⟨Tryz.f116.name, by decide, Tryz.func116.trans (congrArg some (by kernel_rfl))⟩
 f16 := ⟨Tryz.f117.name, by decide, Tryz.func117.trans (congrArg some (by kernel_rfl))⟩
 f17 := ⟨Tryz.f118.name, by decide, Tryz.func118.trans (congrArg some (by kernel_rfl))⟩
 f18 := ⟨Tryz.f119.name, by decide, Tryz.func119.trans (congrArg some (by kernel_rfl))⟩
 f19 := Tryz.func120.trans (congrArg some (by kernel_rfl))
 f20 := Tryz.func121.trans (congrArg some (by kernel_rfl))
 f30 := ⟨Tryz.f122.name, by decide, Tryz.func122.trans (congrArg some (by kernel_rfl))⟩
 f31 := Tryz.func123.trans (congrArg some (by kernel_rfl))
 f32 := Tryz.func124.trans (congrArg some (by kernel_rfl))
 f33 := ⟨Tryz.f125.name, by decide, Tryz.func125.trans (congrArg some (by kernel_rfl))⟩
 f34 := ⟨Tryz.f126.name, by decide, Tryz.func126.trans (congrArg some (by kernel_rfl))⟩
 f35 := ⟨Tryz.f127.name, by decide, Tryz.func127.trans (congrArg some (by kernel_rfl))⟩
 f40 := ⟨Tryz.f128.name, by decide, Tryz.func128.trans (congrArg some (by kernel_rfl))⟩
 t0 := Tryz.underlying0
 a0 := Tryz.isAgg0
 z0 := Tryz.sizeOf0
 v0 := Tryz.zeroValue0
 t3 := Tryz.underlying3
 a3 := Tryz.isAgg3
 z3 := Tryz.sizeOf3
 v3 := Tryz.zeroValue3
 t4 := Tryz.underlying4
 a4 := Tryz.isAgg4
 z4 := Tryz.sizeOf4
 v4 := Tryz.zeroValue4
 t5 := Tryz.underlying5
 a5 := Tryz.isAgg5
 z5 := Tryz.sizeOf5
 v5 := Tryz.zeroValue5
 t9 := Tryz.underlying9
 a9 := Tryz.isAgg9
 z9 := Tryz.sizeOf9
 v9 := Tryz.zeroValue9
 t22 := Tryz.underlying48
 a22 := Tryz.isAgg48
 z22 := Tryz.sizeOf48
 v22 := Tryz.zeroValue48
 t23 := Tryz.underlying48
 a23 := Tryz.isAgg48
 z23 := Tryz.sizeOf48
 v23 := Tryz.zeroValue48
 t25 := Tryz.underlying3
 a25 := Tryz.isAgg3
 z25 := Tryz.sizeOf3
 v25 := Tryz.zeroValue3
 t32 := Tryz.underlying37
 a32 := Tryz.isAgg37
 z32 := Tryz.sizeOf37
 v32 := Tryz.zeroValue37
 t35 := Tryz.underlying199
 a35 := Tryz.isAgg199
 z35 := Tryz.sizeOf199
 v35 := Tryz.zeroValue199
 t36 := Tryz.underlying200
 a36 := Tryz.isAgg200
 z36 := Tryz.sizeOf200
 v36 := Tryz.zeroValue200
 t41 := Tryz.underlying124
 a41 := Tryz.isAgg124
 z41 := Tryz.sizeOf124
 v41 := Tryz.zeroValue124
 t44 := Tryz.underlying207
 a44 := Tryz.isAgg207
 z44 := Tryz.sizeOf207
 v44 := Tryz.zeroValue207
 t46 := Tryz.underlying209
 a46 := Tryz.isAgg209
 z46 := Tryz.sizeOf209
 v46 := Tryz.zeroValue209
 t53 := Tryz.underlying210
 a53 := Tryz.isAgg210
 z53 := Tryz.sizeOf210
 v53 := Tryz.zeroValue210
 t57 := Tryz.underlying214
 a57 := Tryz.isAgg214
 z57 := Tryz.sizeOf214
 v57 := Tryz.zeroValue214
 t63 := Tryz.underlying216
 a63 := Tryz.isAgg216
 z63 := Tryz.sizeOf216
 v63 := Tryz.zeroValue216
 t64 := Tryz.underlying217
 a64 := Tryz.isAgg217
 z64 := Tryz.sizeOf217
 v64 := Tryz.zeroValue217 }
end Go.Proofs
