/- The reference's store: Install. -/
import Derived.Test.YtmfngjclccehaaaGreatDoorZ0
import Derived.Test.YtmfngjclccehaaaGreatDoorZ5
import Derived.BigQuiet
import Derived.Test.YtmfngjclccehaaaGreatDoorZ3
import Derived.Test.YtmfngjclccehaaaGreatDoorZ4
import Derived.Test.YtmfngjclccehaaaGreatDoorZ1
import Derived.Deep.DeepCutAuto
import Derived.Deep.CutBlock
/- The reference's engine: drops: who comes next. -/
namespace Go.Proofs.YtmfngjclccehaaaGreatDoor
open Go Go.RowKit Go.Sep
def RPutsAny (n : Nat) : Prop := ∀ (w0 w : World) (b : Nat) (bs : List Nat) (e : Eng) (i : Nat) (key val : Int) (L : List HProp) (N : Nat) (U : List Task) (M : Nat), OkT N e (.put i (key, val) :: U) → Times e → e.open_ ≤ n → N ≤ 100000000 → M ≤ 1000000 → S w0 w (renP M [i] b bs e :: L) →
 Calls Tryz.prog 60 #[.pointer (some ⟨b, 0, none⟩), .int .i64 ((i : Int) + 1), .agg #[.int .i64 key, .int .i64 val]] w fun r w' => r = .returned (.tuple #[]) ∧ S w0 w' (renP M [] b bs (putsG (goesN n) e i (key, val)) :: L)
theorem Room.opens {M : Nat} {k : RenV} {e : Eng} {j : Nat} (h : Room M [] k e) (hst : (e.tx j).state = 1) : Room M [j] k (e.opens j) := by
 intro m hm
 unfold Eng.opens at hm ⊢
 rw [Eng.upd_len] at hm
 have h1 := h m hm
 by_cases hc : j = m
 ·subst hc
  rw [if_pos (.inl hst)] at h1
  rw [if_pos (.inr (by simp))]
  exact h1
 ·rw [Eng.upd_ne hc]
  simpa [Ne.symm hc] using h1
set_option linter.unusedSimpArgs false in
set_option maxRecDepth 100000 in
set_option maxHeartbeats 20000000 in
theorem rdrops_step (n : Nat) (hg : RPutsAny n) : RDropsAny n := by
 intro w0 w b bs e i L N U M hok hti ho hN hM hlen hnd hs
 obtain ⟨k, K, Qs, ⟨hS, hST, hRm⟩, hs⟩ := hs.ren_open
 have hQs : ∀ q ∈ Qs, q.length ≤ 900000 := fun q hq => by
  obtain ⟨j, hj⟩ := List.getElem?_of_mem hq
  have h1 : qf Qs (j : Int) = q := by rw [qf_nat, hj]; rfl
  have h2 := hST.line (j : Int)
  have h3 := hlen (j : Int)
  unfold lineAt at h3
  rw [h2, h1, List.length_tail] at h3
  omega
 obtain ⟨hST2, hrout⟩ := hST.drop hnd ((i : Int) + 1)
 have hcall := rdrop_any w0 w b Qs ((i : Int) + 1) (refP 47 109 b K e.last :: renO b bs k e :: L) (hs.conv (by simp only [all]; ac_rfl)) hQs
 rw [← hrout] at hcall
 have hfin : ∀ W v, S w0 W (sl 101 2 v (tbDrop e.t ((i : Int) + 1)).2.length (pcells (tbDrop e.t ((i : Int) + 1)).2) :: rtabP 3 b 2 (Qs.map fun l => strike l ((i : Int) + 1)) :: refP 47 109 b K e.last :: renO b bs k e :: L) → S w0 W (sl 101 2 v (e.heirs i).length (pcells (e.heirs i)) :: renP M [] b bs (e.lets i) :: L) := fun W v h => by
  have h1 : S w0 W (refP 47 109 b K (e.lets i).last :: rtabP 3 b 2 (Qs.map fun l => strike l ((i : Int) + 1)) :: renO b bs k (e.lets i) :: sl 101 2 v (e.heirs i).length (pcells (e.heirs i)) :: L) := h.conv (by
   simp only [all]
   show sep (sl _ 2 v (tbDrop e.t ((i : Int) + 1)).2.length (pcells (tbDrop e.t ((i : Int) + 1)).2)) (sep (rtabP _ b 2 _) (sep (refP _ _ b K e.last) (sep (renO b bs k e) (all L)))) = sep (refP _ _ b K e.last) (sep (rtabP _ b 2 _) (sep (renO b bs k e) (sep (sl _ 2 v (tbDrop e.t ((i : Int) + 1)).2.length (pcells (tbDrop e.t ((i : Int) + 1)).2)) (all L))))
   ac_rfl)
  exact (S.ren_shut (M := M) (T := []) (e := e.lets i) ⟨hS, hST2, hRm⟩ h1).swap
 have hfr : freesG (goesN n) e i = freesL (goesN n) (e.heirs i) (e.lets i) := rfl
 have htl := hti.lets i
 have HC := hid hcall; have HFI := hid hfin; have HFR := hid hfr; have HOK := hid hok; have HO := hid ho; have HG := hid hg; have HT := hid htl
 clear hs hcall hfin hfr hok ho hg hti htl hS hST hST2 hRm hQs hnd hlen hrout
 go_enter Tryz.func64, Tryz.ntmps64
 go_wp2_with fail
 with_reducible refine HC.out.mono ?_
 rintro r w1 ⟨v', rfl, hs1⟩
 have hs2 := HFI.out _ _ hs1
 obtain ⟨al, cl, rfl, hcl, hcl2, _⟩ := hs2.sl_val
 unfold maxLen at hcl2
 change S w0 w1 (sl 101 2 (.slice al (e.heirs i).length cl) (e.heirs i).length (pcells (e.heirs i)) :: renP M [] b bs (e.lets i) :: L) at hs2
 generalize e.heirs i = l at *
 generalize e.lets i = e0 at *
 have H2 := hid hs2
 clear hs1 hs2 HC HFI
 go_wp2_with fail
 go_loopw [13] (fun c wr => ∃ (m : Nat) (e1 : Eng), m ≤ l.length ∧ c = .int .i64 m ∧ Hid (OkT N e1 ((l.drop m).map .hand ++ U)) ∧ Hid (Times e1) ∧ Hid (e1.open_ ≤ n) ∧ Hid (freesL (goesN n) l e0 = freesL (goesN n) (l.drop m) e1) ∧ S w0 wr (sl 101 2 (.slice al l.length cl) l.length (pcells l) :: renP M [] b bs e1 :: L)) (fun c _ => l.length - (intOf c).toNat)
 case atStart => exact ⟨0, e0, Nat.zero_le _, rfl, HOK, HT, HO, hid rfl, H2.out⟩
 case round =>
  rename World => wr
  obtain ⟨m, e1, hm, rfl, hok1, ht1, ho1, hf1, hsr⟩ := hrel
  clear H2 HOK HO HT
  by_cases hlt : m < l.length
  ·have hp : l[m]? = some l[m] := by simp [hlt]
   have hd : l.drop m = l[m] :: l.drop (m + 1) := List.drop_eq_getElem_cons hlt
   generalize l[m] = p at hp hd
   have hok2 := hok1.out
   have hf2 := hf1.out
   rw [hd] at hok2 hf2
   have hk := hok2.ok (.hand p) (by simp)
   have hj := hk.lt
   obtain ⟨hp1, hst, _⟩ := hk.hand p rfl
   have hand := OkT.hand (U := (l.drop (m + 1)).map .hand ++ U) hok2
   obtain ⟨pk, pv⟩ := p
   simp only [Task.who] at hj hst hp1 hand
   obtain ⟨j, rfl⟩ : ∃ j : Nat, pv = (j : Int) + 1 := ⟨(pv - 1).toNat, by omega⟩
   have hjj : ((j : Int) + 1).toNat - 1 = j := by omega
   rw [hjj] at hj hst hand
   have hwant : ((e1.opens j).tx j).want = (e1.tx j).want := Eng.upd_keep (·.want) (fun x => { x with state := 0 }) (fun _ => rfl) j
   have hf3 : freesL (goesN n) l e0 = freesL (goesN n) (l.drop (m + 1)) (putsG (goesN n) (e1.opens j) j ((e1.tx j).want.1, (e1.tx j).want.2)) := by
    rw [hf2]
    show freesL (goesN n) (l.drop (m + 1)) (putsG (goesN n) (e1.opens (((j : Int) + 1).toNat - 1)) (((j : Int) + 1).toNat - 1) ((e1.opens (((j : Int) + 1).toNat - 1)).tx (((j : Int) + 1).toNat - 1)).want) = _
    rw [hjj, hwant]
   have hop : (e1.opens j).open_ = e1.open_ := by
    have := Eng.many_upd hj Tx.alive (fun x => { x with state := 0 })
    rw [if_pos (by simp [Tx.alive, hst]), if_pos (by simp [Tx.alive])] at this
    unfold Eng.opens Eng.open_; unfold Eng.many at this; omega
   obtain ⟨gl, ol, rfl, _, d0, d1⟩ := hsr.sl_pair hp
   obtain ⟨k1, K1, Qs1, ⟨hS1, hST1, hRm1⟩, hse⟩ := hsr.swap.ren_open
   have hsx := hse.alloc #[.int .i64 pk, .int .i64 ((j : Int) + 1)] 101
   have hO : S w0 _ (renO b bs k1 e1 :: blk wr.heap.size 101 [.int .i64 pk, .int .i64 ((j : Int) + 1)] :: refP 47 109 b K1 e1.last :: rtabP 3 b 2 Qs1 :: sl 101 2 (.slice (some ⟨gl, ol, none⟩) l.length cl) l.length (pcells l) :: L) := hsx.conv (by simp only [all]; ac_rfl)
   have b1 := hsx.blk_cell 1 rfl
   have hc := hO.ren_c.2
   have c12 := hc.txs
   obtain ⟨a, cap, hv, hle, hcap, hrow⟩ := hc.row
   obtain ⟨g, o, rfl, ci⟩ := hrow j hj
   rw [hv] at c12
   unfold maxLen at hcap
   unfold ptr at ci
   have hx := (hO.ren_txc hj).2
   have x1 := hx.state
   have fx := hx.free
   have hset : ∀ nq, S w0 (((wr.alloc (.cells #[.int .i64 pk, .int .i64 ((j : Int) + 1)] 101)).drewN nq).setCell ⟨blkOf bs j, 1, none⟩ (.int .i64 0)) (renO b bs k1 (e1.opens j) :: blk wr.heap.size 101 [.int .i64 pk, .int .i64 ((j : Int) + 1)] :: refP 47 109 b K1 e1.last :: rtabP 3 b 2 Qs1 :: sl 101 2 (.slice (some ⟨gl, ol, none⟩) l.length cl) l.length (pcells l) :: L) := fun nq =>
    (hO.drewN nq).ren_set hj (fun x => { x with state := 0 }) (j := 1) (u := .int .i64 0) (by omega) rfl rfl rfl rfl rfl
   have hj2 : j < (e1.opens j).txs.length := by unfold Eng.opens; rw [Eng.upd_len]; exact hj
   have hq : ∀ W, S w0 W (renO b bs k1 (e1.opens j) :: blk wr.heap.size 101 [.int .i64 pk, .int .i64 ((j : Int) + 1)] :: refP 47 109 b K1 e1.last :: rtabP 3 b 2 Qs1 :: sl 101 2 (.slice (some ⟨gl, ol, none⟩) l.length cl) l.length (pcells l) :: L) → W.cell? ⟨wr.heap.size, 1, none⟩ = some (.int .i64 ((j : Int) + 1)) ∧ W.cell? ⟨blkOf bs j, 8, none⟩ = some (.int .i64 (e1.tx j).want.1) ∧ W.cell? ⟨blkOf bs j, 9, none⟩ = some (.int .i64 (e1.tx j).want.2) := fun W h => by
    have hx := (h.ren_txc hj2).2
    have w1 := hx.want1
    have w2 := hx.want2
    rw [hwant] at w1 w2
    exact ⟨h.tail.blk_cell 1 rfl, w1, w2⟩
   have hput := putsG_ok (goesOk n) hand (by rw [hop]; exact ho1.out)
   have hti2 := ht1.out.opens j
   have hti3 : Times (putsG (goesN n) (e1.opens j) j ((e1.tx j).want.1, (e1.tx j).want.2)) := Times.putsG (fun e i why h => Times.goesN n e i why h) hti2 j _
   have hRm2 := hRm1.opens hst
   have hwr : ∀ W, S w0 W (renO b bs k1 (e1.opens j) :: blk wr.heap.size 101 [.int .i64 pk, .int .i64 ((j : Int) + 1)] :: refP 47 109 b K1 e1.last :: rtabP 3 b 2 Qs1 :: sl 101 2 (.slice (some ⟨gl, ol, none⟩) l.length cl) l.length (pcells l) :: L) →
     Calls Tryz.prog 60 #[.pointer (some ⟨b, 0, none⟩), .int .i64 ((j : Int) + 1), .agg #[.int .i64 (e1.tx j).want.1, .int .i64 (e1.tx j).want.2]] W fun r w' => r = .returned (.tuple #[]) ∧ S w0 w' (sl 101 2 (.slice (some ⟨gl, ol, none⟩) l.length cl) l.length (pcells l) :: renP M [] b bs (putsG (goesN n) (e1.opens j) j ((e1.tx j).want.1, (e1.tx j).want.2)) :: L) := fun W h => by
    have h2 : S w0 W (renP M [j] b bs (e1.opens j) :: sl 101 2 (.slice (some ⟨gl, ol, none⟩) l.length cl) l.length (pcells l) :: L) := S.ren_shut (e := e1.opens j) ⟨hS1, hST1, hRm2⟩ (S.tail (P := blk wr.heap.size 101 [.int .i64 pk, .int .i64 ((j : Int) + 1)]) (h.conv (by
     simp only [all]
     show _ = sep _ (sep (refP _ _ b K1 e1.last) (sep (rtabP _ b 2 Qs1) _))
     ac_rfl)))
    exact (HG.out w0 W b bs (e1.opens j) j _ _ _ N _ M hand hti2 (by rw [hop]; exact ho1.out) hN hM h2).mono fun r w' h => ⟨h.1, h.2.swap⟩
   have HSET := hid hset; have HQ := hid hq; have HWR := hid hwr; have HF3 := hid hf3; have HPUT := hid hput; have HOP := hid hop; have HT3 := hid hti3
   clear hp hd hok2 hf2 hk hand hf3 hop hsr hse hsx hO hc hv hrow hx hset hq hput hwr hwant hok1 hf1 hj2 hst hti2 hti3 hRm1 hRm2 hS1 hST1 ht1
   go_wp2_with fail
   go_quiet (fail)
   go_wp2_with fail
   have HR0 := hid (HSET.out nq)
   refine region_U (S := fun w' => w'.cell? ⟨wr.heap.size, 1, none⟩ = some (.int .i64 ((j : Int) + 1)) ∧ w'.cell? ⟨blkOf bs j, 8, none⟩ = some (.int .i64 (e1.tx j).want.1) ∧ w'.cell? ⟨blkOf bs j, 9, none⟩ = some (.int .i64 (e1.tx j).want.2)) (u := 7) (by kernel_rfl) (HQ.out _ HR0.out.drew) (fun hHeld => ?_)
   refine anyU_take (i := 0) (v := ?_) rfl (by kernel_rfl) (fun _ _ _ h => h) (Or.inl ⟨by rfl, ?_⟩) hHeld ?_
   rotate_left
   ·(intro w hSw; (try dsimp only at hSw); go_simp) <;> with_reducible rfl
   try simp only [putU]
   refine anyU_pure (i := 1) (v := ?_) rfl (by kernel_rfl) (fun _ _ _ h => h) (Or.inl ⟨by rfl, ?_⟩) (fun _ => hHeld) ?_
   rotate_left
   ·(intro w _; go_simp) <;> with_reducible rfl
   try simp only [putU]
   refine anyU_take (i := 2) (v := ?_) rfl (by kernel_rfl) (fun _ _ _ h => h) (Or.inl ⟨by rfl, ?_⟩) hHeld ?_
   rotate_left
   ·(intro w hSw; (try dsimp only at hSw); go_simp) <;> with_reducible rfl
   try simp only [putU]
   refine anyU_pure (i := 3) (v := ?_) rfl (by kernel_rfl) (fun _ _ _ h => h) (Or.inl ⟨by rfl, ?_⟩) (fun _ => hHeld) ?_
   rotate_left
   ·(intro w _; go_simp) <;> with_reducible rfl
   try simp only [putU]
   refine anyU_pure (i := 4) (v := ?_) rfl (by kernel_rfl) (fun _ _ _ h => h) (Or.inl ⟨by rfl, ?_⟩) (fun _ => hHeld) ?_
   rotate_left
   ·(intro w _; go_simp) <;> with_reducible rfl
   try simp only [putU]
   refine anyU_pure (i := 5) (v := ?_) rfl (by kernel_rfl) (fun _ _ _ h => h) (Or.inl ⟨by rfl, ?_⟩) (fun _ => hHeld) ?_
   rotate_left
   ·(intro w _; go_simp) <;> with_reducible rfl
   try simp only [putU]
   refine anyU_take (i := 6) (v := ?_) rfl (by kernel_rfl) (fun _ _ _ h => h) (Or.inl ⟨by rfl, ?_⟩) hHeld ?_
   rotate_left
   ·(intro w hSw; (try dsimp only at hSw); go_simp) <;> with_reducible rfl
   try simp only [putU]
   have HS := hid HR0.out.drew
   clear hHeld
   refine anyU_world (fun w => Hid (S w0 w _)) HS (fun w1 HS => ?_)
   refine anyU_next (rs := [7]) (by kernel_rfl) (by simp) ?_
   refine NextU.cons rfl (fun K hK => ?_) ?_
   ·go_simp
    go_wp2_with (go_at_call 60; with_reducible refine (HWR.out _ HS.out).mono ?_; rintro r w5 ⟨rfl, hs5⟩; have H5 := hid hs5; clear hs5)
    refine hK.out _ _ (fun h => Bool.noConfusion (show true = false from h)) ?_
    clear hK K
    refine anyU_done (by kernel_rfl) ?_ _
    go_wp2_with fail
    go_roundw
    case rel => exact ⟨m + 1, _, by omega, by go_num, hid HPUT.out.1, HT3, hid (by have := HPUT.out.2.1; rw [HOP.out] at this; exact Nat.le_trans this ho1.out), HF3, H5.out⟩
    case measure => simp [intOf]; omega
   exact NextU.nil
  ·have hd : l.drop m = [] := List.drop_eq_nil_iff.2 (by omega)
   have hf2 := hf1.out
   rw [hd] at hf2
   have HF2 := hid hf2; have HSR := hid hsr
   clear hd hf2 hsr hf1 hok1 ht1
   go_wp2_with fail
   go_end0
   exact ⟨rfl, by rw [HFR.out, HF2.out]; exact HSR.out.tail⟩
end Go.Proofs.YtmfngjclccehaaaGreatDoor
/- The reference's store: Read. -/
namespace Go.Sep
open Go Go.RowKit Go.Proofs.YtmfngjclccehaaaGreatDoor
def bcells (r : Option (Int × Int)) : List Value := match r with | some p => [.int .i64 p.1, .int .i64 p.2] | none => [.int .i64 0, .int .i64 0]
def rreadAns (k : Int) (r : Option (Int × Int)) : Value := if 0 ≤ k ∧ k ≤ 9 then (match r with | some p => .tuple #[.agg #[.int .i64 p.1, .int .i64 p.2], .int .i64 0] | none => .tuple #[.agg #[.int .i64 0, .int .i64 0], .int .i64 8]) else .tuple #[.agg #[.int .i64 0, .int .i64 0], .int .i64 2]
end Go.Sep
namespace Go.Proofs.YtmfngjclccehaaaGreatDoor
open Go Go.RowKit Go.Sep
set_option maxRecDepth 40000 in
set_option maxHeartbeats 4000000 in
theorem rreadK_any (w0 w : World) (b : Nat) (v : Value) (K : List Kep) (last k at_ : Int) (L : List HProp) (hs : S w0 w (refK 47 109 b v K last :: L)) :
  Calls Tryz.prog 50 #[.pointer (some ⟨b, 0, none⟩), .int .i64 k, .int .i64 at_] w fun e w' => e = .returned (rreadAns k (rread K k at_)) ∧ S w0 w' (refK 47 109 b v K last :: L) := by
 by_cases hk : 0 ≤ k ∧ k ≤ 9
 ·have hkb : decide ((0 : Int) ≤ k ∧ k ≤ 9) = true := decide_eq_true hk
  have h1 := hs.sep_elim
  obtain ⟨a, c, rfl, hc1, hc2, _⟩ := h1.swap.sl_val
  unfold maxLen at hc2
  have h2 := (h1.alloc #[.int .i64 0, .int .i64 0] 107).alloc #[.int .i64 0, .int .i64 0] 107
  rw [World.size_alloc] at h2
  have c0 := h2.tail.tail.c0_cell 0 rfl
  have hans : ∀ r, rreadAns k r = (match r with | some p => .tuple #[.agg #[.int .i64 p.1, .int .i64 p.2], .int .i64 0] | none => .tuple #[.agg #[.int .i64 0, .int .i64 0], .int .i64 8]) := fun r => by unfold rreadAns; rw [if_pos hk]
  have H2 := hid h2; have HANS := hid hans
  clear hs h1 h2 hk hans
  go_enter Tryz.func50, Tryz.ntmps50
  go_wp2_with (go_at_call 44; with_reducible refine (in_any _ _ _ _).mono ?_; rw [hkb]; rintro e w' ⟨rfl, rfl⟩)
  go_loopw [9, 22] (fun sb cn wr => ∃ i : Nat, i ≤ K.length ∧ cn = .int .i64 i ∧ sb = .bool (rread (K.take i) k at_).isSome ∧ S w0 wr (blk (w.heap.size + 1) 107 (bcells (rread (K.take i) k at_)) :: blk w.heap.size 107 [.int .i64 0, .int .i64 0] :: cells b 0 [.slice a K.length c, .int .i64 last] :: sl 109 3 (.slice a K.length c) K.length (fcells kcells K) :: L)) (fun _ cn _ => K.length - (intOf cn).toNat)
  case atStart => exact ⟨0, Nat.zero_le _, rfl, rfl, H2.out⟩
  case round =>
   rename World => wr
   obtain ⟨i, hi, rfl, rfl, hsr⟩ := hrel
   clear H2
   by_cases hlt : i < K.length
   ·have hp : K[i]? = some K[i] := by simp [hlt]
    generalize K[i] = x at hp
    obtain ⟨g, og, rfl, _, d0, d1, d2⟩ := (hsr.conv (M := sl 109 3 (.slice a K.length c) K.length (fcells kcells K) :: blk (w.heap.size + 1) 107 (bcells (rread (K.take i) k at_)) :: blk w.heap.size 107 [.int .i64 0, .int .i64 0] :: cells b 0 [.slice a K.length c, .int .i64 last] :: L) (by simp only [all]; ac_rfl)).ref_at hp
    have hsn : rread (K.take (i + 1)) k at_ = rstep k at_ (rread (K.take i) k at_) x := by rw [take_succ_get hp, rread_snoc]
    generalize rread (K.take i) k at_ = r at hsr hsn ⊢
    have hsx := hsr.alloc #[.int .i64 x.1, .int .i64 x.2.1, .int .i64 x.2.2] 109
    have HSN := hid hsn
    obtain ⟨x1, x2, x3⟩ := x
    simp only at d0 d1 d2 hsx
    by_cases hx : x1 = k
    ·by_cases ha : x2 ≤ at_
     ·cases r with
      | none =>
       have hn : rread (K.take (i + 1)) k at_ = some (x2, x3) := by rw [HSN.out]; unfold rstep; rw [if_pos ⟨hx, ha, .inl rfl⟩]
       have e0 := hsx.swap.blk_cell 0 rfl
       have e1 := hsx.swap.blk_cell 1 rfl
       have f0 := hsx.swap.blk_free 0
       have f1 := hsx.swap.blk_free 1
       have hfin := ((hsx.swap.blk_set 0 (by simp [bcells]) (.int .i64 x2)).blk_set 1 (by simp [bcells]) (.int .i64 x3)).swap.tail
       have HN := hid hn; have HF := hid hfin
       subst hx
       clear hsr hsx hsn hn hfin hp HSN
       go_wp2_with fail
       go_roundw
       case rel => exact ⟨i + 1, by omega, by go_num, by rw [HN.out] <;> rfl, by rw [HN.out]; exact HF.out⟩
       case measure => simp [intOf]; omega
      | some cc =>
       obtain ⟨c1, c2⟩ := cc
       have e0 := hsx.swap.blk_cell 0 rfl
       have e1 := hsx.swap.blk_cell 1 rfl
       have f0 := hsx.swap.blk_free 0
       have f1 := hsx.swap.blk_free 1
       by_cases hl : c1 < x2
       ·have hn : rread (K.take (i + 1)) k at_ = some (x2, x3) := by rw [HSN.out]; unfold rstep; rw [if_pos ⟨hx, ha, .inr ⟨_, rfl, hl⟩⟩]
        have hfin := ((hsx.swap.blk_set 0 (by simp [bcells]) (.int .i64 x2)).blk_set 1 (by simp [bcells]) (.int .i64 x3)).swap.tail
        have HN := hid hn; have HF := hid hfin
        subst hx
        clear hsr hsx hsn hn hfin hp HSN
        go_wp2_with fail
        go_roundw
        case rel => exact ⟨i + 1, by omega, by go_num, by rw [HN.out] <;> rfl, by rw [HN.out]; exact HF.out⟩
        case measure => simp [intOf]; omega
       ·have hn : rread (K.take (i + 1)) k at_ = some (c1, c2) := by
         rw [HSN.out]; unfold rstep; rw [if_neg]
         rintro ⟨_, _, h | ⟨d, h, h'⟩⟩
         ·cases h
         ·cases h; exact hl h'
        have HN := hid hn; have HF := hid hsx.tail
        subst hx
        clear hsr hsx hsn hn hp HSN
        go_wp2_with fail
        go_roundw
        case rel => exact ⟨i + 1, by omega, by go_num, by rw [HN.out] <;> rfl, by rw [HN.out]; exact HF.out⟩
        case measure => simp [intOf]; omega
     ·have hn : rread (K.take (i + 1)) k at_ = r := by rw [HSN.out]; unfold rstep; rw [if_neg (fun h => ha h.2.1)]
      have HN := hid hn; have HF := hid hsx.tail
      subst hx
      clear hsr hsx hsn hn hp HSN
      go_wp2_with fail
      go_roundw
      case rel => exact ⟨i + 1, by omega, by go_num, by rw [HN.out], by rw [HN.out]; exact HF.out⟩
      case measure => simp [intOf]; omega
    ·have hxb : (x1 == k) = false := by simpa using hx
     have hn : rread (K.take (i + 1)) k at_ = r := by rw [HSN.out]; unfold rstep; rw [if_neg (fun h => hx h.1)]
     have HN := hid hn; have HF := hid hsx.tail
     clear hsr hsx hsn hn hp HSN hx
     go_wp2_with fail
     go_roundw
     case rel => exact ⟨i + 1, by omega, by go_num, by rw [HN.out], by rw [HN.out]; exact HF.out⟩
     case measure => simp [intOf]; omega
   ·obtain rfl : i = K.length := by omega
    rw [List.take_length] at hsr
    rw [List.take_length]
    obtain ⟨r, hrr⟩ : ∃ r, rread K k at_ = r := ⟨_, rfl⟩
    rw [hrr] at hsr
    rw [hrr]
    have HRR := hid hrr
    clear hrr
    have g0 := hsr.swap.blk_cell 0 rfl
    have g1 := hsr.swap.blk_cell 1 rfl
    have f0 := hsr.swap.blk_free 0
    have f1 := hsr.swap.blk_free 1
    cases r with
    | none =>
     have hfin := (hsr.swap.blk_set 0 (by simp) (.int .i64 0)).blk_set 1 (by simp) (.int .i64 0)
     have e0 := hfin.blk_cell 0 rfl
     have e1 := hfin.blk_cell 1 rfl
     have HF := hid hfin
     clear hsr hfin
     go_wp2_with fail
     exact bodyPost_ret (v := rreadAns k none) (by rw [HANS.out]; simp [results, Tryz.results50, go_sem, e0, e1]) rfl ⟨by rw [HRR.out], S.sep_intro HF.out.tail.tail⟩
    | some p =>
     have p0 := hsr.blk_cell 0 rfl
     have p1 := hsr.blk_cell 1 rfl
     have hfin := (hsr.swap.blk_set 0 (by simp) (.int .i64 p.1)).blk_set 1 (by simp) (.int .i64 p.2)
     have e0 := hfin.blk_cell 0 rfl
     have e1 := hfin.blk_cell 1 rfl
     have HF := hid hfin
     clear hsr hfin
     go_wp2_with fail
     exact bodyPost_ret (v := rreadAns k (some p)) (by rw [HANS.out]; simp [results, Tryz.results50, go_sem, e0, e1]) rfl ⟨by rw [HRR.out], S.sep_intro HF.out.tail.tail⟩
 ·have hkb : decide ((0 : Int) ≤ k ∧ k ≤ 9) = false := decide_eq_false hk
  have hans : ∀ r, rreadAns k r = .tuple #[.agg #[.int .i64 0, .int .i64 0], .int .i64 2] := fun r => by unfold rreadAns; rw [if_neg hk]
  have hfin := hs.alloc #[.int .i64 0, .int .i64 0] 107
  have e0 := hfin.blk_cell 0 rfl
  have e1 := hfin.blk_cell 1 rfl
  have H2 := hid hfin.tail; have HANS := hid hans
  clear hs hk hans hfin
  go_enter Tryz.func50, Tryz.ntmps50
  go_wp2_with (go_at_call 44; with_reducible refine (in_any _ _ _ _).mono ?_; rw [hkb]; rintro e w' ⟨rfl, rfl⟩)
  exact bodyPost_ret (v := rreadAns k none) (by rw [HANS.out]; simp [results, Tryz.results50, go_sem, e0, e1]) rfl ⟨by rw [HANS.out, HANS.out], H2.out⟩
theorem rread_any (w0 w : World) (b : Nat) (K : List Kep) (last k at_ : Int) (L : List HProp) (hs : S w0 w (refP 47 109 b K last :: L)) :
  Calls Tryz.prog 50 #[.pointer (some ⟨b, 0, none⟩), .int .i64 k, .int .i64 at_] w fun e w' => e = .returned (rreadAns k (rread K k at_)) ∧ S w0 w' (refP 47 109 b K last :: L) := by
 obtain ⟨v, h⟩ := hs.ex_elim
 exact (rreadK_any w0 w b v K last k at_ L h).mono fun e w' ⟨h1, h2⟩ => ⟨h1, .ex_intro v h2⟩
end Go.Proofs.YtmfngjclccehaaaGreatDoor
/- The library's sort.Ints at an owned slice. -/
namespace Go.Proofs.YtmfngjclccehaaaGreatDoor
open Go Go.RowKit Go.Sep
theorem sort_ints2 (w0 w : World) (v : Value) (l : List Int) (L : List HProp) (hs : S w0 w (sl 3 1 v l.length (icells l) :: L)) (hb : l.length ≤ 4000000) :
  Calls Tryz.prog 79 #[v] w fun e w' => e = .returned (.tuple #[]) ∧ S w0 w' (sl 3 1 v l.length (icells (sortI l)) :: L) := by
 rcases Nat.eq_zero_or_pos l.length with h0 | hp
 ·obtain rfl := List.eq_nil_of_length_eq_zero h0
  obtain ⟨a, cap, rfl, _⟩ := hs.sl_val
  exact (Tryz.sort_Ints_none a cap w).mono fun e w' ⟨h1, h2⟩ => ⟨h1, by rw [h2]; simpa [sortI] using hs⟩
 ·obtain ⟨g, o, cap, rfl, _⟩ := hs.sl_some (by rw [icells_length]; exact hp)
  obtain ⟨h1, h2, h3⟩ := hs.sl_sort
  refine (Tryz.sort_Ints g o cap l w h1 h2 (by omega)).mono fun e w' ⟨he, n, os, hw⟩ => ⟨he, ?_⟩
  rw [hw]
  exact h3 (sortI l) n os (sortI_len l)
end Go.Proofs.YtmfngjclccehaaaGreatDoor
/- The program's store: All. -/
namespace Go.Sep
open Go Go.RowKit
def allK (f : Int → Option (Int × Int)) (k : Nat) : List (Int × Int) := match f k with | some p => [((k : Int), p.2)] | none => []
def allL (f : Int → Option (Int × Int)) (n : Nat) : List (Int × Int) := (List.range n).flatMap (allK f)
theorem allL_succ (f : Int → Option (Int × Int)) (n : Nat) : allL f (n + 1) = allL f n ++ allK f n := by simp [allL, List.range_succ, List.flatMap_append]
theorem allK_some {f : Int → Option (Int × Int)} {k : Nat} {p : Int × Int} (h : f k = some p) : allK f k = [((k : Int), p.2)] := by unfold allK; rw [h]
theorem allK_none {f : Int → Option (Int × Int)} {k : Nat} (h : f k = none) : allK f k = [] := by unfold allK; rw [h]
theorem allL_le (f : Int → Option (Int × Int)) : ∀ n, (allL f n).length ≤ n
 | 0 => by simp [allL]
 | n + 1 => by
  rw [allL_succ, List.length_append]
  have := allL_le f n
  have : (allK f n).length ≤ 1 := by unfold allK; split <;> simp
  omega
theorem allL_congr {f g : Int → Option (Int × Int)} {n : Nat} (h : ∀ k < n, f (k : Nat) = g (k : Nat)) : allL f n = allL g n := by
 induction n with
 | zero => rfl
 | succ n ih =>
  rw [allL_succ, allL_succ, ih (fun k hk => h k (by omega))]
  unfold allK
  rw [h n (by omega)]
end Go.Sep
namespace Go.Proofs.YtmfngjclccehaaaGreatDoor
open Go Go.RowKit Go.Sep
set_option maxRecDepth 40000 in
set_option maxHeartbeats 4000000 in
theorem sall_any (w0 w : World) (b : Nat) (V : List Vers) (last at_ : Int) (L : List HProp) (hs : S w0 w (storeP 107 b 0 V last :: L)) (hb : ∀ vs ∈ V, vs.length ≤ 2000000) :
  Calls Tryz.prog 70 #[.pointer (some ⟨b, 0, none⟩), .int .i64 at_] w fun e w' => ∃ v, e = .returned v ∧ S w0 w' (sl 101 2 v (allL (fun k => readV ((V[k.toNat]?).getD []) at_) 10).length (pcells (allL (fun k => readV ((V[k.toNat]?).getD []) at_) 10)) :: storeP 107 b 0 V last :: L) := by
 have hlen := hs.store_len
 have H2 := hid (hs.sl_nil (e := 101) (size := 2)); have HL := hid hlen; have HB := hid hb
 clear hs hlen hb
 go_enter Tryz.func70, Tryz.ntmps70
 go_wp2_with fail
 go_loopw [5, 9] (fun u cn wr => ∃ n : Nat, n ≤ 10 ∧ cn = .int .i64 n ∧ S w0 wr (sl 101 2 u (allL (fun k => readV ((V[k.toNat]?).getD []) at_) n).length (pcells (allL (fun k => readV ((V[k.toNat]?).getD []) at_) n)) :: storeP 107 b 0 V last :: L)) (fun _ cn _ => 10 - (intOf cn).toNat)
 case atStart => exact ⟨0, Nat.zero_le _, rfl, H2.out⟩
 case round =>
  rename World => wr
  obtain ⟨n, hn, rfl, hsr⟩ := hrel
  clear H2
  by_cases hlt : n < 10
  ·obtain ⟨ao, co, rfl, hco, hco2, _⟩ := hsr.sl_val
   unfold maxLen at hco2
   have hle := allL_le (fun k => readV ((V[k.toNat]?).getD []) at_) n
   have hsc := allL_succ (fun k => readV ((V[k.toNat]?).getD []) at_) n
   obtain ⟨vs, hvs⟩ : ∃ vs, V[n]? = some vs := ⟨V[n]'(by rw [HL.out]; exact hlt), by simp⟩
   have hcall := read_any b 0 V last at_ n vs w0 wr _ hlt hsr.swap hvs (HB.out vs (List.mem_of_getElem? hvs))
   obtain ⟨r, hr⟩ : ∃ r, readV vs at_ = r := ⟨_, rfl⟩
   have hr2 : (fun k : Int => readV ((V[k.toNat]?).getD []) at_) (n : Nat) = r := by simp only [Int.toNat_natCast]; rw [hvs]; exact hr
   rw [hr] at hcall
   have HC := hid hcall; have HSC := hid hsc; have HR := hid hr2
   clear hcall hsc hr hr2 hsr hvs
   go_wp2_with fail
   with_reducible refine HC.out.mono ?_
   rintro e w2 ⟨rfl, hs2⟩
   unfold readAns
   cases r with
   | none =>
    have H3 := hid hs2.swap
    have hx := allK_none (f := fun k : Int => readV ((V[k.toNat]?).getD []) at_) (k := n) HR.out
    have HX := hid hx
    clear hs2 hx HC
    go_wp2_with fail
    go_roundw
    case rel => exact ⟨n + 1, by omega, by go_num, by rw [HSC.out, HX.out, List.append_nil]; exact (H3.out.alloc _ _).tail⟩
    case measure => simp [intOf]; omega
   | some p =>
    have hx := allK_some (f := fun k : Int => readV ((V[k.toNat]?).getD []) at_) (k := n) HR.out
    obtain ⟨i0, hi0, hz0, hz1, hz2⟩ := info_parts Tryz.info101
    have hs3 := (hs2.swap.alloc #[.int .i64 p.1, .int .i64 p.2] 107).tail.alloc #[.int .i64 (n : Int), .int .i64 p.2] 101
    have hn1 := news_blk hs3
    rw [World.size_alloc] at hn1
    have HX := hid hx; have HN1 := hid hn1; have H9 := hid hs3.tail
    clear hs2 hs3 hn1 hx HC
    go_wp2_with (at_builtin; refine wpList_append rfl (.tmp 21) (.tmp 26) 22 rfl 101 i0 _ 2 16 Tryz.underlying22 hi0 hz0 hz1 hz2 rfl (by decide) H9.out rfl (some ⟨w2.heap.size + 1, 0, none⟩) 1 1 [.int .i64 (n : Int), .int .i64 p.2] rfl rfl HN1.out (by simp [Value.oneCell']) (by unfold maxLen; omega) (by omega) ?_; intro v1 w5 hs1; have HS := hid hs1; clear hs1)
    go_roundw
    case rel => exact ⟨n + 1, by omega, by go_num, by rw [HSC.out, HX.out, pcells_append, List.length_append, List.length_singleton]; exact HS.out⟩
    case measure => simp [intOf]; omega
  ·obtain rfl : n = 10 := by omega
   have H4 := hid hsr
   clear hsr
   go_wp2_with fail
   go_ret
   exact ⟨_, rfl, H4.out⟩
end Go.Proofs.YtmfngjclccehaaaGreatDoor
/- The reference's store: Newer, All; the program's All. -/
namespace Go.Sep
open Go Go.RowKit Go.Proofs.YtmfngjclccehaaaGreatDoor
def ransV (r : Option (Int × Int)) : Value := match r with | some p => .tuple #[.agg #[.int .i64 p.1, .int .i64 p.2], .int .i64 0] | none => .tuple #[.agg #[.int .i64 0, .int .i64 0], .int .i64 8]
theorem rreadAns_in {k : Int} (h : 0 ≤ k ∧ k ≤ 9) (r : Option (Int × Int)) : rreadAns k r = ransV r := by unfold rreadAns ransV; rw [if_pos h]; cases r <;> rfl
theorem rnewer_le (K : List Kep) (k at_ : Int) : (rnewer K k at_).length ≤ K.length := by
 unfold rnewer; rw [List.length_map]; exact List.length_filter_le _ _
end Go.Sep
namespace Go.Proofs.YtmfngjclccehaaaGreatDoor
open Go Go.RowKit Go.Sep
def RNewPost (w0 : World) (b : Nat) (K : List Kep) (last k at_ : Int) (L : List HProp) (e : Ending) (w' : World) : Prop :=
 if 0 ≤ k ∧ k ≤ 9 then ∃ v, e = .returned (.tuple #[v, .int .i64 0]) ∧ S w0 w' (sl 3 1 v (rnewer K k at_).length (icells (sortI (rnewer K k at_))) :: refP 47 109 b K last :: L)
 else e = .returned (.tuple #[.slice none 0 0, .int .i64 2]) ∧ S w0 w' (refP 47 109 b K last :: L)
set_option maxRecDepth 40000 in
set_option maxHeartbeats 4000000 in
theorem rnewer_any (w0 w : World) (b : Nat) (K : List Kep) (last k at_ : Int) (L : List HProp) (hs : S w0 w (refP 47 109 b K last :: L)) (hb : K.length ≤ 1000000) :
  Calls Tryz.prog 51 #[.pointer (some ⟨b, 0, none⟩), .int .i64 k, .int .i64 at_] w (RNewPost w0 b K last k at_ L) := by
 by_cases hk : 0 ≤ k ∧ k ≤ 9
 ·have hkb : decide ((0 : Int) ≤ k ∧ k ≤ 9) = true := decide_eq_true hk
  obtain ⟨v, h1⟩ := hs.ref_elim
  obtain ⟨a, c, rfl, hc1, hc2, _⟩ := h1.swap.sl_val
  unfold maxLen at hc2
  have c0 := h1.c0_cell 0 rfl
  have hpost : ∀ e w', (∃ v, e = Ending.returned (.tuple #[v, .int .i64 0]) ∧ S w0 w' (sl 3 1 v (rnewer K k at_).length (icells (sortI (rnewer K k at_))) :: refP 47 109 b K last :: L)) → RNewPost w0 b K last k at_ L e w' := fun e w' h => by
   unfold RNewPost; rw [if_pos hk]; exact h
  have HPO := hid hpost; have H2 := hid (h1.sl_nil (e := 3) (size := 1))
  clear hs h1 hk hpost
  go_enter Tryz.func51, Tryz.ntmps51
  go_wp2_with (go_at_call 44; with_reducible refine (in_any _ _ _ _).mono ?_; rw [hkb]; rintro e w' ⟨rfl, rfl⟩)
  go_loopw [8, 19] (fun u cn wr => ∃ i : Nat, i ≤ K.length ∧ cn = .int .i64 i ∧ S w0 wr (sl 3 1 u (rnewer (K.take i) k at_).length (icells (rnewer (K.take i) k at_)) :: cells b 0 [.slice a K.length c, .int .i64 last] :: sl 109 3 (.slice a K.length c) K.length (fcells kcells K) :: L)) (fun _ cn _ => K.length - (intOf cn).toNat)
  case atStart => exact ⟨0, Nat.zero_le _, rfl, H2.out⟩
  case round =>
   rename World => wr
   obtain ⟨i, hi, rfl, hsr⟩ := hrel
   clear H2
   by_cases hlt : i < K.length
   ·have hp : K[i]? = some K[i] := by simp [hlt]
    generalize K[i] = x at hp
    obtain ⟨g, og, rfl, _, d0, d1, d2⟩ := hsr.rot3.ref_at hp
    have hsn := rnewer_snoc (K.take i) x k at_
    rw [← take_succ_get hp] at hsn
    have hle := rnewer_le (K.take i) k at_
    rw [List.length_take] at hle
    have hsx := (hsr.alloc #[.int .i64 x.1, .int .i64 x.2.1, .int .i64 x.2.2] 109).tail
    have HSN := hid hsn
    obtain ⟨x1, x2, x3⟩ := x
    simp only at d0 d1 d2 hsx
    by_cases hx : x1 = k
    ·subst hx
     by_cases ha : at_ < x2
     ·obtain ⟨ao, co, rfl, hco, hco2, _⟩ := hsx.sl_val
      unfold maxLen at hco2
      have hn := HSN.out
      simp only [true_and] at hn
      rw [if_pos ha] at hn
      obtain ⟨i0, hi0, hz0, hz1, hz2⟩ := info_parts Tryz.info3
      have hs1 := hsx.alloc #[.int .i64 x2] 3
      have hn1 := news_blk hs1
      rw [World.size_alloc] at hn1
      have hs2 := hs1.tail
      have HX := hid hn; have HN1 := hid hn1; have H9 := hid hs2
      clear hs1 hs2 hn1 hsx hsr hn hsn hp HSN
      go_wp2_with (at_builtin; refine wpList_append rfl (.tmp 34) (.tmp 38) 48 rfl 3 i0 _ 1 8 Tryz.underlying48 hi0 hz0 hz1 hz2 rfl (by decide) H9.out rfl (some ⟨wr.heap.size + 1, 0, none⟩) 1 1 [.int .i64 x2] rfl rfl HN1.out (by simp [Value.oneCell']) (by unfold maxLen; omega) (by omega) ?_; intro v1 w5 hs1; have HS := hid hs1; clear hs1)
      go_roundw
      case rel => exact ⟨i + 1, by omega, by go_num, by rw [HX.out, List.length_append, List.length_singleton, icells_append]; exact HS.out⟩
      case measure => simp [intOf]; omega
     ·have hn : rnewer (K.take (i + 1)) x1 at_ = rnewer (K.take i) x1 at_ := by rw [HSN.out, if_neg (fun h => ha h.2), List.append_nil]
      have HX := hid hn; have HF := hid hsx
      clear hsx hsr hn hsn hp HSN
      go_wp2_with fail
      go_roundw
      case rel => exact ⟨i + 1, by omega, by go_num, by rw [HX.out]; exact HF.out⟩
      case measure => simp [intOf]; omega
    ·have hxb : (x1 == k) = false := by simpa using hx
     have hn : rnewer (K.take (i + 1)) k at_ = rnewer (K.take i) k at_ := by rw [HSN.out, if_neg (fun h => hx h.1), List.append_nil]
     have HX := hid hn; have HF := hid hsx
     clear hsx hsr hn hsn hp HSN hx
     go_wp2_with fail
     go_roundw
     case rel => exact ⟨i + 1, by omega, by go_num, by rw [HX.out]; exact HF.out⟩
     case measure => simp [intOf]; omega
   ·obtain rfl : i = K.length := by omega
    rw [List.take_length] at hsr
    have hle := rnewer_le K k at_
    have H4 := hid hsr
    clear hsr
    go_wp2_with (go_at_call 79; with_reducible refine (sort_ints2 w0 _ _ (rnewer K k at_) _ H4.out (by omega)).mono ?_; rintro e w2 ⟨rfl, hs2⟩; have H5 := hid hs2; clear hs2)
    go_ret2
    exact HPO.out _ _ ⟨_, rfl, (S.swap (S.ref_intro (H5.out.conv (M := cells b 0 [.slice a K.length c, .int .i64 last] :: sl 109 3 (.slice a K.length c) K.length (fcells kcells K) :: sl 3 1 _ (rnewer K k at_).length (icells (sortI (rnewer K k at_))) :: L) (by simp only [all]; ac_rfl))))⟩
 ·have hkb : decide ((0 : Int) ≤ k ∧ k ≤ 9) = false := decide_eq_false hk
  have hpost : ∀ e w', (e = Ending.returned (.tuple #[.slice none 0 0, .int .i64 2]) ∧ S w0 w' (refP 47 109 b K last :: L)) → RNewPost w0 b K last k at_ L e w' := fun e w' h => by
   unfold RNewPost; rw [if_neg hk]; exact h
  have HPO := hid hpost; have H2 := hid hs
  clear hs hk hpost
  go_enter Tryz.func51, Tryz.ntmps51
  go_wp2_with (go_at_call 44; with_reducible refine (in_any _ _ _ _).mono ?_; rw [hkb]; rintro e w' ⟨rfl, rfl⟩)
  go_ret2
  exact HPO.out _ _ ⟨rfl, H2.out⟩
set_option maxRecDepth 40000 in
set_option maxHeartbeats 4000000 in
theorem rallK_any (w0 w : World) (b : Nat) (kv : Value) (K : List Kep) (last at_ : Int) (L : List HProp) (hs : S w0 w (refK 47 109 b kv K last :: L)) :
  Calls Tryz.prog 35 #[.pointer (some ⟨b, 0, none⟩), .int .i64 at_] w fun e w' => ∃ v, e = .returned v ∧ S w0 w' (sl 101 2 v (allL (fun k => rread K k at_) 10).length (pcells (allL (fun k => rread K k at_) 10)) :: refK 47 109 b kv K last :: L) := by
 have H2 := hid (hs.sl_nil (e := 101) (size := 2))
 clear hs
 go_enter Tryz.func35, Tryz.ntmps35
 go_wp2_with fail
 go_loopw [5, 9] (fun u cn wr => ∃ n : Nat, n ≤ 10 ∧ cn = .int .i64 n ∧ S w0 wr (sl 101 2 u (allL (fun k => rread K k at_) n).length (pcells (allL (fun k => rread K k at_) n)) :: refK 47 109 b kv K last :: L)) (fun _ cn _ => 10 - (intOf cn).toNat)
 case atStart => exact ⟨0, Nat.zero_le _, rfl, H2.out⟩
 case round =>
  rename World => wr
  obtain ⟨n, hn, rfl, hsr⟩ := hrel
  clear H2
  by_cases hlt : n < 10
  ·obtain ⟨ao, co, rfl, hco, hco2, _⟩ := hsr.sl_val
   unfold maxLen at hco2
   have hle := allL_le (fun k => rread K k at_) n
   have hsc := allL_succ (fun k => rread K k at_) n
   have hcall := rreadK_any w0 wr b kv K last n at_ _ hsr.swap
   obtain ⟨r, hr⟩ : ∃ r, rread K n at_ = r := ⟨_, rfl⟩
   rw [hr] at hcall
   rw [rreadAns_in (by omega)] at hcall
   have HC := hid hcall; have HSC := hid hsc; have HR := hid hr
   clear hcall hsc hr hsr
   go_wp2_with fail
   with_reducible refine HC.out.mono ?_
   rintro e w2 ⟨rfl, hs2⟩
   unfold ransV
   cases r with
   | none =>
    have H3 := hid hs2.swap
    have hx := allK_none (f := fun k => rread K k at_) HR.out
    have HX := hid hx
    clear hs2 hx HC
    go_wp2_with fail
    go_roundw
    case rel => exact ⟨n + 1, by omega, by go_num, by rw [HSC.out, HX.out, List.append_nil]; exact (H3.out.alloc _ _).tail⟩
    case measure => simp [intOf]; omega
   | some p =>
    have hx := allK_some (f := fun k => rread K k at_) HR.out
    obtain ⟨i0, hi0, hz0, hz1, hz2⟩ := info_parts Tryz.info101
    have hs3 := (hs2.swap.alloc #[.int .i64 p.1, .int .i64 p.2] 107).tail.alloc #[.int .i64 (n : Int), .int .i64 p.2] 101
    have hn1 := news_blk hs3
    rw [World.size_alloc] at hn1
    have HX := hid hx; have HN1 := hid hn1; have H9 := hid hs3.tail
    clear hs2 hs3 hn1 hx HC
    go_wp2_with (at_builtin; refine wpList_append rfl (.tmp 21) (.tmp 26) 22 rfl 101 i0 _ 2 16 Tryz.underlying22 hi0 hz0 hz1 hz2 rfl (by decide) H9.out rfl (some ⟨w2.heap.size + 1, 0, none⟩) 1 1 [.int .i64 (n : Int), .int .i64 p.2] rfl rfl HN1.out (by simp [Value.oneCell']) (by unfold maxLen; omega) (by omega) ?_; intro v1 w5 hs1; have HS := hid hs1; clear hs1)
    go_roundw
    case rel => exact ⟨n + 1, by omega, by go_num, by rw [HSC.out, HX.out, pcells_append, List.length_append, List.length_singleton]; exact HS.out⟩
    case measure => simp [intOf]; omega
  ·obtain rfl : n = 10 := by omega
   have H4 := hid hsr
   clear hsr
   go_wp2_with fail
   go_ret
   exact ⟨_, rfl, H4.out⟩
end Go.Proofs.YtmfngjclccehaaaGreatDoor
/- The reference's store: Sweep. -/
namespace Go.Proofs.YtmfngjclccehaaaGreatDoor
open Go Go.RowKit Go.Sep
theorem Tryz.info109 : (Tryz.prog.info? 109).map (fun i => (i.zero, i.size, i.bytes)) = some (some (.agg #[.int .i64 0, .int .i64 0, .int .i64 0]), 3, 24) := by kernel_rfl
theorem Tryz.eqlV (p q : Int × Int) (w : World) : (binOp .eql 107 (.agg #[.int .i64 p.1, .int .i64 p.2]) (.agg #[.int .i64 q.1, .int .i64 q.2])).run Tryz.prog w = .ok (.bool (decide (p = q))) w := by
 go_simp
 obtain ⟨a, b⟩ := p
 obtain ⟨c, d⟩ := q
 by_cases h1 : a = c <;> by_cases h2 : b = d <;> simp [h1, h2]
theorem filter_yes {f : Kep → Bool} {K : List Kep} {i : Nat} {x : Kep} (hp : K[i]? = some x) (h : f x = true) : (K.take (i + 1)).filter f = (K.take i).filter f ++ [x] := by
 rw [take_succ_get hp, List.filter_append]; simp [h]
theorem filter_no {f : Kep → Bool} {K : List Kep} {i : Nat} {x : Kep} (hp : K[i]? = some x) (h : f x = false) : (K.take (i + 1)).filter f = (K.take i).filter f := by
 rw [take_succ_get hp, List.filter_append]; simp [h]
theorem filter_take_le (f : Kep → Bool) (K : List Kep) (i : Nat) : ((K.take i).filter f).length ≤ K.length := by
 have h1 := List.length_filter_le f (K.take i)
 rw [List.length_take] at h1; omega
set_option maxRecDepth 40000 in
set_option maxHeartbeats 8000000 in
theorem rsweep_any (w0 w : World) (b : Nat) (K : List Kep) (last at_ : Int) (L : List HProp) (hs : S w0 w (refP 47 109 b K last :: L)) (hb : K.length ≤ 100000) (hok : ∀ x ∈ K, keyOk x.1) :
  Calls Tryz.prog 66 #[.pointer (some ⟨b, 0, none⟩), .int .i64 at_] w fun e w' => e = .returned (.int .i64 ((K.length : Int) - (rswept K at_).length)) ∧ S w0 w' (refP 47 109 b (rswept K at_) last :: L) := by
 obtain ⟨v, h1⟩ := hs.ex_elim
 obtain ⟨a, c, rfl, hc1, hc2, _⟩ := h1.sep_elim.swap.sl_val
 unfold maxLen at hc2
 have c0 := h1.sep_elim.c0_cell 0 rfl
 have H2 := hid (h1.sl_nil (e := 109) (size := 3)); have HOK := hid hok
 clear hs h1 hok
 go_enter Tryz.func66, Tryz.ntmps66
 go_wp2_with fail
 go_loopw [5, 16] (fun u cn wr => ∃ i : Nat, i ≤ K.length ∧ cn = .int .i64 i ∧ S w0 wr (sl 109 3 u ((K.take i).filter (rkeep K at_)).length (fcells kcells ((K.take i).filter (rkeep K at_))) :: refK 47 109 b (.slice a K.length c) K last :: L)) (fun _ cn _ => K.length - (intOf cn).toNat)
 case atStart => exact ⟨0, Nat.zero_le _, rfl, H2.out⟩
 case round =>
  rename World => wr
  obtain ⟨i, hi, rfl, hsr⟩ := hrel
  clear H2 c0
  by_cases hlt : i < K.length
  ·have hp : K[i]? = some K[i] := by simp [hlt]
   generalize K[i] = x at hp
   obtain ⟨au, cu, rfl, hcu, hcu2, _⟩ := hsr.sl_val
   unfold maxLen at hcu2
   have hle := filter_take_le (rkeep K at_) K i
   obtain ⟨g, og, rfl, _, d0, d1, d2⟩ := (S.swap (S.sep_elim (S.swap hsr))).ref_at hp
   have hkx := HOK.out x (List.mem_of_getElem? hp)
   have hfy := filter_yes (f := rkeep K at_) hp
   have hfn := filter_no (f := rkeep K at_) hp
   have hsx := hsr.alloc #[.int .i64 x.1, .int .i64 x.2.1, .int .i64 x.2.2] 109
   obtain ⟨x1, x2, x3⟩ := x
   simp only at d0 d1 d2 hsx hkx
   have hcall := rreadK_any w0 _ b _ K last x1 at_ _ (hsx.conv (M := refK 47 109 b (.slice (some ⟨g, og, none⟩) K.length c) K last :: blk wr.heap.size 109 [.int .i64 x1, .int .i64 x2, .int .i64 x3] :: sl 109 3 (.slice au ((K.take i).filter (rkeep K at_)).length cu) ((K.take i).filter (rkeep K at_)).length (fcells kcells ((K.take i).filter (rkeep K at_))) :: L) (by simp only [all]; ac_rfl))
   rw [rreadAns_in ⟨hkx.1, by have := hkx.2; omega⟩] at hcall
   obtain ⟨r, hr⟩ : ∃ r, rread K x1 at_ = r := ⟨_, rfl⟩
   rw [hr] at hcall
   have hkeep : rkeep K at_ (x1, x2, x3) = decide (at_ < x2 ∨ r = some (x2, x3)) := by unfold rkeep; simp only [hr]
   have HC := hid hcall; have HFY := hid hfy; have HFN := hid hfn; have HKP := hid hkeep
   clear hcall hfy hfn hkeep hr hsr hsx hp hkx
   go_wp2_with fail
   with_reducible refine HC.out.mono ?_
   rintro e w2 ⟨rfl, hs2⟩
   clear HC
   unfold ransV
   have hsz := (hs2.conv (M := blk wr.heap.size 109 [.int .i64 x1, .int .i64 x2, .int .i64 x3] :: sl 109 3 (.slice au ((K.take i).filter (rkeep K at_)).length cu) ((K.take i).filter (rkeep K at_)).length (fcells kcells ((K.take i).filter (rkeep K at_))) :: refK 47 109 b (.slice (some ⟨g, og, none⟩) K.length c) K last :: L) (by simp only [all]; ac_rfl))
   have HZ := hid hsz
   clear hs2 hsz
   cases r with
   | none =>
    have y0 := (HZ.out.alloc #[.int .i64 0, .int .i64 0] 107).swap.blk_cell 0 rfl
    have y1 := (HZ.out.alloc #[.int .i64 0, .int .i64 0] 107).swap.blk_cell 1 rfl
    have y2 := (HZ.out.alloc #[.int .i64 0, .int .i64 0] 107).swap.blk_cell 2 rfl
    by_cases ha : at_ < x2
    ·have hk2 := HFY.out (by rw [HKP.out]; exact decide_eq_true (.inl ha))
     obtain ⟨i0, hi0, hz0, hz1, hz2⟩ := info_parts Tryz.info109
     have hs3 := (HZ.out.alloc #[.int .i64 0, .int .i64 0] 107).tail.tail.alloc #[.int .i64 x1, .int .i64 x2, .int .i64 x3] 109
     have hn1 := news_blk hs3
     rw [World.size_alloc] at hn1
     have HX := hid hk2; have HN1 := hid hn1; have H9 := hid hs3.tail
     clear hs3 hn1 hk2 HFY HFN HKP
     go_wp2_with (at_builtin; refine wpList_append rfl (.tmp 43) (.tmp 45) 45 rfl 109 i0 _ 3 24 Tryz.underlying45 hi0 hz0 hz1 hz2 rfl (by decide) H9.out rfl (some ⟨w2.heap.size + 1, 0, none⟩) 1 1 [.int .i64 x1, .int .i64 x2, .int .i64 x3] rfl rfl HN1.out (by simp [Value.oneCell']) (by unfold maxLen; omega) (by omega) ?_; intro v1 w5 hs1; have HS := hid hs1; clear hs1)
     go_roundw
     case rel => exact ⟨i + 1, by omega, by go_num, by rw [HX.out, kcells_snoc, List.length_append, List.length_singleton]; exact HS.out⟩
     case measure => simp [intOf]; omega
    ·have hk2 := HFN.out (by rw [HKP.out]; exact decide_eq_false (by rintro (h | h); exact ha h; cases h))
     have HX := hid hk2; have H9 := hid (HZ.out.alloc #[.int .i64 0, .int .i64 0] 107).tail.tail
     clear hk2 HFY HFN HKP
     go_wp2_with fail
     go_roundw
     case rel => exact ⟨i + 1, by omega, by go_num, by rw [HX.out]; exact H9.out⟩
     case measure => simp [intOf]; omega
   | some p =>
    obtain ⟨p1, p2⟩ := p
    have y0 := (HZ.out.alloc #[.int .i64 p1, .int .i64 p2] 107).swap.blk_cell 0 rfl
    have y1 := (HZ.out.alloc #[.int .i64 p1, .int .i64 p2] 107).swap.blk_cell 1 rfl
    have y2 := (HZ.out.alloc #[.int .i64 p1, .int .i64 p2] 107).swap.blk_cell 2 rfl
    have hev := fun W => Tryz.eqlV (p1, p2) (x2, x3) W
    by_cases ha : at_ < x2
    ·have hk2 := HFY.out (by rw [HKP.out]; exact decide_eq_true (.inl ha))
     obtain ⟨i0, hi0, hz0, hz1, hz2⟩ := info_parts Tryz.info109
     have hs3 := (HZ.out.alloc #[.int .i64 p1, .int .i64 p2] 107).tail.tail.alloc #[.int .i64 x1, .int .i64 x2, .int .i64 x3] 109
     have hn1 := news_blk hs3
     rw [World.size_alloc] at hn1
     have HX := hid hk2; have HN1 := hid hn1; have H9 := hid hs3.tail
     clear hs3 hn1 hk2 HFY HFN HKP
     go_wp2_with (at_builtin; refine wpList_append rfl (.tmp 43) (.tmp 45) 45 rfl 109 i0 _ 3 24 Tryz.underlying45 hi0 hz0 hz1 hz2 rfl (by decide) H9.out rfl (some ⟨w2.heap.size + 1, 0, none⟩) 1 1 [.int .i64 x1, .int .i64 x2, .int .i64 x3] rfl rfl HN1.out (by simp [Value.oneCell']) (by unfold maxLen; omega) (by omega) ?_; intro v1 w5 hs1; have HS := hid hs1; clear hs1)
     go_roundw
     case rel => exact ⟨i + 1, by omega, by go_num, by rw [HX.out, kcells_snoc, List.length_append, List.length_singleton]; exact HS.out⟩
     case measure => simp [intOf]; omega
    ·by_cases hpx : (p1, p2) = (x2, x3)
     ·rw [hpx] at hev
      simp only [decide_true] at hev
      obtain ⟨rfl, rfl⟩ : p1 = x2 ∧ p2 = x3 := by simpa using hpx
      have hk2 := HFY.out (by rw [HKP.out]; exact decide_eq_true (.inr rfl))
      obtain ⟨i0, hi0, hz0, hz1, hz2⟩ := info_parts Tryz.info109
      have hs3 := (HZ.out.alloc #[.int .i64 p1, .int .i64 p2] 107).tail.tail.alloc #[.int .i64 x1, .int .i64 p1, .int .i64 p2] 109
      have hn1 := news_blk hs3
      rw [World.size_alloc] at hn1
      have HX := hid hk2; have HN1 := hid hn1; have H9 := hid hs3.tail
      clear hs3 hn1 hk2 HFY HFN HKP
      go_wp2_with (at_builtin; refine wpList_append rfl (.tmp 43) (.tmp 45) 45 rfl 109 i0 _ 3 24 Tryz.underlying45 hi0 hz0 hz1 hz2 rfl (by decide) H9.out rfl (some ⟨w2.heap.size + 1, 0, none⟩) 1 1 [.int .i64 x1, .int .i64 p1, .int .i64 p2] rfl rfl HN1.out (by simp [Value.oneCell']) (by unfold maxLen; omega) (by omega) ?_; intro v1 w5 hs1; have HS := hid hs1; clear hs1)
      go_roundw
      case rel => exact ⟨i + 1, by omega, by go_num, by rw [HX.out, kcells_snoc, List.length_append, List.length_singleton]; exact HS.out⟩
      case measure => simp [intOf]; omega
     ·simp only [hpx, decide_false] at hev
      have hk2 := HFN.out (by rw [HKP.out]; exact decide_eq_false (by rintro (h | h); exact ha h; exact hpx (Option.some.inj h)))
      have HX := hid hk2; have H9 := hid (HZ.out.alloc #[.int .i64 p1, .int .i64 p2] 107).tail.tail
      clear hk2 HFY HFN HKP
      go_wp2_with fail
      go_roundw
      case rel => exact ⟨i + 1, by omega, by go_num, by rw [HX.out]; exact H9.out⟩
      case measure => simp [intOf]; omega
  ·obtain rfl : i = K.length := by omega
   rw [List.take_length] at hsr
   obtain ⟨au, cu, rfl, hcu, hcu2, _⟩ := hsr.sl_val
   unfold maxLen at hcu2
   have hsb := S.sep_elim (S.swap hsr)
   have e0 := hsb.c0_cell 0 rfl
   have f0 := hsb.c0_free 0 rfl
   have hfin := (hsb.c0_set 0 (by simp) (.slice au (K.filter (rkeep K at_)).length cu)).swap.tail.conv (M := cells b 0 [.slice au (K.filter (rkeep K at_)).length cu, .int .i64 last] :: sl 109 3 (.slice au (K.filter (rkeep K at_)).length cu) (K.filter (rkeep K at_)).length (fcells kcells (K.filter (rkeep K at_))) :: L) rfl
   have hle := List.length_filter_le (rkeep K at_) K
   have hw : IntKind.i64.wrap ((K.length : Int) - ((K.filter (rkeep K at_)).length : Int)) = (K.length : Int) - ((K.filter (rkeep K at_)).length : Int) := IntWalk.i64_in _ (by omega)
   have HF := hid hfin
   clear hsr hsb hfin
   go_wp2_with fail
   go_ret
   exact ⟨rfl, S.ref_intro HF.out⟩
end Go.Proofs.YtmfngjclccehaaaGreatDoor
namespace Go.Proofs.YtmfngjclccehaaaGreatDoor
open Go Go.RowKit Go.Sep
def RInstPost (w0 : World) (b : Nat) (K : List Kep) (last at_ : Int) (l : Vers) (L : List HProp) (e : Ending) (w' : World) : Prop :=
 if last < at_ ∧ at_ ≤ 1099511627776 then
  match badAt 0 l with
  | none => e = .returned (.agg #[.int .i64 0, .int .i64 (-1)]) ∧ S w0 w' (refP 47 109 b (K ++ rrows at_ l 10) at_ :: L)
  | some (x, p) => e = .returned (.agg #[.int .i64 x, .int .i64 p]) ∧ S w0 w' (refP 47 109 b K last :: L)
 else e = .returned (.agg #[.int .i64 10, .int .i64 (-1)]) ∧ S w0 w' (refP 47 109 b K last :: L)
theorem act_world {w0 w : World} {L : List HProp} {K : Act → World → Prop} {a : Act} (hq : Hid (S w0 w L)) (h : ∀ w', Hid (S w0 w' L) → K a w') : K a w := h w hq
theorem wpAnyH_world {P : Program} {md : Region.Mode} {ops : Array Oper} {Q : Exit → Act → World → Prop} {SS : World → Prop} {fuel : Nat} {listed : Array Bool} {a : Act} {w : World} (q : World → Prop) (hq : q w) (h : ∀ w', q w' → wpAnyH P md ops Q SS fuel listed a w') : wpAnyH P md ops Q SS fuel listed a w := h w hq
set_option maxRecDepth 40000 in
set_option maxHeartbeats 16000000 in
theorem rinstall_any (w0 w : World) (b : Nat) (K : List Kep) (last at_ : Int) (v : Value) (l : Vers) (L : List HProp) (hs : S w0 w (refP 47 109 b K last :: L)) (hr : RdK w0 L v l.length (pcells l)) (hb : K.length ≤ 900000) :
  Calls Tryz.prog 12 #[.pointer (some ⟨b, 0, none⟩), .int .i64 at_, v] w (RInstPost w0 b K last at_ l L) := by
 obtain ⟨v0, h1⟩ := hs.ref_elim
 have h2 := h1.alloc #[.int .i64 0, .int .i64 0] 27
 have c1 := h2.swap.c0_cell 1 rfl
 have H2 : Hid (S w0 (w.alloc (.cells #[.int .i64 0, .int .i64 0] 27)) (blk w.heap.size 27 [.int .i64 0, .int .i64 0] :: refP 47 109 b K last :: L)) := hid (S.swap (S.ref_intro (h2.conv (M := cells b 0 [v0, .int .i64 last] :: sl 109 3 v0 K.length (fcells kcells K) :: blk w.heap.size 27 [.int .i64 0, .int .i64 0] :: L) (by simp only [all]; ac_rfl))))
 obtain ⟨la, lc, rfl, hlc, hlc2, _⟩ := hr w hs.tail
 unfold maxLen at hlc2
 have HRD := hid hr
 clear h1 h2 hs hr
 by_cases h1 : at_ ≤ last
 ·have hpo : ∀ e w', (e = Ending.returned (.agg #[.int .i64 10, .int .i64 (-1)]) ∧ S w0 w' (refP 47 109 b K last :: L)) → RInstPost w0 b K last at_ l L e w' := fun e w' h => by unfold RInstPost; rw [if_neg (by omega)]; exact h
  have HPO := hid hpo
  clear hpo
  go_enter Tryz.func12, Tryz.ntmps12
  go_wp2_with (go_at_call 11; with_reducible refine (Bare_any _ _).mono ?_; rintro e w' ⟨rfl, hbw⟩; have hsb := (H2.out).onto hbw; have e0 := hsb.blk_cell 0 rfl; have e1 := hsb.blk_cell 1 rfl; have f0 := hsb.blk_free 0; have f1 := hsb.blk_free 1; have hse := (hsb.blk_set 0 (by simp) (.int .i64 10)).blk_set 1 (by simp) (.int .i64 (-1)); have r0 := hse.blk_cell 0 rfl; have r1 := hse.blk_cell 1 rfl; have HF := hid hse; clear hbw hsb hse)
  exact bodyPost_ret (v := .agg #[.int .i64 10, .int .i64 (-1)]) (by simp [results, Tryz.results12, go_sem, r0, r1]) rfl (HPO.out _ _ ⟨rfl, HF.out.tail⟩)
 by_cases h2 : 1099511627776 < at_
 ·have hpo : ∀ e w', (e = Ending.returned (.agg #[.int .i64 10, .int .i64 (-1)]) ∧ S w0 w' (refP 47 109 b K last :: L)) → RInstPost w0 b K last at_ l L e w' := fun e w' h => by unfold RInstPost; rw [if_neg (by omega)]; exact h
  have HPO := hid hpo
  have h1' : last < at_ := by omega
  clear hpo h1
  go_enter Tryz.func12, Tryz.ntmps12
  go_wp2_with (go_at_call 11; with_reducible refine (Bare_any _ _).mono ?_; rintro e w' ⟨rfl, hbw⟩; have hsb := (H2.out).onto hbw; have e0 := hsb.blk_cell 0 rfl; have e1 := hsb.blk_cell 1 rfl; have f0 := hsb.blk_free 0; have f1 := hsb.blk_free 1; have hse := (hsb.blk_set 0 (by simp) (.int .i64 10)).blk_set 1 (by simp) (.int .i64 (-1)); have r0 := hse.blk_cell 0 rfl; have r1 := hse.blk_cell 1 rfl; have HF := hid hse; clear hbw hsb hse)
  exact bodyPost_ret (v := .agg #[.int .i64 10, .int .i64 (-1)]) (by simp [results, Tryz.results12, go_sem, r0, r1]) rfl (HPO.out _ _ ⟨rfl, HF.out.tail⟩)
 have h1' : last < at_ := by omega
 have h2' : at_ ≤ 1099511627776 := by omega
 have hpo : ∀ e w', (match badAt 0 l with
   | none => e = Ending.returned (.agg #[.int .i64 0, .int .i64 (-1)]) ∧ S w0 w' (refP 47 109 b (K ++ rrows at_ l 10) at_ :: L)
   | some (x, p) => e = Ending.returned (.agg #[.int .i64 x, .int .i64 p]) ∧ S w0 w' (refP 47 109 b K last :: L)) → RInstPost w0 b K last at_ l L e w' := fun e w' h => by
  unfold RInstPost; rw [if_pos ⟨h1', h2'⟩]; exact h
 have HPO := hid hpo
 clear hpo h1 h2
 go_enter Tryz.func12, Tryz.ntmps12
 go_wp2_with fail
 go_loopw [26] (fun c wr => ∃ i : Nat, i ≤ l.length ∧ c = .int .i64 i ∧ Hid (badAt 0 l = badAt i (l.drop i)) ∧ S w0 wr (blk w.heap.size 27 [.int .i64 0, .int .i64 0] :: refP 47 109 b K last :: L)) (fun c _ => l.length - (intOf c).toNat)
 case atStart => exact ⟨0, Nat.zero_le _, rfl, hid rfl, H2.out⟩
 case round =>
  rename World => wr
  obtain ⟨i, hi, rfl, hbad, hsr⟩ := hrel
  clear H2 c1
  by_cases hlt : i < l.length
  ·have hp : l[i]? = some l[i] := by simp [hlt]
   generalize l[i] = p at hp
   obtain ⟨lb, lo, rfl, c1, c2⟩ := HRD.out.pair hsr.tail.tail hp
   have hd : l.drop i = p :: l.drop (i + 1) := by
    have := List.getElem?_eq_some_iff.1 hp
    rw [List.drop_eq_getElem_cons this.1, this.2]
   have hbad' := hbad.out
   rw [hd] at hbad'
   clear hbad
   by_cases hk : keyOk p.1
   ·have hkb : decide ((0 : Int) ≤ p.1 ∧ p.1 ≤ 9) = true := decide_eq_true (by unfold keyOk at hk; omega)
    by_cases hv : valOk p.2
    ·have hvb : decide ((-1099511627776 : Int) ≤ p.2 ∧ p.2 ≤ 1099511627776) = true := decide_eq_true hv
     have hx := hbad'
     rw [show badAt i (p :: l.drop (i + 1)) = badAt (i + 1) (l.drop (i + 1)) by simp [badAt, hk, hv]] at hx
     have HX := hid hx; have HF := hid (hsr.alloc #[.int .i64 p.1, .int .i64 p.2] 101).tail
     clear hbad' hsr hx hp hd hk hv
     go_wp2_with (first | (go_at_call 44; with_reducible refine (in_any _ _ _ _).mono ?_; rw [hkb]; rintro e w' ⟨rfl, rfl⟩) | (go_at_call 44; with_reducible refine (in_any _ _ _ _).mono ?_; rw [hvb]; rintro e w' ⟨rfl, rfl⟩))
     go_roundw
     case rel => exact ⟨i + 1, by omega, by go_num, HX, HF.out⟩
     case measure => simp [intOf]; omega
    ·have hvb : decide ((-1099511627776 : Int) ≤ p.2 ∧ p.2 ≤ 1099511627776) = false := decide_eq_false hv
     have hx := hbad'
     rw [show badAt i (p :: l.drop (i + 1)) = some (1, (i : Int)) by simp [badAt, hk, hv]] at hx
     have hs2 := (hsr.alloc #[.int .i64 p.1, .int .i64 p.2] 101).tail
     have e0 := hs2.blk_cell 0 rfl
     have e1 := hs2.blk_cell 1 rfl
     have f0 := hs2.blk_free 0
     have f1 := hs2.blk_free 1
     have hse := (hs2.blk_set 0 (by simp) (.int .i64 1)).blk_set 1 (by simp) (.int .i64 (i : Int))
     have r0 := hse.blk_cell 0 rfl
     have r1 := hse.blk_cell 1 rfl
     have HF := hid hse; have HX := hid hx
     clear hk hv hbad' hsr hs2 hse hx hp hd
     go_wp2_with (first | (go_at_call 44; with_reducible refine (in_any _ _ _ _).mono ?_; rw [hkb]; rintro e w' ⟨rfl, rfl⟩) | (go_at_call 44; with_reducible refine (in_any _ _ _ _).mono ?_; rw [hvb]; rintro e w' ⟨rfl, rfl⟩))
     exact bodyPost_ret (v := .agg #[.int .i64 1, .int .i64 (i : Int)]) (by simp [results, Tryz.results12, go_sem, r0, r1]) rfl (HPO.out _ _ (by rw [HX.out]; exact ⟨rfl, HF.out.tail⟩))
   ·have hkb : decide ((0 : Int) ≤ p.1 ∧ p.1 ≤ 9) = false := decide_eq_false (by unfold keyOk at hk; omega)
    have hvb := hkb
    have hx := hbad'
    rw [show badAt i (p :: l.drop (i + 1)) = some (2, (i : Int)) by simp [badAt, hk]] at hx
    have hs2 := (hsr.alloc #[.int .i64 p.1, .int .i64 p.2] 101).tail
    have e0 := hs2.blk_cell 0 rfl
    have e1 := hs2.blk_cell 1 rfl
    have f0 := hs2.blk_free 0
    have f1 := hs2.blk_free 1
    have hse := (hs2.blk_set 0 (by simp) (.int .i64 2)).blk_set 1 (by simp) (.int .i64 (i : Int))
    have r0 := hse.blk_cell 0 rfl
    have r1 := hse.blk_cell 1 rfl
    have HF := hid hse; have HX := hid hx
    clear hk hbad' hsr hs2 hse hx hp hd
    go_wp2_with (first | (go_at_call 44; with_reducible refine (in_any _ _ _ _).mono ?_; rw [hkb]; rintro e w' ⟨rfl, rfl⟩) | (go_at_call 44; with_reducible refine (in_any _ _ _ _).mono ?_; rw [hvb]; rintro e w' ⟨rfl, rfl⟩))
    exact bodyPost_ret (v := .agg #[.int .i64 2, .int .i64 (i : Int)]) (by simp [results, Tryz.results12, go_sem, r0, r1]) rfl (HPO.out _ _ (by rw [HX.out]; exact ⟨rfl, HF.out.tail⟩))
  ·obtain rfl : i = l.length := by omega
   have hnone : badAt 0 l = none := by rw [hbad.out, List.drop_length]; rfl
   have hr0 : K ++ rrows at_ l 0 = K := by simp [rrows]
   rw [← hr0] at hsr
   have H3 := hid hsr; have HNB := hid hnone
   clear hsr hbad hnone hr0
   go_wp2_with fail
   go_loopw [44] (fun c wr => ∃ k : Nat, k ≤ 10 ∧ c = .int .i64 k ∧ S w0 wr (blk w.heap.size 27 [.int .i64 0, .int .i64 0] :: refP 47 109 b (K ++ rrows at_ l k) last :: L)) (fun c _ => 10 - (intOf c).toNat)
   case atStart => exact ⟨0, Nat.zero_le _, rfl, H3.out⟩
   case round =>
    rename World => wr
    obtain ⟨k, hk, rfl, hsr⟩ := hrel
    clear H3
    by_cases hk10 : k < 10
    ·have H4 := hid hsr
     clear hsr
     go_wp2_with fail
     go_loopw [10, 49] (fun lv c wx => ∃ j : Nat, j ≤ l.length ∧ c = .int .i64 j ∧ lv = .int .i64 (lastIx 0 k (-1) (l.take j)) ∧ S w0 wx (blk w.heap.size 27 [.int .i64 0, .int .i64 0] :: refP 47 109 b (K ++ rrows at_ l k) last :: L)) (fun _ c _ => l.length - (intOf c).toNat)
     case atStart => exact ⟨0, Nat.zero_le _, rfl, rfl, H4.out⟩
     case round =>
      rename World => wx
      obtain ⟨j, hj, rfl, rfl, hsx⟩ := hrel
      clear H4
      by_cases hjl : j < l.length
      ·have hp : l[j]? = some l[j] := by simp [hjl]
       generalize l[j] = p at hp
       obtain ⟨lb, lo, rfl, c1, c2⟩ := HRD.out.pair hsx.tail.tail hp
       have hix := lastIx_snoc k (l.take j) 0 (-1) p
       rw [← take_succ_get hp, List.length_take, Nat.min_eq_left (by omega), Nat.zero_add] at hix
       have H5 := hid (hsx.alloc #[.int .i64 p.1, .int .i64 p.2] 101).tail
       clear hsx hp
       by_cases hpk : p.1 = k
       ·rw [hpk] at c1 H5
        rw [if_pos hpk] at hix
        have HIX := hid hix
        clear hix hpk
        go_wp2_with fail
        go_roundw
        case rel => exact ⟨j + 1, by omega, by go_num, by rw [HIX.out], H5.out⟩
        case measure => simp [intOf]; omega
       ·have hpb : (p.1 == (k : Int)) = false := by simpa using hpk
        rw [if_neg hpk] at hix
        have HIX := hid hix
        clear hix hpk
        go_wp2_with fail
        go_roundw
        case rel => exact ⟨j + 1, by omega, by go_num, by rw [HIX.out], H5.out⟩
        case measure => simp [intOf]; omega
      ·obtain rfl : j = l.length := by omega
       rw [List.take_length]
       have hsuc := rrows_succ at_ l k
       rcases lastIx_spec l k with ⟨h1, h2⟩ | ⟨j, p, h1, h2, h3⟩
       ·rw [h1]
        have hrr : rrow at_ l k = [] := by unfold rrow; rw [h2]
        rw [hrr, List.append_nil] at hsuc
        have H5 := hid hsx; have HSUC := hid hsuc
        clear hsx h1 h2 hrr hsuc
        go_wp2_with fail
        go_roundw
        case rel => exact ⟨k + 1, by omega, by go_num, by rw [HSUC.out]; exact H5.out⟩
        case measure => simp [intOf]; omega
       ·rw [h1]
        obtain ⟨pk, vv⟩ := p
        have hrr : rrow at_ l k = [((k : Int), at_, vv)] := by unfold rrow; rw [h3]
        rw [hrr] at hsuc
        replace hsuc : K ++ rrows at_ l (k + 1) = K ++ rrows at_ l k ++ [((k : Int), at_, vv)] := by rw [hsuc, List.append_assoc]
        have hrl := rrows_le at_ l k
        have hjl2 := (List.getElem?_eq_some_iff.1 h2).1
        obtain ⟨gl, ol, rfl, _, _⟩ := HRD.out.pair hsx.tail.tail h2
        obtain ⟨K', hK'⟩ : ∃ K', K ++ rrows at_ l k = K' := ⟨_, rfl⟩
        have hKl : K'.length ≤ 900010 := by rw [← hK', List.length_append]; omega
        rw [hK'] at hsx hsuc
        obtain ⟨v1, hsr⟩ := (hsx.swap).ref_elim
        obtain ⟨a, c, rfl, hc1, hc2, _⟩ := hsr.swap.sl_val
        have hnq := news_old (w := wx) (ad := a) (xs := fcells kcells K') fun j u hj => by
         obtain ⟨g2, o2, c2, hv2, _, _, _, hlt2, hcc2, _⟩ := hsr.swap.sl_some (by have := (List.getElem?_eq_some_iff.1 hj).1; omega)
         simp only [Value.slice.injEq] at hv2
         exact ⟨g2, o2, hv2.1, hlt2, hcc2 j u hj⟩
        have hjx : ∀ (W : World) (M : List HProp), S wx W M → S w0 W (M ++ (cells b 0 [.slice a K'.length c, .int .i64 last] :: sl 109 3 (.slice a K'.length c) K'.length (fcells kcells K') :: blk w.heap.size 27 [.int .i64 0, .int .i64 0] :: L)) := fun W M h => hsr.join h
        have hkp : ∀ (W : World) (M : List HProp), S wx W M → W.cell? ⟨b, 0, none⟩ = some (.slice a K'.length c) ∧ W.frozen? ⟨b, 0, none⟩ = false := fun W M h => by
         have h' := (hjx W M h).rest
         exact ⟨h'.c0_cell 0 rfl, h'.c0_free 0 rfl⟩
        have hq : ∀ (W : World) (M : List HProp), S wx W M → W.cell? ⟨gl, ol + j * 2 + 1, none⟩ = some (.int .i64 vv) := fun W M h => by
         obtain ⟨g2, o2, hg, _, hcc⟩ := HRD.out.pair (hjx W M h).rest.tail.tail.tail h2
         obtain ⟨rfl, rfl⟩ : gl = g2 ∧ ol = o2 := by simpa using hg
         exact hcc
        have hq2 : ∀ (W : World), S w0 W (blk w.heap.size 27 [.int .i64 0, .int .i64 0] :: refP 47 109 b (K' ++ [((k : Int), at_, vv)]) last :: L) → W.cell? ⟨gl, ol + j * 2 + 1, none⟩ = some (.int .i64 vv) := fun W h => by
         obtain ⟨g2, o2, hg, _, hcc⟩ := HRD.out.pair h.tail.tail h2
         obtain ⟨rfl, rfl⟩ : gl = g2 ∧ ol = o2 := by simpa using hg
         exact hcc
        have hfin : ∀ (W : World) (v' : Value) (B : HProp), S wx W [sl 109 3 v' (K'.length + 1) (fcells kcells K' ++ fcells kcells [((k : Int), at_, vv)]), B] → S w0 (W.setCell ⟨b, 0, none⟩ v') (blk w.heap.size 27 [.int .i64 0, .int .i64 0] :: refP 47 109 b (K' ++ [((k : Int), at_, vv)]) last :: L) := fun W v' B h => by
         have h1 : S w0 W (cells b 0 [.slice a K'.length c, .int .i64 last] :: sl 109 3 v' (K' ++ [((k : Int), at_, vv)]).length (fcells kcells (K' ++ [((k : Int), at_, vv)])) :: B :: sl 109 3 (.slice a K'.length c) K'.length (fcells kcells K') :: blk w.heap.size 27 [.int .i64 0, .int .i64 0] :: L) := (hjx W _ h).conv (by
          rw [fcells_append, List.length_append, List.length_singleton]
          simp only [List.cons_append, List.nil_append, all]; ac_rfl)
         have h2 := h1.c0_set 0 (by simp) v'
         exact S.swap (S.ref_intro (h2.conv (M := B :: sl 109 3 (.slice a K'.length c) K'.length (fcells kcells K') :: cells b 0 [v', .int .i64 last] :: sl 109 3 v' (K' ++ [((k : Int), at_, vv)]).length (fcells kcells (K' ++ [((k : Int), at_, vv)])) :: blk w.heap.size 27 [.int .i64 0, .int .i64 0] :: L) (by simp only [all, List.set_cons_zero]; ac_rfl)).tail.tail)
        have HFIN := hid hfin; have KP := hid hkp; have HN := hid hnq; have HQ := hid hq; have HQ2 := hid hq2; have HSUC := hid hsuc
        have H63a : Hid (0 + K'.length ≤ 1000000) := hid (by omega)
        have H63b : Hid (K'.length + 1 ≤ 1000000) := hid (by omega)
        have hjb0 : (0 : Int) ≤ (j : Int) := by omega
        have hjb1 : (j : Int) < (l.length : Int) := by omega
        obtain ⟨i0, hi0, hz0, hz1, hz2⟩ := info_parts Tryz.info109
        clear hfin hkp hnq hq hq2 hjx hsr hsx h1 h2 h3 hrr hsuc hK'
        go_wp2_with fail
        refine wp_region_held_drew (S := fun w' => w'.cell? ⟨gl, ol + j * 2 + 1, none⟩ = some (.int .i64 vv)) (by kernel_rfl) (HQ.out _ _ (S.start wx).drew) (fun hHeld => ?_)
        refine wpAnyH_take (i := 0) (v := ?_) rfl (by kernel_rfl) (by kernel_rfl) (by kernel_rfl) (fun _ _ _ h => h) (Or.inl ⟨by rfl, ?_⟩) hHeld ?_
        rotate_left
        ·(intro w hSw; (try dsimp only at hSw); go_simp) <;> with_reducible rfl
        try simp only [Act.put, List.setIfInBounds_toArray]
        refine wpAnyH_take (i := 2) (v := ?_) rfl (by kernel_rfl) (by kernel_rfl) (by kernel_rfl) (fun _ _ _ h => h) (Or.inl ⟨by rfl, ?_⟩) hHeld ?_
        rotate_left
        ·(intro w hSw; (try dsimp only at hSw); go_simp) <;> with_reducible rfl
        try simp only [Act.put]
        refine wpAnyH_take (i := 3) (v := ?_) rfl (by kernel_rfl) (by kernel_rfl) (by kernel_rfl) (fun _ _ _ h => h) (Or.inl ⟨by rfl, ?_⟩) hHeld ?_
        rotate_left
        ·(intro w hSw; (try dsimp only at hSw); go_simp) <;> with_reducible rfl
        try simp only [Act.put]
        refine wpAnyH_take (i := 4) (v := ?_) rfl (by kernel_rfl) (by kernel_rfl) (by kernel_rfl) (fun _ _ _ h => h) (Or.inl ⟨by rfl, ?_⟩) hHeld ?_
        rotate_left
        ·(intro w hSw; (try dsimp only at hSw); go_simp) <;> with_reducible rfl
        try simp only [Act.put]
        refine wpAnyH_take (i := 7) (v := ?_) rfl (by kernel_rfl) (by kernel_rfl) (by kernel_rfl) (fun _ _ _ h => h) (Or.inl ⟨by rfl, ?_⟩) hHeld ?_
        rotate_left
        ·(intro w hSw; (try dsimp only at hSw); go_simp) <;> with_reducible rfl
        try simp only [Act.put]
        refine wpAnyH_take (i := 8) (v := ?_) rfl (by kernel_rfl) (by kernel_rfl) (by kernel_rfl) (fun _ _ _ h => h) (Or.inl ⟨by rfl, ?_⟩) hHeld ?_
        rotate_left
        ·(intro w hSw; (try dsimp only at hSw); go_simp) <;> with_reducible rfl
        try simp only [Act.put]
        refine wpAnyH_take (i := 9) (v := ?_) rfl (by kernel_rfl) (by kernel_rfl) (by kernel_rfl) (fun _ _ _ h => h) (Or.inl ⟨by rfl, ?_⟩) hHeld ?_
        rotate_left
        ·(intro w hSw; (try dsimp only at hSw); go_simp) <;> with_reducible rfl
        try simp only [Act.put]
        refine wpAnyH_take (i := 10) (v := ?_) rfl (by kernel_rfl) (by kernel_rfl) (by kernel_rfl) (fun _ _ _ h => h) (Or.inl ⟨by rfl, ?_⟩) hHeld ?_
        rotate_left
        ·(intro w hSw; (try dsimp only at hSw); go_simp) <;> with_reducible rfl
        try simp only [Act.put]
        refine wpAnyH_take (i := 11) (v := ?_) rfl (by kernel_rfl) (by kernel_rfl) (by kernel_rfl) (fun _ _ _ h => h) (Or.inl ⟨by rfl, ?_⟩) hHeld ?_
        rotate_left
        ·(intro w hSw; (try dsimp only at hSw); go_simp) <;> with_reducible rfl
        try simp only [Act.put]
        refine wpAnyH_take (i := 12) (v := ?_) rfl (by kernel_rfl) (by kernel_rfl) (by kernel_rfl) (fun _ _ _ h => h) (Or.inl ⟨by rfl, ?_⟩) hHeld ?_
        rotate_left
        ·(intro w hSw; (try dsimp only at hSw); go_simp) <;> with_reducible rfl
        try simp only [Act.put]
        refine wpAnyH_take (i := 13) (v := ?_) rfl (by kernel_rfl) (by kernel_rfl) (by kernel_rfl) (fun _ _ _ h => h) (Or.inl ⟨by rfl, ?_⟩) hHeld ?_
        rotate_left
        ·(intro w hSw; (try dsimp only at hSw); go_simp) <;> with_reducible rfl
        try simp only [Act.put]
        refine wpAnyH_take (i := 14) (v := ?_) rfl (by kernel_rfl) (by kernel_rfl) (by kernel_rfl) (fun _ _ _ h => h) (Or.inl ⟨by rfl, ?_⟩) hHeld ?_
        rotate_left
        ·(intro w hSw; (try dsimp only at hSw); go_simp) <;> with_reducible rfl
        try simp only [Act.put]
        refine wpAnyH_take (i := 15) (v := ?_) rfl (by kernel_rfl) (by kernel_rfl) (by kernel_rfl) (fun _ _ _ h => h) (Or.inl ⟨by rfl, ?_⟩) hHeld ?_
        rotate_left
        ·(intro w hSw; (try dsimp only at hSw); go_simp) <;> with_reducible rfl
        try simp only [Act.put]
        have HS := hid (S.start wx).drew
        clear hHeld
        refine wpAnyH_world (fun w => Hid (S wx w [])) HS (fun w1 HS => ?_)
        refine wpAnyH_ready (rs := [1, 5, 16]) (by kernel_rfl) (by simp) ?_
        refine AllReadyH.cons rfl (fun K hK => ?_) ?_
        ·go_simp
         replace HS := hid (HS.out.alloc_slK (e := 109) (size := 3) [] 0 rfl (by unfold maxLen; omega))
         generalize w1.heap.size = b1 at HS ⊢
         refine act_world HS (fun w2 HS => ?_)
         refine hK.out _ _ (HQ.out _ _ HS.out) (fun _ => ?_)
         clear hK K
         refine wpAnyH_ready (rs := [5, 16]) (by kernel_rfl) (by simp) ?_
         refine AllReadyH.cons rfl (fun K hK => ?_) ?_
         ·have q := (KP.out _ _ HS.out).1
          go_simp
          refine hK.out _ _ (HQ.out _ _ HS.out) (fun _ => ?_)
          clear hK K q
          refine wpAnyH_ready (rs := [6, 16]) (by kernel_rfl) (by simp) ?_
          refine AllReadyH.cons rfl (fun K hK => ?_) ?_
          ·refine step_appK rfl (.tmp 63) (.tmp 67) 45 rfl 109 i0 _ 3 24 Tryz.underlying45 hi0 hz0 hz1 hz2 rfl (by decide) HS.out 0 (by rfl) (by rfl) a K'.length c (fcells kcells K') (by rfl) (fk_len K') (HN.out _ _ HS.out) (fk_one _) H63a.out (by decide) ?_
           intro v_a6 w3 hs
           replace HS := hid hs.norm0K
           clear hs
           refine hK.out _ _ (HQ.out _ _ HS.out) (fun _ => ?_)
           clear hK K
           try simp only [Act.put, List.setIfInBounds_toArray]
           refine wpAnyH_ready (rs := [16]) (by kernel_rfl) (by simp) ?_
           refine AllReadyH.cons rfl (fun K hK => ?_) ?_
           ·go_simp
            replace HS := hid (HS.out.alloc_slK (e := 109) (size := 3) (fcells kcells [((k : Int), at_, vv)]) 1 rfl (by unfold maxLen; omega))
            generalize w3.heap.size = b16 at HS ⊢
            refine act_world HS (fun w4 HS => ?_)
            refine hK.out _ _ (HQ.out _ _ HS.out) (fun _ => ?_)
            clear hK K
            refine wpAnyH_ready (rs := [17]) (by kernel_rfl) (by simp) ?_
            refine AllReadyH.cons rfl (fun K hK => ?_) ?_
            ·refine step_appK rfl (.tmp 68) (.tmp 78) 45 rfl 109 i0 _ 3 24 Tryz.underlying45 hi0 hz0 hz1 hz2 rfl (by decide) HS.out 1 (by rfl) (by rfl) _ 1 1 (fcells kcells [((k : Int), at_, vv)]) (by rfl) rfl (S.news_slK HS.out 0 (by rfl)) (fk_one _) H63b.out (by decide) ?_
             intro v_a17 w5 hs
             replace HS := hid hs
             clear hs
             refine hK.out _ _ (HQ.out _ _ HS.out) (fun _ => ?_)
             clear hK K
             try simp only [Act.put, List.setIfInBounds_toArray]
             obtain ⟨aN, cN, rfl, _, _, _⟩ := HS.out.sl_val
             refine wpAnyH_take (i := 18) (v := ?_) rfl (by kernel_rfl) (by kernel_rfl) (by kernel_rfl) (fun _ _ _ h => h) (Or.inl ⟨by rfl, ?_⟩) (HQ.out _ _ HS.out) ?_
             rotate_left
             ·(intro w hSw; (try dsimp only at hSw); go_simp) <;> with_reducible rfl
             try simp only [Act.put]
             refine wpAnyH_take (i := 19) (v := ?_) rfl (by kernel_rfl) (by kernel_rfl) (by kernel_rfl) (fun _ _ _ h => h) (Or.inl ⟨by rfl, ?_⟩) (HQ.out _ _ HS.out) ?_
             rotate_left
             ·(intro w hSw; (try dsimp only at hSw); go_simp) <;> with_reducible rfl
             try simp only [Act.put]
             refine wpAnyH_ready (rs := [20]) (by kernel_rfl) (by simp) ?_
             refine AllReadyH.cons rfl (fun K hK => ?_) ?_
             ·have q := (KP.out _ _ HS.out).1
              have q2 := (KP.out _ _ HS.out).2
              go_simp
              refine hK.out _ _ (HQ2.out _ (HFIN.out _ _ _ (S.headTwo HS.out))) (fun _ => ?_)
              clear hK K q q2
              refine wpAnyH_done (by kernel_rfl) ?_ _
              have H6 := hid (HFIN.out _ _ _ (S.headTwo HS.out))
              go_wp2_with fail
              go_roundw
              case rel => exact ⟨k + 1, by omega, by go_num, by rw [HSUC.out]; exact H6.out⟩
              case measure => simp [intOf]; omega
             exact AllReadyH.nil
            exact AllReadyH.nil
           exact AllReadyH.nil
          refine AllReadyH.cons rfl (fun K hK => ?_) ?_
          ·go_simp
           replace HS := hid (HS.out.alloc_slK (e := 109) (size := 3) (fcells kcells [((k : Int), at_, vv)]) 1 rfl (by unfold maxLen; omega))
           generalize w2.heap.size = b16 at HS ⊢
           refine act_world HS (fun w3 HS => ?_)
           refine hK.out _ _ (HQ.out _ _ HS.out) (fun _ => ?_)
           clear hK K
           refine wpAnyH_ready (rs := [6]) (by kernel_rfl) (by simp) ?_
           refine AllReadyH.cons rfl (fun K hK => ?_) ?_
           ·refine step_appK rfl (.tmp 63) (.tmp 67) 45 rfl 109 i0 _ 3 24 Tryz.underlying45 hi0 hz0 hz1 hz2 rfl (by decide) HS.out 1 (by rfl) (by rfl) a K'.length c (fcells kcells K') (by rfl) (fk_len K') (HN.out _ _ HS.out) (fk_one _) H63a.out (by decide) ?_
            intro v_a6 w4 hs
            replace HS := hid hs.norm0K
            clear hs
            refine hK.out _ _ (HQ.out _ _ HS.out) (fun _ => ?_)
            clear hK K
            try simp only [Act.put, List.setIfInBounds_toArray]
            refine wpAnyH_ready (rs := [17]) (by kernel_rfl) (by simp) ?_
            refine AllReadyH.cons rfl (fun K hK => ?_) ?_
            ·refine step_appK rfl (.tmp 68) (.tmp 78) 45 rfl 109 i0 _ 3 24 Tryz.underlying45 hi0 hz0 hz1 hz2 rfl (by decide) HS.out 0 (by rfl) (by rfl) _ 1 1 (fcells kcells [((k : Int), at_, vv)]) (by rfl) rfl (S.news_slK HS.out 1 (by rfl)) (fk_one _) H63b.out (by decide) ?_
             intro v_a17 w5 hs
             replace HS := hid hs
             clear hs
             refine hK.out _ _ (HQ.out _ _ HS.out) (fun _ => ?_)
             clear hK K
             try simp only [Act.put]
             obtain ⟨aN, cN, rfl, _, _, _⟩ := HS.out.sl_val
             refine wpAnyH_take (i := 18) (v := ?_) rfl (by kernel_rfl) (by kernel_rfl) (by kernel_rfl) (fun _ _ _ h => h) (Or.inl ⟨by rfl, ?_⟩) (HQ.out _ _ HS.out) ?_
             rotate_left
             ·(intro w hSw; (try dsimp only at hSw); go_simp) <;> with_reducible rfl
             try simp only [Act.put]
             refine wpAnyH_take (i := 19) (v := ?_) rfl (by kernel_rfl) (by kernel_rfl) (by kernel_rfl) (fun _ _ _ h => h) (Or.inl ⟨by rfl, ?_⟩) (HQ.out _ _ HS.out) ?_
             rotate_left
             ·(intro w hSw; (try dsimp only at hSw); go_simp) <;> with_reducible rfl
             try simp only [Act.put]
             refine wpAnyH_ready (rs := [20]) (by kernel_rfl) (by simp) ?_
             refine AllReadyH.cons rfl (fun K hK => ?_) ?_
             ·have q := (KP.out _ _ HS.out).1
              have q2 := (KP.out _ _ HS.out).2
              go_simp
              refine hK.out _ _ (HQ2.out _ (HFIN.out _ _ _ (S.headTwo HS.out))) (fun _ => ?_)
              clear hK K q q2
              refine wpAnyH_done (by kernel_rfl) ?_ _
              have H6 := hid (HFIN.out _ _ _ (S.headTwo HS.out))
              go_wp2_with fail
              go_roundw
              case rel => exact ⟨k + 1, by omega, by go_num, by rw [HSUC.out]; exact H6.out⟩
              case measure => simp [intOf]; omega
             exact AllReadyH.nil
            exact AllReadyH.nil
           exact AllReadyH.nil
          exact AllReadyH.nil
         refine AllReadyH.cons rfl (fun K hK => ?_) ?_
         ·go_simp
          replace HS := hid (HS.out.alloc_slK (e := 109) (size := 3) (fcells kcells [((k : Int), at_, vv)]) 1 rfl (by unfold maxLen; omega))
          generalize w2.heap.size = b16 at HS ⊢
          refine act_world HS (fun w3 HS => ?_)
          refine hK.out _ _ (HQ.out _ _ HS.out) (fun _ => ?_)
          clear hK K
          refine wpAnyH_ready (rs := [5]) (by kernel_rfl) (by simp) ?_
          refine AllReadyH.cons rfl (fun K hK => ?_) ?_
          ·have q := (KP.out _ _ HS.out).1
           go_simp
           refine hK.out _ _ (HQ.out _ _ HS.out) (fun _ => ?_)
           clear hK K q
           refine wpAnyH_ready (rs := [6]) (by kernel_rfl) (by simp) ?_
           refine AllReadyH.cons rfl (fun K hK => ?_) ?_
           ·refine step_appK rfl (.tmp 63) (.tmp 67) 45 rfl 109 i0 _ 3 24 Tryz.underlying45 hi0 hz0 hz1 hz2 rfl (by decide) HS.out 1 (by rfl) (by rfl) a K'.length c (fcells kcells K') (by rfl) (fk_len K') (HN.out _ _ HS.out) (fk_one _) H63a.out (by decide) ?_
            intro v_a6 w4 hs
            replace HS := hid hs.norm0K
            clear hs
            refine hK.out _ _ (HQ.out _ _ HS.out) (fun _ => ?_)
            clear hK K
            try simp only [Act.put, List.setIfInBounds_toArray]
            refine wpAnyH_ready (rs := [17]) (by kernel_rfl) (by simp) ?_
            refine AllReadyH.cons rfl (fun K hK => ?_) ?_
            ·refine step_appK rfl (.tmp 68) (.tmp 78) 45 rfl 109 i0 _ 3 24 Tryz.underlying45 hi0 hz0 hz1 hz2 rfl (by decide) HS.out 0 (by rfl) (by rfl) _ 1 1 (fcells kcells [((k : Int), at_, vv)]) (by rfl) rfl (S.news_slK HS.out 1 (by rfl)) (fk_one _) H63b.out (by decide) ?_
             intro v_a17 w5 hs
             replace HS := hid hs
             clear hs
             refine hK.out _ _ (HQ.out _ _ HS.out) (fun _ => ?_)
             clear hK K
             try simp only [Act.put]
             obtain ⟨aN, cN, rfl, _, _, _⟩ := HS.out.sl_val
             refine wpAnyH_take (i := 18) (v := ?_) rfl (by kernel_rfl) (by kernel_rfl) (by kernel_rfl) (fun _ _ _ h => h) (Or.inl ⟨by rfl, ?_⟩) (HQ.out _ _ HS.out) ?_
             rotate_left
             ·(intro w hSw; (try dsimp only at hSw); go_simp) <;> with_reducible rfl
             try simp only [Act.put]
             refine wpAnyH_take (i := 19) (v := ?_) rfl (by kernel_rfl) (by kernel_rfl) (by kernel_rfl) (fun _ _ _ h => h) (Or.inl ⟨by rfl, ?_⟩) (HQ.out _ _ HS.out) ?_
             rotate_left
             ·(intro w hSw; (try dsimp only at hSw); go_simp) <;> with_reducible rfl
             try simp only [Act.put]
             refine wpAnyH_ready (rs := [20]) (by kernel_rfl) (by simp) ?_
             refine AllReadyH.cons rfl (fun K hK => ?_) ?_
             ·have q := (KP.out _ _ HS.out).1
              have q2 := (KP.out _ _ HS.out).2
              go_simp
              refine hK.out _ _ (HQ2.out _ (HFIN.out _ _ _ (S.headTwo HS.out))) (fun _ => ?_)
              clear hK K q q2
              refine wpAnyH_done (by kernel_rfl) ?_ _
              have H6 := hid (HFIN.out _ _ _ (S.headTwo HS.out))
              go_wp2_with fail
              go_roundw
              case rel => exact ⟨k + 1, by omega, by go_num, by rw [HSUC.out]; exact H6.out⟩
              case measure => simp [intOf]; omega
             exact AllReadyH.nil
            exact AllReadyH.nil
           exact AllReadyH.nil
          exact AllReadyH.nil
         exact AllReadyH.nil
        refine AllReadyH.cons rfl (fun K hK => ?_) ?_
        ·have q := (KP.out _ _ HS.out).1
         go_simp
         refine hK.out _ _ (HQ.out _ _ HS.out) (fun _ => ?_)
         clear hK K q
         refine wpAnyH_ready (rs := [1, 16]) (by kernel_rfl) (by simp) ?_
         refine AllReadyH.cons rfl (fun K hK => ?_) ?_
         ·go_simp
          replace HS := hid (HS.out.alloc_slK (e := 109) (size := 3) [] 0 rfl (by unfold maxLen; omega))
          generalize w1.heap.size = b1 at HS ⊢
          refine act_world HS (fun w2 HS => ?_)
          refine hK.out _ _ (HQ.out _ _ HS.out) (fun _ => ?_)
          clear hK K
          refine wpAnyH_ready (rs := [6, 16]) (by kernel_rfl) (by simp) ?_
          refine AllReadyH.cons rfl (fun K hK => ?_) ?_
          ·refine step_appK rfl (.tmp 63) (.tmp 67) 45 rfl 109 i0 _ 3 24 Tryz.underlying45 hi0 hz0 hz1 hz2 rfl (by decide) HS.out 0 (by rfl) (by rfl) a K'.length c (fcells kcells K') (by rfl) (fk_len K') (HN.out _ _ HS.out) (fk_one _) H63a.out (by decide) ?_
           intro v_a6 w3 hs
           replace HS := hid hs.norm0K
           clear hs
           refine hK.out _ _ (HQ.out _ _ HS.out) (fun _ => ?_)
           clear hK K
           try simp only [Act.put, List.setIfInBounds_toArray]
           refine wpAnyH_ready (rs := [16]) (by kernel_rfl) (by simp) ?_
           refine AllReadyH.cons rfl (fun K hK => ?_) ?_
           ·go_simp
            replace HS := hid (HS.out.alloc_slK (e := 109) (size := 3) (fcells kcells [((k : Int), at_, vv)]) 1 rfl (by unfold maxLen; omega))
            generalize w3.heap.size = b16 at HS ⊢
            refine act_world HS (fun w4 HS => ?_)
            refine hK.out _ _ (HQ.out _ _ HS.out) (fun _ => ?_)
            clear hK K
            refine wpAnyH_ready (rs := [17]) (by kernel_rfl) (by simp) ?_
            refine AllReadyH.cons rfl (fun K hK => ?_) ?_
            ·refine step_appK rfl (.tmp 68) (.tmp 78) 45 rfl 109 i0 _ 3 24 Tryz.underlying45 hi0 hz0 hz1 hz2 rfl (by decide) HS.out 1 (by rfl) (by rfl) _ 1 1 (fcells kcells [((k : Int), at_, vv)]) (by rfl) rfl (S.news_slK HS.out 0 (by rfl)) (fk_one _) H63b.out (by decide) ?_
             intro v_a17 w5 hs
             replace HS := hid hs
             clear hs
             refine hK.out _ _ (HQ.out _ _ HS.out) (fun _ => ?_)
             clear hK K
             try simp only [Act.put, List.setIfInBounds_toArray]
             obtain ⟨aN, cN, rfl, _, _, _⟩ := HS.out.sl_val
             refine wpAnyH_take (i := 18) (v := ?_) rfl (by kernel_rfl) (by kernel_rfl) (by kernel_rfl) (fun _ _ _ h => h) (Or.inl ⟨by rfl, ?_⟩) (HQ.out _ _ HS.out) ?_
             rotate_left
             ·(intro w hSw; (try dsimp only at hSw); go_simp) <;> with_reducible rfl
             try simp only [Act.put]
             refine wpAnyH_take (i := 19) (v := ?_) rfl (by kernel_rfl) (by kernel_rfl) (by kernel_rfl) (fun _ _ _ h => h) (Or.inl ⟨by rfl, ?_⟩) (HQ.out _ _ HS.out) ?_
             rotate_left
             ·(intro w hSw; (try dsimp only at hSw); go_simp) <;> with_reducible rfl
             try simp only [Act.put]
             refine wpAnyH_ready (rs := [20]) (by kernel_rfl) (by simp) ?_
             refine AllReadyH.cons rfl (fun K hK => ?_) ?_
             ·have q := (KP.out _ _ HS.out).1
              have q2 := (KP.out _ _ HS.out).2
              go_simp
              refine hK.out _ _ (HQ2.out _ (HFIN.out _ _ _ (S.headTwo HS.out))) (fun _ => ?_)
              clear hK K q q2
              refine wpAnyH_done (by kernel_rfl) ?_ _
              have H6 := hid (HFIN.out _ _ _ (S.headTwo HS.out))
              go_wp2_with fail
              go_roundw
              case rel => exact ⟨k + 1, by omega, by go_num, by rw [HSUC.out]; exact H6.out⟩
              case measure => simp [intOf]; omega
             exact AllReadyH.nil
            exact AllReadyH.nil
           exact AllReadyH.nil
          refine AllReadyH.cons rfl (fun K hK => ?_) ?_
          ·go_simp
           replace HS := hid (HS.out.alloc_slK (e := 109) (size := 3) (fcells kcells [((k : Int), at_, vv)]) 1 rfl (by unfold maxLen; omega))
           generalize w2.heap.size = b16 at HS ⊢
           refine act_world HS (fun w3 HS => ?_)
           refine hK.out _ _ (HQ.out _ _ HS.out) (fun _ => ?_)
           clear hK K
           refine wpAnyH_ready (rs := [6]) (by kernel_rfl) (by simp) ?_
           refine AllReadyH.cons rfl (fun K hK => ?_) ?_
           ·refine step_appK rfl (.tmp 63) (.tmp 67) 45 rfl 109 i0 _ 3 24 Tryz.underlying45 hi0 hz0 hz1 hz2 rfl (by decide) HS.out 1 (by rfl) (by rfl) a K'.length c (fcells kcells K') (by rfl) (fk_len K') (HN.out _ _ HS.out) (fk_one _) H63a.out (by decide) ?_
            intro v_a6 w4 hs
            replace HS := hid hs.norm0K
            clear hs
            refine hK.out _ _ (HQ.out _ _ HS.out) (fun _ => ?_)
            clear hK K
            try simp only [Act.put, List.setIfInBounds_toArray]
            refine wpAnyH_ready (rs := [17]) (by kernel_rfl) (by simp) ?_
            refine AllReadyH.cons rfl (fun K hK => ?_) ?_
            ·refine step_appK rfl (.tmp 68) (.tmp 78) 45 rfl 109 i0 _ 3 24 Tryz.underlying45 hi0 hz0 hz1 hz2 rfl (by decide) HS.out 0 (by rfl) (by rfl) _ 1 1 (fcells kcells [((k : Int), at_, vv)]) (by rfl) rfl (S.news_slK HS.out 1 (by rfl)) (fk_one _) H63b.out (by decide) ?_
             intro v_a17 w5 hs
             replace HS := hid hs
             clear hs
             refine hK.out _ _ (HQ.out _ _ HS.out) (fun _ => ?_)
             clear hK K
             try simp only [Act.put]
             obtain ⟨aN, cN, rfl, _, _, _⟩ := HS.out.sl_val
             refine wpAnyH_take (i := 18) (v := ?_) rfl (by kernel_rfl) (by kernel_rfl) (by kernel_rfl) (fun _ _ _ h => h) (Or.inl ⟨by rfl, ?_⟩) (HQ.out _ _ HS.out) ?_
             rotate_left
             ·(intro w hSw; (try dsimp only at hSw); go_simp) <;> with_reducible rfl
             try simp only [Act.put]
             refine wpAnyH_take (i := 19) (v := ?_) rfl (by kernel_rfl) (by kernel_rfl) (by kernel_rfl) (fun _ _ _ h => h) (Or.inl ⟨by rfl, ?_⟩) (HQ.out _ _ HS.out) ?_
             rotate_left
             ·(intro w hSw; (try dsimp only at hSw); go_simp) <;> with_reducible rfl
             try simp only [Act.put]
             refine wpAnyH_ready (rs := [20]) (by kernel_rfl) (by simp) ?_
             refine AllReadyH.cons rfl (fun K hK => ?_) ?_
             ·have q := (KP.out _ _ HS.out).1
              have q2 := (KP.out _ _ HS.out).2
              go_simp
              refine hK.out _ _ (HQ2.out _ (HFIN.out _ _ _ (S.headTwo HS.out))) (fun _ => ?_)
              clear hK K q q2
              refine wpAnyH_done (by kernel_rfl) ?_ _
              have H6 := hid (HFIN.out _ _ _ (S.headTwo HS.out))
              go_wp2_with fail
              go_roundw
              case rel => exact ⟨k + 1, by omega, by go_num, by rw [HSUC.out]; exact H6.out⟩
              case measure => simp [intOf]; omega
             exact AllReadyH.nil
            exact AllReadyH.nil
           exact AllReadyH.nil
          exact AllReadyH.nil
         refine AllReadyH.cons rfl (fun K hK => ?_) ?_
         ·go_simp
          replace HS := hid (HS.out.alloc_slK (e := 109) (size := 3) (fcells kcells [((k : Int), at_, vv)]) 1 rfl (by unfold maxLen; omega))
          generalize w1.heap.size = b16 at HS ⊢
          refine act_world HS (fun w2 HS => ?_)
          refine hK.out _ _ (HQ.out _ _ HS.out) (fun _ => ?_)
          clear hK K
          refine wpAnyH_ready (rs := [1]) (by kernel_rfl) (by simp) ?_
          refine AllReadyH.cons rfl (fun K hK => ?_) ?_
          ·go_simp
           replace HS := hid (HS.out.alloc_slK (e := 109) (size := 3) [] 0 rfl (by unfold maxLen; omega))
           generalize w2.heap.size = b1 at HS ⊢
           refine act_world HS (fun w3 HS => ?_)
           refine hK.out _ _ (HQ.out _ _ HS.out) (fun _ => ?_)
           clear hK K
           refine wpAnyH_ready (rs := [6]) (by kernel_rfl) (by simp) ?_
           refine AllReadyH.cons rfl (fun K hK => ?_) ?_
           ·refine step_appK rfl (.tmp 63) (.tmp 67) 45 rfl 109 i0 _ 3 24 Tryz.underlying45 hi0 hz0 hz1 hz2 rfl (by decide) HS.out 0 (by rfl) (by rfl) a K'.length c (fcells kcells K') (by rfl) (fk_len K') (HN.out _ _ HS.out) (fk_one _) H63a.out (by decide) ?_
            intro v_a6 w4 hs
            replace HS := hid hs.norm0K
            clear hs
            refine hK.out _ _ (HQ.out _ _ HS.out) (fun _ => ?_)
            clear hK K
            try simp only [Act.put, List.setIfInBounds_toArray]
            refine wpAnyH_ready (rs := [17]) (by kernel_rfl) (by simp) ?_
            refine AllReadyH.cons rfl (fun K hK => ?_) ?_
            ·refine step_appK rfl (.tmp 68) (.tmp 78) 45 rfl 109 i0 _ 3 24 Tryz.underlying45 hi0 hz0 hz1 hz2 rfl (by decide) HS.out 0 (by rfl) (by rfl) _ 1 1 (fcells kcells [((k : Int), at_, vv)]) (by rfl) rfl (S.news_slK HS.out 1 (by rfl)) (fk_one _) H63b.out (by decide) ?_
             intro v_a17 w5 hs
             replace HS := hid hs
             clear hs
             refine hK.out _ _ (HQ.out _ _ HS.out) (fun _ => ?_)
             clear hK K
             try simp only [Act.put]
             obtain ⟨aN, cN, rfl, _, _, _⟩ := HS.out.sl_val
             refine wpAnyH_take (i := 18) (v := ?_) rfl (by kernel_rfl) (by kernel_rfl) (by kernel_rfl) (fun _ _ _ h => h) (Or.inl ⟨by rfl, ?_⟩) (HQ.out _ _ HS.out) ?_
             rotate_left
             ·(intro w hSw; (try dsimp only at hSw); go_simp) <;> with_reducible rfl
             try simp only [Act.put]
             refine wpAnyH_take (i := 19) (v := ?_) rfl (by kernel_rfl) (by kernel_rfl) (by kernel_rfl) (fun _ _ _ h => h) (Or.inl ⟨by rfl, ?_⟩) (HQ.out _ _ HS.out) ?_
             rotate_left
             ·(intro w hSw; (try dsimp only at hSw); go_simp) <;> with_reducible rfl
             try simp only [Act.put]
             refine wpAnyH_ready (rs := [20]) (by kernel_rfl) (by simp) ?_
             refine AllReadyH.cons rfl (fun K hK => ?_) ?_
             ·have q := (KP.out _ _ HS.out).1
              have q2 := (KP.out _ _ HS.out).2
              go_simp
              refine hK.out _ _ (HQ2.out _ (HFIN.out _ _ _ (S.headTwo HS.out))) (fun _ => ?_)
              clear hK K q q2
              refine wpAnyH_done (by kernel_rfl) ?_ _
              have H6 := hid (HFIN.out _ _ _ (S.headTwo HS.out))
              go_wp2_with fail
              go_roundw
              case rel => exact ⟨k + 1, by omega, by go_num, by rw [HSUC.out]; exact H6.out⟩
              case measure => simp [intOf]; omega
             exact AllReadyH.nil
            exact AllReadyH.nil
           exact AllReadyH.nil
          exact AllReadyH.nil
         exact AllReadyH.nil
        refine AllReadyH.cons rfl (fun K hK => ?_) ?_
        ·go_simp
         replace HS := hid (HS.out.alloc_slK (e := 109) (size := 3) (fcells kcells [((k : Int), at_, vv)]) 1 rfl (by unfold maxLen; omega))
         generalize w1.heap.size = b16 at HS ⊢
         refine act_world HS (fun w2 HS => ?_)
         refine hK.out _ _ (HQ.out _ _ HS.out) (fun _ => ?_)
         clear hK K
         refine wpAnyH_ready (rs := [1, 5]) (by kernel_rfl) (by simp) ?_
         refine AllReadyH.cons rfl (fun K hK => ?_) ?_
         ·go_simp
          replace HS := hid (HS.out.alloc_slK (e := 109) (size := 3) [] 0 rfl (by unfold maxLen; omega))
          generalize w2.heap.size = b1 at HS ⊢
          refine act_world HS (fun w3 HS => ?_)
          refine hK.out _ _ (HQ.out _ _ HS.out) (fun _ => ?_)
          clear hK K
          refine wpAnyH_ready (rs := [5]) (by kernel_rfl) (by simp) ?_
          refine AllReadyH.cons rfl (fun K hK => ?_) ?_
          ·have q := (KP.out _ _ HS.out).1
           go_simp
           refine hK.out _ _ (HQ.out _ _ HS.out) (fun _ => ?_)
           clear hK K q
           refine wpAnyH_ready (rs := [6]) (by kernel_rfl) (by simp) ?_
           refine AllReadyH.cons rfl (fun K hK => ?_) ?_
           ·refine step_appK rfl (.tmp 63) (.tmp 67) 45 rfl 109 i0 _ 3 24 Tryz.underlying45 hi0 hz0 hz1 hz2 rfl (by decide) HS.out 0 (by rfl) (by rfl) a K'.length c (fcells kcells K') (by rfl) (fk_len K') (HN.out _ _ HS.out) (fk_one _) H63a.out (by decide) ?_
            intro v_a6 w4 hs
            replace HS := hid hs.norm0K
            clear hs
            refine hK.out _ _ (HQ.out _ _ HS.out) (fun _ => ?_)
            clear hK K
            try simp only [Act.put, List.setIfInBounds_toArray]
            refine wpAnyH_ready (rs := [17]) (by kernel_rfl) (by simp) ?_
            refine AllReadyH.cons rfl (fun K hK => ?_) ?_
            ·refine step_appK rfl (.tmp 68) (.tmp 78) 45 rfl 109 i0 _ 3 24 Tryz.underlying45 hi0 hz0 hz1 hz2 rfl (by decide) HS.out 0 (by rfl) (by rfl) _ 1 1 (fcells kcells [((k : Int), at_, vv)]) (by rfl) rfl (S.news_slK HS.out 1 (by rfl)) (fk_one _) H63b.out (by decide) ?_
             intro v_a17 w5 hs
             replace HS := hid hs
             clear hs
             refine hK.out _ _ (HQ.out _ _ HS.out) (fun _ => ?_)
             clear hK K
             try simp only [Act.put]
             obtain ⟨aN, cN, rfl, _, _, _⟩ := HS.out.sl_val
             refine wpAnyH_take (i := 18) (v := ?_) rfl (by kernel_rfl) (by kernel_rfl) (by kernel_rfl) (fun _ _ _ h => h) (Or.inl ⟨by rfl, ?_⟩) (HQ.out _ _ HS.out) ?_
             rotate_left
             ·(intro w hSw; (try dsimp only at hSw); go_simp) <;> with_reducible rfl
             try simp only [Act.put]
             refine wpAnyH_take (i := 19) (v := ?_) rfl (by kernel_rfl) (by kernel_rfl) (by kernel_rfl) (fun _ _ _ h => h) (Or.inl ⟨by rfl, ?_⟩) (HQ.out _ _ HS.out) ?_
             rotate_left
             ·(intro w hSw; (try dsimp only at hSw); go_simp) <;> with_reducible rfl
             try simp only [Act.put]
             refine wpAnyH_ready (rs := [20]) (by kernel_rfl) (by simp) ?_
             refine AllReadyH.cons rfl (fun K hK => ?_) ?_
             ·have q := (KP.out _ _ HS.out).1
              have q2 := (KP.out _ _ HS.out).2
              go_simp
              refine hK.out _ _ (HQ2.out _ (HFIN.out _ _ _ (S.headTwo HS.out))) (fun _ => ?_)
              clear hK K q q2
              refine wpAnyH_done (by kernel_rfl) ?_ _
              have H6 := hid (HFIN.out _ _ _ (S.headTwo HS.out))
              go_wp2_with fail
              go_roundw
              case rel => exact ⟨k + 1, by omega, by go_num, by rw [HSUC.out]; exact H6.out⟩
              case measure => simp [intOf]; omega
             exact AllReadyH.nil
            exact AllReadyH.nil
           exact AllReadyH.nil
          exact AllReadyH.nil
         refine AllReadyH.cons rfl (fun K hK => ?_) ?_
         ·have q := (KP.out _ _ HS.out).1
          go_simp
          refine hK.out _ _ (HQ.out _ _ HS.out) (fun _ => ?_)
          clear hK K q
          refine wpAnyH_ready (rs := [1]) (by kernel_rfl) (by simp) ?_
          refine AllReadyH.cons rfl (fun K hK => ?_) ?_
          ·go_simp
           replace HS := hid (HS.out.alloc_slK (e := 109) (size := 3) [] 0 rfl (by unfold maxLen; omega))
           generalize w2.heap.size = b1 at HS ⊢
           refine act_world HS (fun w3 HS => ?_)
           refine hK.out _ _ (HQ.out _ _ HS.out) (fun _ => ?_)
           clear hK K
           refine wpAnyH_ready (rs := [6]) (by kernel_rfl) (by simp) ?_
           refine AllReadyH.cons rfl (fun K hK => ?_) ?_
           ·refine step_appK rfl (.tmp 63) (.tmp 67) 45 rfl 109 i0 _ 3 24 Tryz.underlying45 hi0 hz0 hz1 hz2 rfl (by decide) HS.out 0 (by rfl) (by rfl) a K'.length c (fcells kcells K') (by rfl) (fk_len K') (HN.out _ _ HS.out) (fk_one _) H63a.out (by decide) ?_
            intro v_a6 w4 hs
            replace HS := hid hs.norm0K
            clear hs
            refine hK.out _ _ (HQ.out _ _ HS.out) (fun _ => ?_)
            clear hK K
            try simp only [Act.put, List.setIfInBounds_toArray]
            refine wpAnyH_ready (rs := [17]) (by kernel_rfl) (by simp) ?_
            refine AllReadyH.cons rfl (fun K hK => ?_) ?_
            ·refine step_appK rfl (.tmp 68) (.tmp 78) 45 rfl 109 i0 _ 3 24 Tryz.underlying45 hi0 hz0 hz1 hz2 rfl (by decide) HS.out 0 (by rfl) (by rfl) _ 1 1 (fcells kcells [((k : Int), at_, vv)]) (by rfl) rfl (S.news_slK HS.out 1 (by rfl)) (fk_one _) H63b.out (by decide) ?_
             intro v_a17 w5 hs
             replace HS := hid hs
             clear hs
             refine hK.out _ _ (HQ.out _ _ HS.out) (fun _ => ?_)
             clear hK K
             try simp only [Act.put]
             obtain ⟨aN, cN, rfl, _, _, _⟩ := HS.out.sl_val
             refine wpAnyH_take (i := 18) (v := ?_) rfl (by kernel_rfl) (by kernel_rfl) (by kernel_rfl) (fun _ _ _ h => h) (Or.inl ⟨by rfl, ?_⟩) (HQ.out _ _ HS.out) ?_
             rotate_left
             ·(intro w hSw; (try dsimp only at hSw); go_simp) <;> with_reducible rfl
             try simp only [Act.put]
             refine wpAnyH_take (i := 19) (v := ?_) rfl (by kernel_rfl) (by kernel_rfl) (by kernel_rfl) (fun _ _ _ h => h) (Or.inl ⟨by rfl, ?_⟩) (HQ.out _ _ HS.out) ?_
             rotate_left
             ·(intro w hSw; (try dsimp only at hSw); go_simp) <;> with_reducible rfl
             try simp only [Act.put]
             refine wpAnyH_ready (rs := [20]) (by kernel_rfl) (by simp) ?_
             refine AllReadyH.cons rfl (fun K hK => ?_) ?_
             ·have q := (KP.out _ _ HS.out).1
              have q2 := (KP.out _ _ HS.out).2
              go_simp
              refine hK.out _ _ (HQ2.out _ (HFIN.out _ _ _ (S.headTwo HS.out))) (fun _ => ?_)
              clear hK K q q2
              refine wpAnyH_done (by kernel_rfl) ?_ _
              have H6 := hid (HFIN.out _ _ _ (S.headTwo HS.out))
              go_wp2_with fail
              go_roundw
              case rel => exact ⟨k + 1, by omega, by go_num, by rw [HSUC.out]; exact H6.out⟩
              case measure => simp [intOf]; omega
             exact AllReadyH.nil
            exact AllReadyH.nil
           exact AllReadyH.nil
          exact AllReadyH.nil
         exact AllReadyH.nil
        exact AllReadyH.nil
    ·obtain rfl : k = 10 := by omega
     obtain ⟨v1, hsb⟩ := (hsr.swap).ref_elim
     have g1 := hsb.c0_free 1 rfl
     have g2 := hsb.c0_cell 1 rfl
     have hst := S.swap (S.ref_intro (T := 47) ((hsb.c0_set 1 (by simp) (.int .i64 at_)).conv (M := cells b 0 [v1, .int .i64 at_] :: sl 109 3 v1 (K ++ rrows at_ l 10).length (fcells kcells (K ++ rrows at_ l 10)) :: blk w.heap.size 27 [.int .i64 0, .int .i64 0] :: L) rfl))
     have H6 := hid hst
     clear hsr hsb hst
     go_wp2_with (go_at_call 11; with_reducible refine (Bare_any _ _).mono ?_; rintro e w' ⟨rfl, hbw⟩; have hsb := (H6.out).onto hbw; have e0 := hsb.blk_cell 0 rfl; have e1 := hsb.blk_cell 1 rfl; have f0 := hsb.blk_free 0; have f1 := hsb.blk_free 1; have hse := (hsb.blk_set 0 (by simp) (.int .i64 0)).blk_set 1 (by simp) (.int .i64 (-1)); have r0 := hse.blk_cell 0 rfl; have r1 := hse.blk_cell 1 rfl; have HF := hid hse; clear hbw hsb hse)
     exact bodyPost_ret (v := .agg #[.int .i64 0, .int .i64 (-1)]) (by simp [results, Tryz.results12, go_sem, r0, r1]) rfl (HPO.out _ _ (by rw [HNB.out]; exact ⟨rfl, HF.out.tail⟩))
end Go.Proofs.YtmfngjclccehaaaGreatDoor
