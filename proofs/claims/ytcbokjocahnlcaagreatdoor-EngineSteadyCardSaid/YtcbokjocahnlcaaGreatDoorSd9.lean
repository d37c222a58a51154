/- The program's engine: Begin. -/
import Derived.Test.YtcbokjocahnlcaaGreatDoorSd7
import Derived.Test.YtcbokjocahnlcaaGreatDoorSd1
import Derived.Test.YtcbokjocahnlcaaGreatDoorSd8
import Derived.Deep.DeepCutAuto
import Derived.Deep.CutBlock
import Derived.Test.YtcbokjocahnlcaaGreatDoorSd4
/- The program's engine: Read. -/
namespace Go.Proofs.YtcbokjocahnlcaaGreatDoor
open Go Go.RowKit Go.Sep
section
variable {w w0 : World} {L : List HProp} {b : Nat} {bs : List Nat} {k : EngV} {e : Eng} {i : Nat}
/-- A transaction's reads, taken out. -/
def rdX (b : Nat) (bs : List Nat) (k : EngV) (e : Eng) (i : Nat) : HProp :=
  sep (blk (blkOf bs i) 85 (txF (k.v i) (e.tx i))) (sep (mp encI (fun _ => True) (k.v i).mb (ienc (e.tx i).writes)) (sep (sl 75 1 (k.v i).fv (e.tx i).fore.length (ptrs bs (e.tx i).fore)) (sep (sl 75 1 (k.v i).av (e.tx i).aft.length (ptrs bs (e.tx i).aft)) (engX b bs k e i))))
theorem _root_.Go.Sep.S.rd_open (h : S w0 w (engO b bs k e :: L)) (hi : i < e.txs.length) : S w0 w (sl 98 2 (k.v i).rv (e.tx i).reads.length (pcells (e.tx i).reads) :: rdX b bs k e i :: L) := by
  refine (h.eng_tx hi).conv ?_
  simp only [all, rdX]
  rw [txK_parts]
  ac_rfl
theorem _root_.Go.Sep.S.rd_see (h : S w0 w (rdX b bs k e i :: L)) : w.cell? ⟨blkOf bs i, 5, none⟩ = some (k.v i).rv ∧ w.frozen? ⟨blkOf bs i, 5, none⟩ = false ∧ w.cell? ⟨b, 16, none⟩ = some (.map (some k.wb)) ∧ MapAt encI (fun _ => True) w k.wb (ienc e.wr) := by
  have h1 : S w0 w (blk (blkOf bs i) 85 (txF (k.v i) (e.tx i)) :: engX b bs k e i :: mp encI (fun _ => True) (k.v i).mb (ienc (e.tx i).writes) :: sl 75 1 (k.v i).fv (e.tx i).fore.length (ptrs bs (e.tx i).fore) :: sl 75 1 (k.v i).av (e.tx i).aft.length (ptrs bs (e.tx i).aft) :: L) :=
    h.conv (by simp only [all, rdX]; ac_rfl)
  obtain ⟨_, h2⟩ := h1.swap.sep_elim.pur_elim
  obtain ⟨_, h3, _, h5, _⟩ := h2.engG_see
  exact ⟨h1.blk_cell 5 rfl, h1.blk_free 5, (h3 2 _ rfl).1, h5⟩
theorem _root_.Go.Sep.S.rd_close {v' : Value} {r : Int × Int} (hi : i < e.txs.length) (h : S w0 w (sl 98 2 v' ((e.tx i).reads.length + 1) (pcells (e.tx i).reads ++ pcells [r]) :: rdX b bs k e i :: L)) :
    ∃ k', k'.txv = k.txv ∧ S w0 (w.setCell ⟨blkOf bs i, 5, none⟩ v') (engO b bs k' (e.upd i fun x => { x with reads := x.reads ++ [r] }) :: L) := by
  let x : Tx := { e.tx i with reads := (e.tx i).reads ++ [r] }
  let v : TxV := { k.v i with rv := v' }
  have h1 : S w0 w (blk (blkOf bs i) 85 (txF (k.v i) (e.tx i)) :: sl 98 2 v' ((e.tx i).reads.length + 1) (pcells (e.tx i).reads ++ pcells [r]) :: mp encI (fun _ => True) (k.v i).mb (ienc (e.tx i).writes) :: sl 75 1 (k.v i).fv (e.tx i).fore.length (ptrs bs (e.tx i).fore) :: sl 75 1 (k.v i).av (e.tx i).aft.length (ptrs bs (e.tx i).aft) :: engX b bs k e i :: L) :=
    h.conv (by simp only [all, rdX]; ac_rfl)
  have h2 := h1.blk_set 5 (by simp [txF]) v'
  have h3 : S w0 (w.setCell ⟨blkOf bs i, 5, none⟩ v') (txK bs (blkOf bs i) v x :: engX b bs k e i :: L) := by
    refine h2.conv ?_
    rw [txK_parts]
    have e1 : (txF (k.v i) (e.tx i)).set 5 v' = txF v x := rfl
    have e2 : pcells (e.tx i).reads ++ pcells [r] = pcells x.reads := by simp [x, pcells]
    have e3 : (e.tx i).reads.length + 1 = x.reads.length := by simp [x]
    rw [e1, e2, e3]
    simp only [all]
    show _ = sep (sep _ (sep (sl _ 2 v' _ _) (sep (mp encI (fun _ => True) (k.v i).mb (ienc (e.tx i).writes)) (sep (sl _ 1 (k.v i).fv (e.tx i).fore.length (ptrs bs (e.tx i).fore)) (sl _ 1 (k.v i).av (e.tx i).aft.length (ptrs bs (e.tx i).aft)))))) _
    ac_rfl
  have h4 := h3.eng_back hi
  refine ⟨k.set i v, rfl, ?_⟩
  have e4 : (e.upd i fun x => { x with reads := x.reads ++ [r] }) = { e with txs := e.txs.set i x } := by
    have := Eng.upd_set hi fun x => { x with reads := x.reads ++ [r] }
    show ({ e with txs := _ } : Eng) = _
    rw [show e.txs.modify i (fun x => { x with reads := x.reads ++ [r] }) = e.txs.set i x from this]
  rw [e4]
  exact h4
/-- .. and what the store told. -/
def rdV (b : Nat) (bs : List Nat) (k : EngV) (e : Eng) (i vb : Nat) (a v : Int) : HProp := sep (rdX b bs k e i) (blk vb 105 [.int .i64 a, .int .i64 v])
end
theorem Tryz.info98 : (Tryz.prog.info? 98).map (fun i => (i.zero, i.size, i.bytes)) = some (some (.agg #[.int .i64 0, .int .i64 0]), 2, 16) := by kernel_rfl
theorem one_pair (p : Int × Int) : ∀ u ∈ pcells [p], u.oneCell' = true := by
  intro u hu
  simp [pcells] at hu
  rcases hu with rfl | rfl <;> rfl
/-- What the store's Read answers, and what Tell makes of it. -/
def ranErr (r : Option (Int × Int)) : Int := if r.isSome then 0 else 8
theorem readAns_eq (r : Option (Int × Int)) : readAns r = .tuple #[.agg #[.int .i64 ((r.map (·.1)).getD 0), .int .i64 ((r.map (·.2)).getD 0)], errV (ranErr r)] := by
  cases r with
  | none => rfl
  | some p => rfl
theorem tell_errV (x : Int) (w0 w : World) (L : List HProp) (hE : ErrT w0) (hs : S w0 w L) : Calls Tryz.prog 27 #[errV x] w fun ev w' => ev = .returned (.int .i64 x) ∧ S w0 w' L := by
  by_cases h : x = 0
  · subst h
    rw [errV_0]
    exact (tell_nil w).mono fun ev w' ⟨h1, h2⟩ => ⟨h1, h2 ▸ hs⟩
  · rw [errV_ne h]
    exact tell_no x w0 w L hE hs
set_option linter.unusedSimpArgs false in
set_option maxRecDepth 100000 in
set_option maxHeartbeats 8000000 in
theorem eread_any (w0 w : World) (b : Nat) (bs : List Nat) (e : Eng) (n key : Int) (L : List HProp) (N : Nat) (hE : ErrT w0) (hok : OkT N e []) (hN : N ≤ 90000000) (hs : S w0 w (engP b bs e :: L)) :
    Calls Tryz.prog 25 #[.pointer (some ⟨b, 0, none⟩), .int .i64 n, .int .i64 key] w fun r w' => r = .returned (.tuple #[.int .i64 (e.read n key).2.1, errV (e.read n key).2.2]) ∧ S w0 w' (engP b bs (e.read n key).1 :: L) := by
  have HS := hid hs
  obtain ⟨k, hs⟩ := hs.eng_open
  have hO : S w0 w (engO b bs k e :: storeP 105 b 0 e.V e.last :: tabP 3 b 11 e.t :: L) := hs.conv (by simp only [all]; ac_rfl)
  rcases e.err_cases n true with ⟨h1, h2⟩ | ⟨i, rfl, hi, ⟨h1, h2, h3⟩ | ⟨h1, h2⟩⟩
  · have hf : e.read n key = (e, 0, 7) := by unfold Eng.read; rw [if_pos (by rw [h1]; decide), h1]
    have HF := hid hf; have HC := hid (of_miss w0 w b bs k e n true _ hO h2)
    clear hs hO h1 h2 hf hok
    go_enter Tryz.func25, Tryz.ntmps25
    go_wp2_with fail
    with_reducible refine HC.out.mono ?_
    rintro r w' ⟨rfl, rfl⟩
    go_wp2_with fail
    go_ret2
    exact ⟨by rw [HF.out]; rfl, by rw [HF.out]; exact HS.out⟩
  · have hf : e.read ((i : Int) + 1) key = (e, 0, 6) := by unfold Eng.read; rw [if_pos (by rw [h1]; decide), h1]
    have HF := hid hf; have HC := hid (of_shut w0 w b bs k e i _ hO hi h3)
    clear hs hO h1 h2 h3 hf hok
    go_enter Tryz.func25, Tryz.ntmps25
    go_wp2_with fail
    with_reducible refine HC.out.mono ?_
    rintro r w' ⟨rfl, rfl⟩
    go_wp2_with fail
    go_ret2
    exact ⟨by rw [HF.out]; rfl, by rw [HF.out]; exact HS.out⟩
  · have hi2 : ((i : Int) + 1).toNat - 1 = i := by omega
    have hc := of_ok w0 w b bs k e i true _ hO hi h2
    unfold ptr at hc
    have hx := (hO.eng_txc hi).2
    have c0 := hx.level
    have c2 := hx.start
    have c6 := hx.writes
    have l6 := Tryz.look2 hx.map key
    have HC := hid hc
    cases hw : mget (e.tx i).writes key with
    | some v =>
      have hf : e.read ((i : Int) + 1) key = (e, v, 0) := by unfold Eng.read; rw [if_neg (by rw [h1]; decide)]; simp only [hi2, hw]
      have HF := hid hf
      rw [hw] at l6
      simp only [Option.getD_some, Option.isSome_some] at l6
      clear hs hO h1 h2 hf hc hok hi2 hx hw
      go_enter Tryz.func25, Tryz.ntmps25
      go_wp2_with fail
      with_reducible refine HC.out.mono ?_
      rintro r w' ⟨rfl, rfl⟩
      go_wp2_with fail
      go_ret2
      exact ⟨by rw [HF.out]; rfl, by rw [HF.out]; exact HS.out⟩
    | none =>
      rw [hw] at l6
      simp only [Option.getD_none, Option.isSome_none] at l6
      have hl := last_any b 0 e.last w hs.store_last.1
      have HL := hid hl
      by_cases hk : keyOk key
      · obtain ⟨kn, rfl⟩ : ∃ kn : Nat, key = kn := ⟨key.toNat, by have := hk.1; omega⟩
        have hkn : kn < 10 := by have := hk.2; omega
        obtain ⟨vs, hvs⟩ : ∃ vs, e.V[kn]? = some vs := ⟨e.V[kn]'(by rw [hok.v10]; exact hkn), by simp⟩
        have hvl := hok.row_le vs (List.mem_of_getElem? hvs)
        have hrow : e.row (kn : Int) = vs := by unfold Eng.row; simp [hvs]
        have hcall := fun at_ => read_any b 0 e.V e.last at_ kn vs w0 w _ hkn hs hvs (by omega)
        obtain ⟨r, hr⟩ : ∃ r, readV vs (e.asOf i) = r := ⟨_, rfl⟩
        obtain ⟨va, hva⟩ : ∃ va, (r.map (·.1)).getD 0 = va := ⟨_, rfl⟩
        obtain ⟨vv, hvv⟩ : ∃ vv, (r.map (·.2)).getD 0 = vv := ⟨_, rfl⟩
        obtain ⟨E, hEE⟩ : ∃ E, ranErr r = E := ⟨_, rfl⟩
        obtain ⟨fr, hfr⟩ : ∃ fr, (mget e.wr va).getD 0 = fr := ⟨_, rfl⟩
        have hE2 : (E == 2) = false := by rw [← hEE]; unfold ranErr; split <;> rfl
        obtain ⟨e1, he1⟩ : ∃ e1, (e.upd i fun x => { x with reads := x.reads ++ [((kn : Int), fr)] }) = e1 := ⟨_, rfl⟩
        have hf : e.read ((i : Int) + 1) (kn : Int) = if (e.tx i).level = 2 then (if (e1.sees i (kn : Int)).2 = true then ((e1.sees i (kn : Int)).1, vv, E) else ((e1.sees i (kn : Int)).1.goes i 13, 0, 13)) else (e1, vv, E) := by
          unfold Eng.read
          rw [if_neg (by rw [h1]; decide)]
          simp only [hi2, hw, hrow, hr, hva, hvv, hfr, he1]
          rw [if_neg (by simpa using hk)]
          rw [← hEE]; rfl
        have hok1 : OkT (N + 1) e1 [] := by rw [← he1]; exact hok.reads_in hi _
        have hlen1 : e1.txs.length = e.txs.length := by rw [← he1]; exact Eng.upd_len ..
        have hst1 : (e1.tx i).state = 0 := by rw [← he1]; exact (Eng.upd_keep (·.state) (fun x => { x with reads := x.reads ++ [((kn : Int), fr)] }) (fun _ => rfl) i).trans (h2 rfl)
        have hlv1 : (e1.tx i).level = (e.tx i).level := by rw [← he1]; exact Eng.upd_keep (·.level) (fun x => { x with reads := x.reads ++ [((kn : Int), fr)] }) (fun _ => rfl) i
        have hi1 : i < e1.txs.length := by omega
        obtain ⟨hok2, hlen2, hst2, _⟩ := sees_ok hok1 hi1 (kn : Int)
        have hrn : (e.tx i).reads.length + 1 ≤ 1000000000000 := by have := hok.reads _ (Eng.tx_mem hi); omega
        have hal1 : (e1.tx i).alive = true := by simp [Tx.alive, hst1]
        have hi3 : i < (e1.sees i (kn : Int)).1.txs.length := by omega
        have hal3 : ((e1.sees i (kn : Int)).1.tx i).alive = true := by unfold Tx.alive; rw [hst2, hst1]; rfl
        have hrdo : ∀ W M, S w0 W (storeP 105 b 0 e.V e.last :: tabP 3 b 11 e.t :: engO b bs k e :: M) → S w0 W (sl 98 2 (k.v i).rv (e.tx i).reads.length (pcells (e.tx i).reads) :: rdX b bs k e i :: storeP 105 b 0 e.V e.last :: tabP 3 b 11 e.t :: M) := fun W M h =>
          S.rd_open (h.conv (M := engO b bs k e :: storeP 105 b 0 e.V e.last :: tabP 3 b 11 e.t :: M) (by simp only [all]; ac_rfl)) hi
        obtain ⟨ar, cr, hvr, hcr, hcr2, _⟩ := (hrdo _ _ hs).sl_val
        rw [hvr] at hrdo
        have hq0 : ∀ (vb : Nat) W M, S w0 W (rdV b bs k e i vb va vv :: M) → W.cell? ⟨blkOf bs i, 5, none⟩ = some (.slice ar (e.tx i).reads.length cr) ∧ W.cell? ⟨b, 16, none⟩ = some (.map (some k.wb)) ∧ (Instr.lookup 57 (.map (some k.wb)) (.int .i64 va) false).run Tryz.prog W = .ok (.int .i64 fr) W ∧ W.cell? ⟨vb, 0, none⟩ = some (.int .i64 va) := fun vb W M h => by
          obtain ⟨g1, g2, g3, g4⟩ := h.sep_elim.rd_see
          have g5 := Tryz.look1 g4 va
          rw [hfr] at g5
          exact ⟨by rw [g1, hvr], g3, g5, h.sep_elim.swap.blk_cell 0 rfl⟩
        have hf0 : ∀ (vb : Nat) W M, S w0 W (rdV b bs k e i vb va vv :: M) → W.frozen? ⟨blkOf bs i, 5, none⟩ = false := fun vb W M h => h.sep_elim.rd_see.2.1
        have hcl : ∀ (vb : Nat) W v' M, S w0 W (sl 98 2 v' ((e.tx i).reads.length + 1) (pcells (e.tx i).reads ++ pcells [((kn : Int), fr)]) :: rdV b bs k e i vb va vv :: storeP 105 b 0 e.V e.last :: tabP 3 b 11 e.t :: M :: L) →
            S w0 (W.setCell ⟨blkOf bs i, 5, none⟩ v') (engP b bs e1 :: blk vb 105 [.int .i64 va, .int .i64 vv] :: L) := fun vb W v' M h => by
          have g1 : S w0 W (sl 98 2 v' ((e.tx i).reads.length + 1) (pcells (e.tx i).reads ++ pcells [((kn : Int), fr)]) :: rdX b bs k e i :: blk vb 105 [.int .i64 va, .int .i64 vv] :: storeP 105 b 0 e.V e.last :: tabP 3 b 11 e.t :: M :: L) := h.conv (by simp only [all, rdV]; ac_rfl)
          obtain ⟨k', _, g2⟩ := S.rd_close hi g1
          rw [he1] at g2
          have g3 : S w0 (W.setCell ⟨blkOf bs i, 5, none⟩ v') (storeP 105 b 0 e1.V e1.last :: tabP 3 b 11 e1.t :: engO b bs k' e1 :: blk vb 105 [.int .i64 va, .int .i64 vv] :: M :: L) := by
            rw [show e1.V = e.V by rw [← he1]; rfl, show e1.last = e.last by rw [← he1]; rfl, show e1.t = e.t by rw [← he1]; rfl]
            exact g2.conv (by simp only [all]; ac_rfl)
          exact (g3.eng_shut).conv (M := M :: engP b bs e1 :: blk vb 105 [.int .i64 va, .int .i64 vv] :: L) (by simp only [all]; ac_rfl) |>.tail
        have hlv : ∀ W M, S w0 W (engP b bs e1 :: M) → W.cell? ⟨blkOf bs i, 0, none⟩ = some (.int .i64 (e.tx i).level) := fun W M h => by
          obtain ⟨k', g⟩ := h.eng_open
          have g2 : S w0 W (engO b bs k' e1 :: storeP 105 b 0 e1.V e1.last :: tabP 3 b 11 e1.t :: M) := g.conv (by simp only [all]; ac_rfl)
          rw [← hlv1]; exact (g2.eng_txc hi1).2.level
        have HRD := hid hrdo; have HQ0 := hid hq0; have HF0 := hid hf0; have HCL0 := hid hcl; have HLV := hid hlv; have HA := hid hrn
        have HOK1 := hid hok1; have HOK2 := hid hok2; have HI1 := hid hi1; have HAL1 := hid hal1; have HI2 := hid hi3; have HAL2 := hid hal3; have HKEY := hid hk
        obtain ⟨i0, hi0, hz0, hz1, hz2⟩ := info_parts Tryz.info98
        by_cases hl0 : (e.tx i).level = 0
        ·
          have hat : e.asOf i = e.last := by unfold Eng.asOf; rw [if_pos hl0]
          have hcl2 := hcall e.last
          rw [← hat, hr, readAns_eq, hva, hvv, hEE, hat] at hcl2
          have hff : e.read ((i : Int) + 1) (kn : Int) = (e1, vv, E) := by rw [hf, if_neg (by omega)]
          have HRC := hid hcl2; have HFF := hid hff
          rw [hl0] at c0 HLV
          clear hs hO h1 h2 hc hok hi2 hx hw hl hk hkn hvs hvl hrow hcall hr hva hvv hEE hfr he1 hf hok1 hlen1 hst1 hlv1 hok2 hlen2 hst2 hrn hi1 hal1 hi3 hal3 hrdo hvr hcr hcr2 hq0 hf0 hcl hlv hl0 hat hcl2 hff HOK1 HOK2 HI1 HAL1 HI2 HAL2 HKEY
          go_enter Tryz.func25, Tryz.ntmps25
          go_wp2_with fail
          with_reducible refine HC.out.mono ?_
          rintro r1 w1 ⟨rfl, rfl⟩
          go_wp2_with (go_at_call 37; with_reducible refine HL.out.mono ?_; rintro r1 w1 ⟨rfl, rfl⟩)
          with_reducible refine HRC.out.mono ?_
          rintro r1 wv ⟨rfl, hs2⟩
          have hs3 := HRD.out _ _ ((hs2.alloc #[.int .i64 va, .int .i64 vv] 105).conv (M := storeP 105 b 0 e.V e.last :: tabP 3 b 11 e.t :: engO b bs k e :: blk wv.heap.size 105 [.int .i64 va, .int .i64 vv] :: L) (by simp only [all]; ac_rfl))
          have hs3 : S w0 _ (sl 98 2 (.slice ar (e.tx i).reads.length cr) (e.tx i).reads.length (pcells (e.tx i).reads) :: rdV b bs k e i wv.heap.size va vv :: storeP 105 b 0 e.V e.last :: tabP 3 b 11 e.t :: L) := hs3.conv (by simp only [all, rdV]; ac_rfl)
          have H3 := hid hs3
          clear hs2 hs3 HC HL HRC
          go_wp2_with fail
          with_reducible refine (tell_errV E w0 _ _ hE H3.out).mono ?_
          rintro r1 w3 ⟨rfl, hs4⟩
          have H4 := hid hs4
          clear hs4 H3
          go_wp2_with fail
          have HS0 := H4
          have HQ := hid (HQ0.out wv.heap.size); have HF := hid (HF0.out wv.heap.size); have HCL := hid (HCL0.out wv.heap.size)
          clear HQ0 HF0 HCL0 H4 HRD
          refine region_U (S := fun w' => w'.cell? ⟨blkOf bs i, 5, none⟩ = some (.slice ar (e.tx i).reads.length cr) ∧ w'.cell? ⟨b, 16, none⟩ = some (.map (some k.wb)) ∧ (Instr.lookup 57 (.map (some k.wb)) (.int .i64 va) false).run Tryz.prog w' = .ok (.int .i64 fr) w' ∧ w'.cell? ⟨wv.heap.size, 0, none⟩ = some (.int .i64 va)) (u := 18) (by kernel_rfl) (HQ.out _ _ (HS0.out.drew.nth 1 rfl)) (fun hHeld => ?_)
          refine anyU_take (i := 0) (v := ?_) rfl (by kernel_rfl) (fun _ _ _ h => h) (Or.inl ⟨by rfl, ?_⟩) hHeld ?_
          rotate_left
          · (intro w hSw; (try dsimp only at hSw); go_simp) <;> with_reducible rfl
          try simp only [Act.put, List.setIfInBounds_toArray, List.getElem_toArray, List.getElem_cons_zero, List.getElem_cons_succ, List.set_cons_zero, List.set_cons_succ]
          refine anyU_take (i := 1) (v := ?_) rfl (by kernel_rfl) (fun _ _ _ h => h) (Or.inl ⟨by rfl, ?_⟩) hHeld ?_
          rotate_left
          · (intro w hSw; (try dsimp only at hSw); go_simp) <;> with_reducible rfl
          try simp only [Act.put, List.setIfInBounds_toArray, List.getElem_toArray, List.getElem_cons_zero, List.getElem_cons_succ, List.set_cons_zero, List.set_cons_succ]
          refine anyU_take (i := 2) (v := ?_) rfl (by kernel_rfl) (fun _ _ _ h => h) (Or.inl ⟨by rfl, ?_⟩) hHeld ?_
          rotate_left
          · (intro w hSw; (try dsimp only at hSw); go_simp) <;> with_reducible rfl
          try simp only [Act.put, List.setIfInBounds_toArray, List.getElem_toArray, List.getElem_cons_zero, List.getElem_cons_succ, List.set_cons_zero, List.set_cons_succ]
          refine anyU_take (i := 3) (v := ?_) rfl (by kernel_rfl) (fun _ _ _ h => h) (Or.inl ⟨by rfl, ?_⟩) hHeld ?_
          rotate_left
          · (intro w hSw; (try dsimp only at hSw); go_simp) <;> with_reducible rfl
          try simp only [Act.put, List.setIfInBounds_toArray, List.getElem_toArray, List.getElem_cons_zero, List.getElem_cons_succ, List.set_cons_zero, List.set_cons_succ]
          refine anyU_take (i := 4) (v := ?_) rfl (by kernel_rfl) (fun _ _ _ h => h) (Or.inl ⟨by rfl, ?_⟩) hHeld ?_
          rotate_left
          · (intro w hSw; (try dsimp only at hSw); go_simp) <;> with_reducible rfl
          try simp only [Act.put, List.setIfInBounds_toArray, List.getElem_toArray, List.getElem_cons_zero, List.getElem_cons_succ, List.set_cons_zero, List.set_cons_succ]
          refine anyU_take (i := 5) (v := ?_) rfl (by kernel_rfl) (fun _ _ _ h => h) (Or.inl ⟨by rfl, ?_⟩) hHeld ?_
          rotate_left
          · (intro w hSw; (try dsimp only at hSw); go_simp) <;> with_reducible rfl
          try simp only [Act.put, List.setIfInBounds_toArray, List.getElem_toArray, List.getElem_cons_zero, List.getElem_cons_succ, List.set_cons_zero, List.set_cons_succ]
          refine anyU_take (i := 6) (v := ?_) rfl (by kernel_rfl) (fun _ _ _ h => h) (Or.inl ⟨by rfl, ?_⟩) hHeld ?_
          rotate_left
          · (intro w hSw; (try dsimp only at hSw); go_simp) <;> with_reducible rfl
          try simp only [Act.put, List.setIfInBounds_toArray, List.getElem_toArray, List.getElem_cons_zero, List.getElem_cons_succ, List.set_cons_zero, List.set_cons_succ]
          refine anyU_take (i := 7) (v := ?_) rfl (by kernel_rfl) (fun _ _ _ h => h) (Or.inl ⟨by rfl, ?_⟩) hHeld ?_
          rotate_left
          · (intro w hSw; (try dsimp only at hSw); go_simp) <;> with_reducible rfl
          try simp only [Act.put, List.setIfInBounds_toArray, List.getElem_toArray, List.getElem_cons_zero, List.getElem_cons_succ, List.set_cons_zero, List.set_cons_succ]
          refine anyU_take (i := 8) (v := ?_) rfl (by kernel_rfl) (fun _ _ _ h => h) (Or.inl ⟨by rfl, ?_⟩) hHeld ?_
          rotate_left
          · (intro w hSw; (try dsimp only at hSw); go_simp) <;> with_reducible rfl
          try simp only [Act.put, List.setIfInBounds_toArray, List.getElem_toArray, List.getElem_cons_zero, List.getElem_cons_succ, List.set_cons_zero, List.set_cons_succ]
          refine anyU_take (i := 9) (v := ?_) rfl (by kernel_rfl) (fun _ _ _ h => h) (Or.inl ⟨by rfl, ?_⟩) hHeld ?_
          rotate_left
          · (intro w hSw; (try dsimp only at hSw); go_simp) <;> with_reducible rfl
          try simp only [Act.put, List.setIfInBounds_toArray, List.getElem_toArray, List.getElem_cons_zero, List.getElem_cons_succ, List.set_cons_zero, List.set_cons_succ]
          refine anyU_take (i := 10) (v := ?_) rfl (by kernel_rfl) (fun _ _ _ h => h) (Or.inl ⟨by rfl, ?_⟩) hHeld ?_
          rotate_left
          · (intro w hSw; (try dsimp only at hSw); go_simp) <;> with_reducible rfl
          try simp only [Act.put, List.setIfInBounds_toArray, List.getElem_toArray, List.getElem_cons_zero, List.getElem_cons_succ, List.set_cons_zero, List.set_cons_succ]
          refine anyU_take (i := 11) (v := ?_) rfl (by kernel_rfl) (fun _ _ _ h => h) (Or.inl ⟨by rfl, ?_⟩) hHeld ?_
          rotate_left
          · (intro w hSw; (try dsimp only at hSw); go_simp) <;> with_reducible rfl
          try simp only [Act.put, List.setIfInBounds_toArray, List.getElem_toArray, List.getElem_cons_zero, List.getElem_cons_succ, List.set_cons_zero, List.set_cons_succ]
          refine anyU_take (i := 12) (v := ?_) rfl (by kernel_rfl) (fun _ _ _ h => h) (Or.inl ⟨by rfl, ?_⟩) hHeld ?_
          rotate_left
          · (intro w hSw; (try dsimp only at hSw); go_simp) <;> with_reducible rfl
          try simp only [Act.put, List.setIfInBounds_toArray, List.getElem_toArray, List.getElem_cons_zero, List.getElem_cons_succ, List.set_cons_zero, List.set_cons_succ]
          refine anyU_take (i := 13) (v := ?_) rfl (by kernel_rfl) (fun _ _ _ h => h) (Or.inl ⟨by rfl, ?_⟩) hHeld ?_
          rotate_left
          · (intro w hSw; (try dsimp only at hSw); go_simp) <;> with_reducible rfl
          try simp only [Act.put, List.setIfInBounds_toArray, List.getElem_toArray, List.getElem_cons_zero, List.getElem_cons_succ, List.set_cons_zero, List.set_cons_succ]
          have HS := hid HS0.out.drew
          clear hHeld
          refine anyU_world (fun w => Hid (S w0 w _)) HS (fun w1 HS => ?_)
          clear HS0
          refine anyU_next (rs := [14]) (by kernel_rfl) (by simp) ?_
          refine NextU.cons rfl (fun K hK => ?_) ?_
          · go_simp
            replace HS := hid (HS.out.alloc_slU (e := 98) (size := 2) (pcells [((kn : Int), fr)]) 1 rfl (by unfold maxLen; omega))
            generalize w1.heap.size = b14 at HS ⊢
            refine act_any (fun w => Hid (S w0 w _)) HS (fun w2 HS => ?_)
            refine hK.out _ _ (fun _ => (HQ.out _ _ (HS.out.nth 2 rfl))) ?_
            clear hK K
            refine anyU_next (rs := [15]) (by kernel_rfl) (by simp) ?_
            refine NextU.cons rfl (fun K hK => ?_) ?_
            · refine step_appU rfl (.tmp 64) (.tmp 74) 82 rfl 98 i0 _ 2 16 Tryz.underlying82 hi0 hz0 hz1 hz2 rfl (by decide) HS.out 1 (by rfl) (by rfl) _ 1 1 (pcells [((kn : Int), fr)]) (by rfl) rfl (HS.out.news_slK 0 (by rfl)) (one_pair _) HA.out (by decide) ?_
              intro v15 w3 hs
              replace HS := hid hs
              clear hs
              obtain ⟨p15, c15, rfl, _, _, _⟩ := HS.out.sl_val
              refine hK.out _ _ (fun _ => (HQ.out _ _ (HS.out.nth 2 rfl))) ?_
              clear hK K
              try simp only [Act.put, List.setIfInBounds_toArray, List.getElem_toArray, List.getElem_cons_zero, List.getElem_cons_succ, List.set_cons_zero, List.set_cons_succ]
              refine anyU_pure (i := 16) (v := ?_) rfl (by kernel_rfl) (fun _ _ _ h => h) (Or.inl ⟨by rfl, ?_⟩) (fun _ => (HQ.out _ _ (HS.out.nth 2 rfl))) ?_
              rotate_left
              · (intro w _; go_simp) <;> with_reducible rfl
              try simp only [Act.put, List.setIfInBounds_toArray, List.getElem_toArray, List.getElem_cons_zero, List.getElem_cons_succ, List.set_cons_zero, List.set_cons_succ]
              refine anyU_take (i := 17) (v := ?_) rfl (by kernel_rfl) (fun _ _ _ h => h) (Or.inl ⟨by rfl, ?_⟩) (HQ.out _ _ (HS.out.nth 2 rfl)) ?_
              rotate_left
              · (intro w hSw; (try dsimp only at hSw); go_simp) <;> with_reducible rfl
              try simp only [Act.put, List.setIfInBounds_toArray, List.getElem_toArray, List.getElem_cons_zero, List.getElem_cons_succ, List.set_cons_zero, List.set_cons_succ]
              refine anyU_next (rs := [18]) (by kernel_rfl) (by simp) ?_
              refine NextU.cons rfl (fun K hK => ?_) ?_
              · have q1 := (HQ.out _ _ (HS.out.nth 2 rfl)).1
                have q2 := HF.out _ _ (HS.out.nth 2 rfl)
                go_simp
                refine hK.out _ _ (fun h => Bool.noConfusion (show true = false from h)) ?_
                clear hK K q1 q2
                refine anyU_done (by kernel_rfl) ?_ _
                have HZ := HS.out
                simp only [List.eraseIdx_cons_succ, List.eraseIdx_cons_zero] at HZ
                have h5 := HCL.out _ _ _ (HZ.conv (M := sl 98 2 (.slice p15 ((e.tx i).reads.length + 1) c15) ((e.tx i).reads.length + 1) (pcells (e.tx i).reads ++ pcells [((kn : Int), fr)]) :: rdV b bs k e i wv.heap.size va vv :: storeP 105 b 0 e.V e.last :: tabP 3 b 11 e.t :: sl 98 2 (.slice (some ⟨b14, 0, none⟩) 1 1) 1 (pcells [((kn : Int), fr)]) :: L) (by simp only [all]; ac_rfl))
                have H5 := hid h5
                have q0 := HLV.out _ _ h5
                have q9 := h5.swap.blk_cell 1 rfl
                clear HZ h5 HS HCL HQ HF HLV
                go_wp2_with fail
                go_ret2
                exact ⟨by rw [HFF.out]; rfl, by rw [HFF.out]; exact H5.out.swap.tail⟩
              exact NextU.nil
            exact NextU.nil
          exact NextU.nil
        · by_cases hl2 : (e.tx i).level = 2
          ·
            have hat : e.asOf i = (e.tx i).start := by unfold Eng.asOf; rw [if_neg hl0]
            have hcl2 := hcall (e.tx i).start
            rw [← hat, hr, readAns_eq, hva, hvv, hEE, hat] at hcl2
            rw [if_pos hl2] at hf
            have hff := hf
            have HRC := hid hcl2; have HFF := hid hff
            rw [hl2] at c0 HLV
            clear hs hO h1 h2 hc hok hi2 hx hw hl hk hkn hvs hvl hrow hcall hr hva hvv hEE hfr he1 hf hok1 hlen1 hst1 hlv1 hok2 hlen2 hst2 hrn hi1 hal1 hi3 hal3 hrdo hvr hcr hcr2 hq0 hf0 hcl hlv hl0 hl2 hat hcl2 hff
            go_enter Tryz.func25, Tryz.ntmps25
            go_wp2_with fail
            with_reducible refine HC.out.mono ?_
            rintro r1 w1 ⟨rfl, rfl⟩
            go_wp2_with fail
            with_reducible refine HRC.out.mono ?_
            rintro r1 wv ⟨rfl, hs2⟩
            have hs3 := HRD.out _ _ ((hs2.alloc #[.int .i64 va, .int .i64 vv] 105).conv (M := storeP 105 b 0 e.V e.last :: tabP 3 b 11 e.t :: engO b bs k e :: blk wv.heap.size 105 [.int .i64 va, .int .i64 vv] :: L) (by simp only [all]; ac_rfl))
            have hs3 : S w0 _ (sl 98 2 (.slice ar (e.tx i).reads.length cr) (e.tx i).reads.length (pcells (e.tx i).reads) :: rdV b bs k e i wv.heap.size va vv :: storeP 105 b 0 e.V e.last :: tabP 3 b 11 e.t :: L) := hs3.conv (by simp only [all, rdV]; ac_rfl)
            have H3 := hid hs3
            clear hs2 hs3 HC HL HRC
            go_wp2_with fail
            with_reducible refine (tell_errV E w0 _ _ hE H3.out).mono ?_
            rintro r1 w3 ⟨rfl, hs4⟩
            have H4 := hid hs4
            clear hs4 H3
            go_wp2_with fail
            have HS0 := H4
            have HQ := hid (HQ0.out wv.heap.size); have HF := hid (HF0.out wv.heap.size); have HCL := hid (HCL0.out wv.heap.size)
            clear HQ0 HF0 HCL0 H4 HRD
            refine region_U (S := fun w' => w'.cell? ⟨blkOf bs i, 5, none⟩ = some (.slice ar (e.tx i).reads.length cr) ∧ w'.cell? ⟨b, 16, none⟩ = some (.map (some k.wb)) ∧ (Instr.lookup 57 (.map (some k.wb)) (.int .i64 va) false).run Tryz.prog w' = .ok (.int .i64 fr) w' ∧ w'.cell? ⟨wv.heap.size, 0, none⟩ = some (.int .i64 va)) (u := 18) (by kernel_rfl) (HQ.out _ _ (HS0.out.drew.nth 1 rfl)) (fun hHeld => ?_)
            refine anyU_take (i := 0) (v := ?_) rfl (by kernel_rfl) (fun _ _ _ h => h) (Or.inl ⟨by rfl, ?_⟩) hHeld ?_
            rotate_left
            · (intro w hSw; (try dsimp only at hSw); go_simp) <;> with_reducible rfl
            try simp only [Act.put, List.setIfInBounds_toArray, List.getElem_toArray, List.getElem_cons_zero, List.getElem_cons_succ, List.set_cons_zero, List.set_cons_succ]
            refine anyU_take (i := 1) (v := ?_) rfl (by kernel_rfl) (fun _ _ _ h => h) (Or.inl ⟨by rfl, ?_⟩) hHeld ?_
            rotate_left
            · (intro w hSw; (try dsimp only at hSw); go_simp) <;> with_reducible rfl
            try simp only [Act.put, List.setIfInBounds_toArray, List.getElem_toArray, List.getElem_cons_zero, List.getElem_cons_succ, List.set_cons_zero, List.set_cons_succ]
            refine anyU_take (i := 2) (v := ?_) rfl (by kernel_rfl) (fun _ _ _ h => h) (Or.inl ⟨by rfl, ?_⟩) hHeld ?_
            rotate_left
            · (intro w hSw; (try dsimp only at hSw); go_simp) <;> with_reducible rfl
            try simp only [Act.put, List.setIfInBounds_toArray, List.getElem_toArray, List.getElem_cons_zero, List.getElem_cons_succ, List.set_cons_zero, List.set_cons_succ]
            refine anyU_take (i := 3) (v := ?_) rfl (by kernel_rfl) (fun _ _ _ h => h) (Or.inl ⟨by rfl, ?_⟩) hHeld ?_
            rotate_left
            · (intro w hSw; (try dsimp only at hSw); go_simp) <;> with_reducible rfl
            try simp only [Act.put, List.setIfInBounds_toArray, List.getElem_toArray, List.getElem_cons_zero, List.getElem_cons_succ, List.set_cons_zero, List.set_cons_succ]
            refine anyU_take (i := 4) (v := ?_) rfl (by kernel_rfl) (fun _ _ _ h => h) (Or.inl ⟨by rfl, ?_⟩) hHeld ?_
            rotate_left
            · (intro w hSw; (try dsimp only at hSw); go_simp) <;> with_reducible rfl
            try simp only [Act.put, List.setIfInBounds_toArray, List.getElem_toArray, List.getElem_cons_zero, List.getElem_cons_succ, List.set_cons_zero, List.set_cons_succ]
            refine anyU_take (i := 5) (v := ?_) rfl (by kernel_rfl) (fun _ _ _ h => h) (Or.inl ⟨by rfl, ?_⟩) hHeld ?_
            rotate_left
            · (intro w hSw; (try dsimp only at hSw); go_simp) <;> with_reducible rfl
            try simp only [Act.put, List.setIfInBounds_toArray, List.getElem_toArray, List.getElem_cons_zero, List.getElem_cons_succ, List.set_cons_zero, List.set_cons_succ]
            refine anyU_take (i := 6) (v := ?_) rfl (by kernel_rfl) (fun _ _ _ h => h) (Or.inl ⟨by rfl, ?_⟩) hHeld ?_
            rotate_left
            · (intro w hSw; (try dsimp only at hSw); go_simp) <;> with_reducible rfl
            try simp only [Act.put, List.setIfInBounds_toArray, List.getElem_toArray, List.getElem_cons_zero, List.getElem_cons_succ, List.set_cons_zero, List.set_cons_succ]
            refine anyU_take (i := 7) (v := ?_) rfl (by kernel_rfl) (fun _ _ _ h => h) (Or.inl ⟨by rfl, ?_⟩) hHeld ?_
            rotate_left
            · (intro w hSw; (try dsimp only at hSw); go_simp) <;> with_reducible rfl
            try simp only [Act.put, List.setIfInBounds_toArray, List.getElem_toArray, List.getElem_cons_zero, List.getElem_cons_succ, List.set_cons_zero, List.set_cons_succ]
            refine anyU_take (i := 8) (v := ?_) rfl (by kernel_rfl) (fun _ _ _ h => h) (Or.inl ⟨by rfl, ?_⟩) hHeld ?_
            rotate_left
            · (intro w hSw; (try dsimp only at hSw); go_simp) <;> with_reducible rfl
            try simp only [Act.put, List.setIfInBounds_toArray, List.getElem_toArray, List.getElem_cons_zero, List.getElem_cons_succ, List.set_cons_zero, List.set_cons_succ]
            refine anyU_take (i := 9) (v := ?_) rfl (by kernel_rfl) (fun _ _ _ h => h) (Or.inl ⟨by rfl, ?_⟩) hHeld ?_
            rotate_left
            · (intro w hSw; (try dsimp only at hSw); go_simp) <;> with_reducible rfl
            try simp only [Act.put, List.setIfInBounds_toArray, List.getElem_toArray, List.getElem_cons_zero, List.getElem_cons_succ, List.set_cons_zero, List.set_cons_succ]
            refine anyU_take (i := 10) (v := ?_) rfl (by kernel_rfl) (fun _ _ _ h => h) (Or.inl ⟨by rfl, ?_⟩) hHeld ?_
            rotate_left
            · (intro w hSw; (try dsimp only at hSw); go_simp) <;> with_reducible rfl
            try simp only [Act.put, List.setIfInBounds_toArray, List.getElem_toArray, List.getElem_cons_zero, List.getElem_cons_succ, List.set_cons_zero, List.set_cons_succ]
            refine anyU_take (i := 11) (v := ?_) rfl (by kernel_rfl) (fun _ _ _ h => h) (Or.inl ⟨by rfl, ?_⟩) hHeld ?_
            rotate_left
            · (intro w hSw; (try dsimp only at hSw); go_simp) <;> with_reducible rfl
            try simp only [Act.put, List.setIfInBounds_toArray, List.getElem_toArray, List.getElem_cons_zero, List.getElem_cons_succ, List.set_cons_zero, List.set_cons_succ]
            refine anyU_take (i := 12) (v := ?_) rfl (by kernel_rfl) (fun _ _ _ h => h) (Or.inl ⟨by rfl, ?_⟩) hHeld ?_
            rotate_left
            · (intro w hSw; (try dsimp only at hSw); go_simp) <;> with_reducible rfl
            try simp only [Act.put, List.setIfInBounds_toArray, List.getElem_toArray, List.getElem_cons_zero, List.getElem_cons_succ, List.set_cons_zero, List.set_cons_succ]
            refine anyU_take (i := 13) (v := ?_) rfl (by kernel_rfl) (fun _ _ _ h => h) (Or.inl ⟨by rfl, ?_⟩) hHeld ?_
            rotate_left
            · (intro w hSw; (try dsimp only at hSw); go_simp) <;> with_reducible rfl
            try simp only [Act.put, List.setIfInBounds_toArray, List.getElem_toArray, List.getElem_cons_zero, List.getElem_cons_succ, List.set_cons_zero, List.set_cons_succ]
            have HS := hid HS0.out.drew
            clear hHeld
            refine anyU_world (fun w => Hid (S w0 w _)) HS (fun w1 HS => ?_)
            clear HS0
            refine anyU_next (rs := [14]) (by kernel_rfl) (by simp) ?_
            refine NextU.cons rfl (fun K hK => ?_) ?_
            · go_simp
              replace HS := hid (HS.out.alloc_slU (e := 98) (size := 2) (pcells [((kn : Int), fr)]) 1 rfl (by unfold maxLen; omega))
              generalize w1.heap.size = b14 at HS ⊢
              refine act_any (fun w => Hid (S w0 w _)) HS (fun w2 HS => ?_)
              refine hK.out _ _ (fun _ => (HQ.out _ _ (HS.out.nth 2 rfl))) ?_
              clear hK K
              refine anyU_next (rs := [15]) (by kernel_rfl) (by simp) ?_
              refine NextU.cons rfl (fun K hK => ?_) ?_
              · refine step_appU rfl (.tmp 64) (.tmp 74) 82 rfl 98 i0 _ 2 16 Tryz.underlying82 hi0 hz0 hz1 hz2 rfl (by decide) HS.out 1 (by rfl) (by rfl) _ 1 1 (pcells [((kn : Int), fr)]) (by rfl) rfl (HS.out.news_slK 0 (by rfl)) (one_pair _) HA.out (by decide) ?_
                intro v15 w3 hs
                replace HS := hid hs
                clear hs
                obtain ⟨p15, c15, rfl, _, _, _⟩ := HS.out.sl_val
                refine hK.out _ _ (fun _ => (HQ.out _ _ (HS.out.nth 2 rfl))) ?_
                clear hK K
                try simp only [Act.put, List.setIfInBounds_toArray, List.getElem_toArray, List.getElem_cons_zero, List.getElem_cons_succ, List.set_cons_zero, List.set_cons_succ]
                refine anyU_pure (i := 16) (v := ?_) rfl (by kernel_rfl) (fun _ _ _ h => h) (Or.inl ⟨by rfl, ?_⟩) (fun _ => (HQ.out _ _ (HS.out.nth 2 rfl))) ?_
                rotate_left
                · (intro w _; go_simp) <;> with_reducible rfl
                try simp only [Act.put, List.setIfInBounds_toArray, List.getElem_toArray, List.getElem_cons_zero, List.getElem_cons_succ, List.set_cons_zero, List.set_cons_succ]
                refine anyU_take (i := 17) (v := ?_) rfl (by kernel_rfl) (fun _ _ _ h => h) (Or.inl ⟨by rfl, ?_⟩) (HQ.out _ _ (HS.out.nth 2 rfl)) ?_
                rotate_left
                · (intro w hSw; (try dsimp only at hSw); go_simp) <;> with_reducible rfl
                try simp only [Act.put, List.setIfInBounds_toArray, List.getElem_toArray, List.getElem_cons_zero, List.getElem_cons_succ, List.set_cons_zero, List.set_cons_succ]
                refine anyU_next (rs := [18]) (by kernel_rfl) (by simp) ?_
                refine NextU.cons rfl (fun K hK => ?_) ?_
                · have q1 := (HQ.out _ _ (HS.out.nth 2 rfl)).1
                  have q2 := HF.out _ _ (HS.out.nth 2 rfl)
                  go_simp
                  refine hK.out _ _ (fun h => Bool.noConfusion (show true = false from h)) ?_
                  clear hK K q1 q2
                  refine anyU_done (by kernel_rfl) ?_ _
                  have HZ := HS.out
                  simp only [List.eraseIdx_cons_succ, List.eraseIdx_cons_zero] at HZ
                  have h5 := HCL.out _ _ _ (HZ.conv (M := sl 98 2 (.slice p15 ((e.tx i).reads.length + 1) c15) ((e.tx i).reads.length + 1) (pcells (e.tx i).reads ++ pcells [((kn : Int), fr)]) :: rdV b bs k e i wv.heap.size va vv :: storeP 105 b 0 e.V e.last :: tabP 3 b 11 e.t :: sl 98 2 (.slice (some ⟨b14, 0, none⟩) 1 1) 1 (pcells [((kn : Int), fr)]) :: L) (by simp only [all]; ac_rfl))
                  have H5 := hid h5
                  have q0 := HLV.out _ _ h5
                  have q9 := h5.swap.blk_cell 1 rfl
                  clear HZ h5 HS HCL HQ HF HLV
                  have hsaw := saw_any w0 _ b bs e1 i (kn : Int) _ (N + 1) [] HOK1.out HI1.out HAL1.out HKEY.out (by omega) H5.out
                  unfold ptr at hsaw
                  have HSAW := hid hsaw
                  clear hsaw
                  cases hsv : (e1.sees i (kn : Int)).2 with
                  | true =>
                    rw [hsv] at HSAW
                    have hff : e.read ((i : Int) + 1) (kn : Int) = ((e1.sees i (kn : Int)).1, vv, E) := by rw [HFF.out, if_pos hsv]
                    have HFF2 := hid hff
                    clear hff HFF hsv
                    go_wp2_with (go_at_call 44; with_reducible refine HSAW.out.mono ?_; rintro r w5 ⟨rfl, hs5⟩; have H6 := hid hs5; have q8 := hs5.swap.blk_cell 1 rfl; clear hs5)
                    go_ret2
                    exact ⟨by rw [HFF2.out]; rfl, by rw [HFF2.out]; exact H6.out.swap.tail⟩
                  | false =>
                    rw [hsv] at HSAW
                    have hff : e.read ((i : Int) + 1) (kn : Int) = ((e1.sees i (kn : Int)).1.goes i 13, 0, 13) := by rw [HFF.out, if_neg (by rw [hsv]; decide)]
                    have HFF2 := hid hff
                    clear hff HFF hsv
                    go_wp2_with (go_at_call 44; with_reducible refine HSAW.out.mono ?_; rintro r w5 ⟨rfl, hs5⟩; have H6 := hid hs5; have q8 := hs5.swap.blk_cell 1 rfl; clear hs5)
                    have hgo := goes_any (e1.sees i (kn : Int)).1.open_ w0 w5 b bs _ i 13 _ (N + 602) [] HOK2.out HI2.out HAL2.out (by simp) (Nat.le_refl _) (by omega) H6.out
                    have HGO := hid hgo
                    clear hgo
                    with_reducible refine HGO.out.mono ?_
                    rintro r w6 ⟨rfl, hs6⟩
                    have H7 := hid hs6
                    clear hs6
                    go_wp2_with fail
                    go_ret2
                    exact ⟨by rw [HFF2.out]; rfl, by rw [HFF2.out]; exact H7.out.swap.tail⟩
                exact NextU.nil
              exact NextU.nil
            exact NextU.nil
          ·
            have hat : e.asOf i = (e.tx i).start := by unfold Eng.asOf; rw [if_neg hl0]
            have hcl2 := hcall (e.tx i).start
            rw [← hat, hr, readAns_eq, hva, hvv, hEE, hat] at hcl2
            have hff : e.read ((i : Int) + 1) (kn : Int) = (e1, vv, E) := by rw [hf, if_neg hl2]
            have HRC := hid hcl2; have HFF := hid hff
            have hb0 : ((e.tx i).level == 0) = false := by simpa using hl0
            have hb2 : ((e.tx i).level == 2) = false := by simpa using hl2
            clear hs hO h1 h2 hc hok hi2 hx hw hl hk hkn hvs hvl hrow hcall hr hva hvv hEE hfr he1 hf hok1 hlen1 hst1 hlv1 hok2 hlen2 hst2 hrn hi1 hal1 hi3 hal3 hrdo hvr hcr hcr2 hq0 hf0 hcl hlv hl0 hl2 hat hcl2 hff HOK1 HOK2 HI1 HAL1 HI2 HAL2 HKEY
            go_enter Tryz.func25, Tryz.ntmps25
            go_wp2_with fail
            with_reducible refine HC.out.mono ?_
            rintro r1 w1 ⟨rfl, rfl⟩
            go_wp2_with fail
            with_reducible refine HRC.out.mono ?_
            rintro r1 wv ⟨rfl, hs2⟩
            have hs3 := HRD.out _ _ ((hs2.alloc #[.int .i64 va, .int .i64 vv] 105).conv (M := storeP 105 b 0 e.V e.last :: tabP 3 b 11 e.t :: engO b bs k e :: blk wv.heap.size 105 [.int .i64 va, .int .i64 vv] :: L) (by simp only [all]; ac_rfl))
            have hs3 : S w0 _ (sl 98 2 (.slice ar (e.tx i).reads.length cr) (e.tx i).reads.length (pcells (e.tx i).reads) :: rdV b bs k e i wv.heap.size va vv :: storeP 105 b 0 e.V e.last :: tabP 3 b 11 e.t :: L) := hs3.conv (by simp only [all, rdV]; ac_rfl)
            have H3 := hid hs3
            clear hs2 hs3 HC HL HRC
            go_wp2_with fail
            with_reducible refine (tell_errV E w0 _ _ hE H3.out).mono ?_
            rintro r1 w3 ⟨rfl, hs4⟩
            have H4 := hid hs4
            clear hs4 H3
            go_wp2_with fail
            have HS0 := H4
            have HQ := hid (HQ0.out wv.heap.size); have HF := hid (HF0.out wv.heap.size); have HCL := hid (HCL0.out wv.heap.size)
            clear HQ0 HF0 HCL0 H4 HRD
            refine region_U (S := fun w' => w'.cell? ⟨blkOf bs i, 5, none⟩ = some (.slice ar (e.tx i).reads.length cr) ∧ w'.cell? ⟨b, 16, none⟩ = some (.map (some k.wb)) ∧ (Instr.lookup 57 (.map (some k.wb)) (.int .i64 va) false).run Tryz.prog w' = .ok (.int .i64 fr) w' ∧ w'.cell? ⟨wv.heap.size, 0, none⟩ = some (.int .i64 va)) (u := 18) (by kernel_rfl) (HQ.out _ _ (HS0.out.drew.nth 1 rfl)) (fun hHeld => ?_)
            refine anyU_take (i := 0) (v := ?_) rfl (by kernel_rfl) (fun _ _ _ h => h) (Or.inl ⟨by rfl, ?_⟩) hHeld ?_
            rotate_left
            · (intro w hSw; (try dsimp only at hSw); go_simp) <;> with_reducible rfl
            try simp only [Act.put, List.setIfInBounds_toArray, List.getElem_toArray, List.getElem_cons_zero, List.getElem_cons_succ, List.set_cons_zero, List.set_cons_succ]
            refine anyU_take (i := 1) (v := ?_) rfl (by kernel_rfl) (fun _ _ _ h => h) (Or.inl ⟨by rfl, ?_⟩) hHeld ?_
            rotate_left
            · (intro w hSw; (try dsimp only at hSw); go_simp) <;> with_reducible rfl
            try simp only [Act.put, List.setIfInBounds_toArray, List.getElem_toArray, List.getElem_cons_zero, List.getElem_cons_succ, List.set_cons_zero, List.set_cons_succ]
            refine anyU_take (i := 2) (v := ?_) rfl (by kernel_rfl) (fun _ _ _ h => h) (Or.inl ⟨by rfl, ?_⟩) hHeld ?_
            rotate_left
            · (intro w hSw; (try dsimp only at hSw); go_simp) <;> with_reducible rfl
            try simp only [Act.put, List.setIfInBounds_toArray, List.getElem_toArray, List.getElem_cons_zero, List.getElem_cons_succ, List.set_cons_zero, List.set_cons_succ]
            refine anyU_take (i := 3) (v := ?_) rfl (by kernel_rfl) (fun _ _ _ h => h) (Or.inl ⟨by rfl, ?_⟩) hHeld ?_
            rotate_left
            · (intro w hSw; (try dsimp only at hSw); go_simp) <;> with_reducible rfl
            try simp only [Act.put, List.setIfInBounds_toArray, List.getElem_toArray, List.getElem_cons_zero, List.getElem_cons_succ, List.set_cons_zero, List.set_cons_succ]
            refine anyU_take (i := 4) (v := ?_) rfl (by kernel_rfl) (fun _ _ _ h => h) (Or.inl ⟨by rfl, ?_⟩) hHeld ?_
            rotate_left
            · (intro w hSw; (try dsimp only at hSw); go_simp) <;> with_reducible rfl
            try simp only [Act.put, List.setIfInBounds_toArray, List.getElem_toArray, List.getElem_cons_zero, List.getElem_cons_succ, List.set_cons_zero, List.set_cons_succ]
            refine anyU_take (i := 5) (v := ?_) rfl (by kernel_rfl) (fun _ _ _ h => h) (Or.inl ⟨by rfl, ?_⟩) hHeld ?_
            rotate_left
            · (intro w hSw; (try dsimp only at hSw); go_simp) <;> with_reducible rfl
            try simp only [Act.put, List.setIfInBounds_toArray, List.getElem_toArray, List.getElem_cons_zero, List.getElem_cons_succ, List.set_cons_zero, List.set_cons_succ]
            refine anyU_take (i := 6) (v := ?_) rfl (by kernel_rfl) (fun _ _ _ h => h) (Or.inl ⟨by rfl, ?_⟩) hHeld ?_
            rotate_left
            · (intro w hSw; (try dsimp only at hSw); go_simp) <;> with_reducible rfl
            try simp only [Act.put, List.setIfInBounds_toArray, List.getElem_toArray, List.getElem_cons_zero, List.getElem_cons_succ, List.set_cons_zero, List.set_cons_succ]
            refine anyU_take (i := 7) (v := ?_) rfl (by kernel_rfl) (fun _ _ _ h => h) (Or.inl ⟨by rfl, ?_⟩) hHeld ?_
            rotate_left
            · (intro w hSw; (try dsimp only at hSw); go_simp) <;> with_reducible rfl
            try simp only [Act.put, List.setIfInBounds_toArray, List.getElem_toArray, List.getElem_cons_zero, List.getElem_cons_succ, List.set_cons_zero, List.set_cons_succ]
            refine anyU_take (i := 8) (v := ?_) rfl (by kernel_rfl) (fun _ _ _ h => h) (Or.inl ⟨by rfl, ?_⟩) hHeld ?_
            rotate_left
            · (intro w hSw; (try dsimp only at hSw); go_simp) <;> with_reducible rfl
            try simp only [Act.put, List.setIfInBounds_toArray, List.getElem_toArray, List.getElem_cons_zero, List.getElem_cons_succ, List.set_cons_zero, List.set_cons_succ]
            refine anyU_take (i := 9) (v := ?_) rfl (by kernel_rfl) (fun _ _ _ h => h) (Or.inl ⟨by rfl, ?_⟩) hHeld ?_
            rotate_left
            · (intro w hSw; (try dsimp only at hSw); go_simp) <;> with_reducible rfl
            try simp only [Act.put, List.setIfInBounds_toArray, List.getElem_toArray, List.getElem_cons_zero, List.getElem_cons_succ, List.set_cons_zero, List.set_cons_succ]
            refine anyU_take (i := 10) (v := ?_) rfl (by kernel_rfl) (fun _ _ _ h => h) (Or.inl ⟨by rfl, ?_⟩) hHeld ?_
            rotate_left
            · (intro w hSw; (try dsimp only at hSw); go_simp) <;> with_reducible rfl
            try simp only [Act.put, List.setIfInBounds_toArray, List.getElem_toArray, List.getElem_cons_zero, List.getElem_cons_succ, List.set_cons_zero, List.set_cons_succ]
            refine anyU_take (i := 11) (v := ?_) rfl (by kernel_rfl) (fun _ _ _ h => h) (Or.inl ⟨by rfl, ?_⟩) hHeld ?_
            rotate_left
            · (intro w hSw; (try dsimp only at hSw); go_simp) <;> with_reducible rfl
            try simp only [Act.put, List.setIfInBounds_toArray, List.getElem_toArray, List.getElem_cons_zero, List.getElem_cons_succ, List.set_cons_zero, List.set_cons_succ]
            refine anyU_take (i := 12) (v := ?_) rfl (by kernel_rfl) (fun _ _ _ h => h) (Or.inl ⟨by rfl, ?_⟩) hHeld ?_
            rotate_left
            · (intro w hSw; (try dsimp only at hSw); go_simp) <;> with_reducible rfl
            try simp only [Act.put, List.setIfInBounds_toArray, List.getElem_toArray, List.getElem_cons_zero, List.getElem_cons_succ, List.set_cons_zero, List.set_cons_succ]
            refine anyU_take (i := 13) (v := ?_) rfl (by kernel_rfl) (fun _ _ _ h => h) (Or.inl ⟨by rfl, ?_⟩) hHeld ?_
            rotate_left
            · (intro w hSw; (try dsimp only at hSw); go_simp) <;> with_reducible rfl
            try simp only [Act.put, List.setIfInBounds_toArray, List.getElem_toArray, List.getElem_cons_zero, List.getElem_cons_succ, List.set_cons_zero, List.set_cons_succ]
            have HS := hid HS0.out.drew
            clear hHeld
            refine anyU_world (fun w => Hid (S w0 w _)) HS (fun w1 HS => ?_)
            clear HS0
            refine anyU_next (rs := [14]) (by kernel_rfl) (by simp) ?_
            refine NextU.cons rfl (fun K hK => ?_) ?_
            · go_simp
              replace HS := hid (HS.out.alloc_slU (e := 98) (size := 2) (pcells [((kn : Int), fr)]) 1 rfl (by unfold maxLen; omega))
              generalize w1.heap.size = b14 at HS ⊢
              refine act_any (fun w => Hid (S w0 w _)) HS (fun w2 HS => ?_)
              refine hK.out _ _ (fun _ => (HQ.out _ _ (HS.out.nth 2 rfl))) ?_
              clear hK K
              refine anyU_next (rs := [15]) (by kernel_rfl) (by simp) ?_
              refine NextU.cons rfl (fun K hK => ?_) ?_
              · refine step_appU rfl (.tmp 64) (.tmp 74) 82 rfl 98 i0 _ 2 16 Tryz.underlying82 hi0 hz0 hz1 hz2 rfl (by decide) HS.out 1 (by rfl) (by rfl) _ 1 1 (pcells [((kn : Int), fr)]) (by rfl) rfl (HS.out.news_slK 0 (by rfl)) (one_pair _) HA.out (by decide) ?_
                intro v15 w3 hs
                replace HS := hid hs
                clear hs
                obtain ⟨p15, c15, rfl, _, _, _⟩ := HS.out.sl_val
                refine hK.out _ _ (fun _ => (HQ.out _ _ (HS.out.nth 2 rfl))) ?_
                clear hK K
                try simp only [Act.put, List.setIfInBounds_toArray, List.getElem_toArray, List.getElem_cons_zero, List.getElem_cons_succ, List.set_cons_zero, List.set_cons_succ]
                refine anyU_pure (i := 16) (v := ?_) rfl (by kernel_rfl) (fun _ _ _ h => h) (Or.inl ⟨by rfl, ?_⟩) (fun _ => (HQ.out _ _ (HS.out.nth 2 rfl))) ?_
                rotate_left
                · (intro w _; go_simp) <;> with_reducible rfl
                try simp only [Act.put, List.setIfInBounds_toArray, List.getElem_toArray, List.getElem_cons_zero, List.getElem_cons_succ, List.set_cons_zero, List.set_cons_succ]
                refine anyU_take (i := 17) (v := ?_) rfl (by kernel_rfl) (fun _ _ _ h => h) (Or.inl ⟨by rfl, ?_⟩) (HQ.out _ _ (HS.out.nth 2 rfl)) ?_
                rotate_left
                · (intro w hSw; (try dsimp only at hSw); go_simp) <;> with_reducible rfl
                try simp only [Act.put, List.setIfInBounds_toArray, List.getElem_toArray, List.getElem_cons_zero, List.getElem_cons_succ, List.set_cons_zero, List.set_cons_succ]
                refine anyU_next (rs := [18]) (by kernel_rfl) (by simp) ?_
                refine NextU.cons rfl (fun K hK => ?_) ?_
                · have q1 := (HQ.out _ _ (HS.out.nth 2 rfl)).1
                  have q2 := HF.out _ _ (HS.out.nth 2 rfl)
                  go_simp
                  refine hK.out _ _ (fun h => Bool.noConfusion (show true = false from h)) ?_
                  clear hK K q1 q2
                  refine anyU_done (by kernel_rfl) ?_ _
                  have HZ := HS.out
                  simp only [List.eraseIdx_cons_succ, List.eraseIdx_cons_zero] at HZ
                  have h5 := HCL.out _ _ _ (HZ.conv (M := sl 98 2 (.slice p15 ((e.tx i).reads.length + 1) c15) ((e.tx i).reads.length + 1) (pcells (e.tx i).reads ++ pcells [((kn : Int), fr)]) :: rdV b bs k e i wv.heap.size va vv :: storeP 105 b 0 e.V e.last :: tabP 3 b 11 e.t :: sl 98 2 (.slice (some ⟨b14, 0, none⟩) 1 1) 1 (pcells [((kn : Int), fr)]) :: L) (by simp only [all]; ac_rfl))
                  have H5 := hid h5
                  have q0 := HLV.out _ _ h5
                  have q9 := h5.swap.blk_cell 1 rfl
                  clear HZ h5 HS HCL HQ HF HLV
                  go_wp2_with fail
                  go_ret2
                  exact ⟨by rw [HFF.out]; rfl, by rw [HFF.out]; exact H5.out.swap.tail⟩
                exact NextU.nil
              exact NextU.nil
            exact NextU.nil
      · have hf : e.read ((i : Int) + 1) key = (e, 0, 2) := by
          unfold Eng.read
          rw [if_neg (by rw [h1]; decide)]
          simp only [hi2, hw]
          rw [if_pos hk]
        have HF := hid hf
        by_cases hl0 : (e.tx i).level = 0
        · rw [hl0] at c0
          have HRN := hid (read_no b 0 key e.last w0 w _ HS.out hk)
          clear hs hO h1 h2 hf hc hok hi2 hx hw hl hk hl0
          go_enter Tryz.func25, Tryz.ntmps25
          go_wp2_with fail
          with_reducible refine HC.out.mono ?_
          rintro r1 w1 ⟨rfl, rfl⟩
          go_wp2_with (go_at_call 37; with_reducible refine HL.out.mono ?_; rintro r1 w1 ⟨rfl, rfl⟩)
          with_reducible refine HRN.out.mono ?_
          rintro r1 wv ⟨rfl, hs2⟩
          have H3 := hid (hs2.alloc #[.int .i64 0, .int .i64 0] 105)
          clear hs2 HC HL HRN
          go_wp2_with fail
          with_reducible refine (tell_no 2 w0 _ _ hE H3.out).mono ?_
          rintro r1 w3 ⟨rfl, hs4⟩
          have H4 := hid hs4
          clear hs4 H3
          go_wp2_with fail
          go_ret2
          exact ⟨by rw [HF.out]; rfl, by rw [HF.out]; exact H4.out.tail⟩
        · have hb0 : ((e.tx i).level == 0) = false := by simpa using hl0
          have HRN := hid (read_no b 0 key (e.tx i).start w0 w _ HS.out hk)
          clear hs hO h1 h2 hf hc hok hi2 hx hw hl hk hl0
          go_enter Tryz.func25, Tryz.ntmps25
          go_wp2_with fail
          with_reducible refine HC.out.mono ?_
          rintro r1 w1 ⟨rfl, rfl⟩
          go_wp2_with fail
          with_reducible refine HRN.out.mono ?_
          rintro r1 wv ⟨rfl, hs2⟩
          have H3 := hid (hs2.alloc #[.int .i64 0, .int .i64 0] 105)
          clear hs2 HC HL HRN
          go_wp2_with fail
          with_reducible refine (tell_no 2 w0 _ _ hE H3.out).mono ?_
          rintro r1 w3 ⟨rfl, hs4⟩
          have H4 := hid hs4
          clear hs4 H3
          go_wp2_with fail
          go_ret2
          exact ⟨by rw [HF.out]; rfl, by rw [HF.out]; exact H4.out.tail⟩
end Go.Proofs.YtcbokjocahnlcaaGreatDoor
namespace Go.Proofs.YtcbokjocahnlcaaGreatDoor
open Go Go.RowKit Go.Sep
section
variable {w w0 : World} {L : List HProp} {b : Nat} {bs : List Nat} {k : EngV} {e : Eng} {i : Nat}
/-- An engine without the slice of its transactions. -/
def bgX (b : Nat) (bs : List Nat) (k : EngV) (e : Eng) : HProp :=
  sep (pur (k.tv.length = e.txs.length ∧ bs.length = e.txs.length ∧ bs.Nodup)) (sep (shp b 94 18) (sep (cells b 14 [k.txv, .int .i64 e.count, .map (some k.wb), k.hv]) (sep (mp encI (fun _ => True) k.wb (ienc e.wr)) (sep (sl 59 4 k.hv e.hist.length (fcells opc e.hist)) (all (txPs bs k.tv e.txs))))))
theorem _root_.Go.Sep.S.bg_open (h : S w0 w (engO b bs k e :: L)) : S w0 w (sl 75 1 k.txv e.txs.length (ptrs bs (List.range e.txs.length)) :: bgX b bs k e :: L) := by
  obtain ⟨h0, h⟩ := h.sep_elim.pur_elim
  obtain ⟨⟨h1, _, h3⟩, h⟩ := h.engG_parts
  refine S.swap (.sep_intro (.pur_intro ⟨h0, h1, h3⟩ (h.conv ?_)))
  simp only [all]; ac_rfl
theorem _root_.Go.Sep.S.bg_see (h : S w0 w (bgX b bs k e :: L)) : w.cell? ⟨b, 14, none⟩ = some k.txv ∧ w.frozen? ⟨b, 14, none⟩ = false ∧ w.cell? ⟨b, 15, none⟩ = some (.int .i64 e.count) ∧ ∀ i, i < e.txs.length → blkOf bs i < w.heap.size := by
  obtain ⟨⟨h0, h1, h3⟩, h⟩ := h.sep_elim.pur_elim
  have h4 : S w0 w (cells b 14 [k.txv, .int .i64 e.count, .map (some k.wb), k.hv] :: all (txPs bs k.tv e.txs) :: shp b 94 18 :: mp encI (fun _ => True) k.wb (ienc e.wr) :: sl 59 4 k.hv e.hist.length (fcells opc e.hist) :: L) := h.conv (by simp only [all]; ac_rfl)
  refine ⟨h4.cells_cell 0 rfl, h4.cells_free 0 (show _ = some k.txv from rfl), h4.cells_cell 1 rfl, fun i hi => ?_⟩
  have hl : i < (txPs bs k.tv e.txs).length := by rw [txPs_length]; exact hi
  have h5 : S w0 w ((txPs bs k.tv e.txs)[i] :: all ((txPs bs k.tv e.txs).set i emp) :: cells b 14 [k.txv, .int .i64 e.count, .map (some k.wb), k.hv] :: shp b 94 18 :: mp encI (fun _ => True) k.wb (ienc e.wr) :: sl 59 4 k.hv e.hist.length (fcells opc e.hist) :: L) := by
    refine h4.conv ?_
    simp only [all]
    rw [all_set _ i hl emp, emp_sep, all_pick _ i hl]
    ac_rfl
  rw [txPs_get hl] at h5
  exact h5.tx_see.2.1
def newTx (level start begun : Int) : Tx := { Tx.zero with level := level, start := start, begun := begun }
def newCells (level start begun : Int) (m : Nat) : List Value := [.int .i64 level, .int .i64 0, .int .i64 start, .int .i64 begun, .int .i64 0, .slice none 0 0, .map (some m), .int .i64 0, .int .i64 0, .slice none 0 0, .slice none 0 0, .int .i64 0]
theorem blkOf_old {bs : List Nat} {x j : Nat} (h : j < bs.length) : blkOf (bs ++ [x]) j = blkOf bs j := by unfold blkOf; rw [List.getElem?_append_left h]
theorem blkOf_new (bs : List Nat) (x : Nat) : blkOf (bs ++ [x]) bs.length = x := by unfold blkOf; simp
theorem ptrs_old {bs : List Nat} {x : Nat} {l : List Nat} (h : ∀ j ∈ l, j < bs.length) : ptrs (bs ++ [x]) l = ptrs bs l := by
  unfold ptrs
  apply List.map_congr_left
  intro j hj
  unfold ptr
  rw [blkOf_old (h j hj)]
theorem txPs_snoc {bs : List Nat} {bx : Nat} {tv : List TxV} {txs : List Tx} {x : Tx} {v : TxV} (hb : bs.length = txs.length) (ht : tv.length = txs.length) (hr : ∀ y ∈ txs, ∀ j ∈ y.fore ++ y.aft, j < txs.length) :
    txPs (bs ++ [bx]) (tv ++ [v]) (txs ++ [x]) = txPs bs tv txs ++ [txK (bs ++ [bx]) bx v x] := by
  apply List.ext_getElem (by simp [txPs])
  intro j h1 h2
  rw [txPs_length, List.length_append, List.length_singleton] at h1
  simp only [txPs, List.getElem_map, List.getElem_range, List.getElem_append, List.length_map, List.length_range]
  by_cases hj : j < txs.length
  · rw [dif_pos hj, List.getElem?_append_left (by omega), List.getElem?_append_left hj, blkOf_old (by omega)]
    have hx : (txs[j]?).getD .zero ∈ txs := by simp [hj]
    generalize (txs[j]?).getD .zero = y at hx
    have h3 := hr y hx
    unfold txK txR
    rw [ptrs_old (fun m hm => by have := h3 m (by simp [hm]); omega), ptrs_old (fun m hm => by have := h3 m (by simp [hm]); omega)]
  · obtain rfl : j = txs.length := by omega
    rw [dif_neg hj]
    simp only [List.getElem?_append_right (Nat.le_refl _), Nat.sub_self, List.getElem?_cons_zero, Option.getD_some, List.getElem_singleton]
    rw [show txs.length = bs.length by omega, blkOf_new, List.getElem?_append_right (by omega), hb, ht, Nat.sub_self]
    rfl
theorem _root_.Go.Sep.S.bg_close {bx m : Nat} {v' : Value} {level start begun : Int} (hr : ∀ y ∈ e.txs, ∀ j ∈ y.fore ++ y.aft, j < e.txs.length) (hne : ∀ i, i < e.txs.length → blkOf bs i ≠ bx)
    (h : S w0 w (sl 75 1 v' (e.txs.length + 1) (ptrs bs (List.range e.txs.length) ++ [.pointer (some ⟨bx, 0, none⟩)]) :: bgX b bs k e :: blk bx 85 (newCells level start begun m) :: mp encI (fun _ => True) m [] :: L)) :
    ∃ k', S w0 (w.setCell ⟨b, 14, none⟩ v') (engO b (bs ++ [bx]) k' { e with txs := e.txs ++ [newTx level start begun] } :: L) := by
  have h0 : S w0 w (bgX b bs k e :: sl 75 1 v' (e.txs.length + 1) (ptrs bs (List.range e.txs.length) ++ [.pointer (some ⟨bx, 0, none⟩)]) :: blk bx 85 (newCells level start begun m) :: mp encI (fun _ => True) m [] :: L) := h.swap
  obtain ⟨⟨h1, h2, h3⟩, h4⟩ := h0.sep_elim.pur_elim
  have h5 : S w0 w (cells b 14 [k.txv, .int .i64 e.count, .map (some k.wb), k.hv] :: shp b 94 18 :: mp encI (fun _ => True) k.wb (ienc e.wr) :: sl 59 4 k.hv e.hist.length (fcells opc e.hist) :: all (txPs bs k.tv e.txs) :: sl 75 1 v' (e.txs.length + 1) (ptrs bs (List.range e.txs.length) ++ [.pointer (some ⟨bx, 0, none⟩)]) :: blk bx 85 (newCells level start begun m) :: mp encI (fun _ => True) m [] :: L) := h4.conv (by simp only [all]; ac_rfl)
  have h6 := h5.set 0 (by simp) v'
  have h7 := S.sl_nil (e := 98) (size := 2) (S.sl_nil (e := 75) (size := 1) (S.sl_nil (e := 75) (size := 1) h6))
  let v : TxV := ⟨.slice none 0 0, .slice none 0 0, .slice none 0 0, m⟩
  have hps : txPs (bs ++ [bx]) (k.tv ++ [v]) (e.txs ++ [newTx level start begun]) = txPs bs k.tv e.txs ++ [txK (bs ++ [bx]) bx v (newTx level start begun)] := txPs_snoc h2 h1 hr
  have hpt : ptrs (bs ++ [bx]) (List.range (e.txs.length + 1)) = ptrs bs (List.range e.txs.length) ++ [.pointer (some ⟨bx, 0, none⟩)] := by
    rw [List.range_succ]
    unfold ptrs
    rw [List.map_append, List.map_cons, List.map_nil]
    have e1 : ptr (bs ++ [bx]) e.txs.length = .pointer (some ⟨bx, 0, none⟩) := by unfold ptr; rw [← h2, blkOf_new]
    rw [e1]
    congr 1
    apply List.map_congr_left
    intro j hj
    rw [List.mem_range] at hj
    unfold ptr
    rw [blkOf_old (by omega)]
  have hnb : (bs ++ [bx]).Nodup := by
    rw [List.nodup_append]
    refine ⟨h3, by simp, fun a ha c hc => ?_⟩
    rw [List.mem_singleton] at hc
    subst hc
    obtain ⟨j, hj⟩ := List.getElem?_of_mem ha
    have hjl := (List.getElem?_eq_some_iff.1 hj).1
    intro e1
    have := hne j (by omega)
    unfold blkOf at this
    rw [hj] at this
    exact this e1
  refine ⟨⟨k.tv ++ [v], v', k.hv, k.wb⟩, .sep_intro (.pur_intro (by simp [h1]) ?_)⟩
  refine S.engG_join ⟨by simp [h2], by rw [txPs_length], hnb⟩ ?_
  simp only [List.length_append, List.length_singleton]
  rw [hps, hpt, all_append]
  refine h7.conv ?_
  simp only [all, sep_emp]
  show _ = sep _ (sep _ (sep _ (sep _ (sep (sep (all (txPs bs k.tv e.txs)) (sep (blk bx 85 (newCells level start begun m)) (sep (sl 98 2 (.slice none 0 0) 0 []) (sep (mp encI (fun _ => True) m []) (sep (sl 75 1 (.slice none 0 0) 0 []) (sl 75 1 (.slice none 0 0) 0 [])))))) _))))
  ac_rfl
end
theorem one_pt (x : Nat) : ∀ u ∈ [Value.pointer (some ⟨x, 0, none⟩)], u.oneCell' = true := by
  intro u hu; simp only [List.mem_singleton] at hu; subst hu; rfl
theorem open_take {e : Eng} {m : Nat} (h : m < e.txs.length) : (e.txs.take (m + 1)).countP Tx.alive = (e.txs.take m).countP Tx.alive + if (e.tx m).alive = true then 1 else 0 := by
  rw [take_succ_get (Eng.tx_some h), List.countP_append, List.countP_cons, List.countP_nil]; simp
theorem begun_eq (e : Eng) (level : Int) : ({ ({ e with count := e.count + 1 } : Eng) with txs := e.txs ++ [newTx level e.last (e.count + 1)] } : Eng) = { e with count := e.count + 1, txs := e.txs ++ [{ Tx.zero with level := level, start := e.last, begun := e.count + 1 }] } := rfl
set_option linter.unusedSimpArgs false in
set_option maxRecDepth 100000 in
set_option maxHeartbeats 8000000 in
theorem ebegin_any (w0 w : World) (b : Nat) (bs : List Nat) (e : Eng) (level : Int) (L : List HProp) (N : Nat) (hok : OkT N e []) (hs : S w0 w (engP b bs e :: L)) :
    Calls Tryz.prog 24 #[.pointer (some ⟨b, 0, none⟩), .int .i64 level] w fun r w' => r = .returned (.tuple #[.int .i64 (e.begin_ level).2.1, errV (e.begin_ level).2.2]) ∧ ∃ bs', S w0 w' (engP b bs' (e.begin_ level).1 :: L) := by
  have HS := hid hs
  obtain ⟨k, hs⟩ := hs.eng_open
  have hO : S w0 w (engO b bs k e :: storeP 105 b 0 e.V e.last :: tabP 3 b 11 e.t :: L) := hs.conv (by simp only [all]; ac_rfl)
  have hc := hO.eng_c.2
  have c14 := hc.txs
  have c15 := hc.count
  have f15 := hc.free 15 (by omega) (by omega)
  obtain ⟨a, cap, hv, hle, hcap, hrow⟩ := hc.row
  rw [hv] at c14
  unfold maxLen at hcap
  have htx : ∀ j, j < e.txs.length → TxC w bs (blkOf bs j) (k.v j) (e.tx j) := fun j hj => (hO.eng_txc hj).2
  have hN200 := hok.few
  have hcnt := hok.cnt
  have hopn : ∀ m, (e.txs.take m).countP Tx.alive ≤ e.txs.length := fun m => Nat.le_trans List.countP_le_length (by rw [List.length_take]; omega)
  have hrefs : ∀ y ∈ e.txs, ∀ j ∈ y.fore ++ y.aft, j < e.txs.length := fun y hy => (hok.txs y hy).refs
  have hset := (hO.eng_count (e.count + 1))
  have hset2 : S w0 (w.setCell ⟨b, 15, none⟩ (.int .i64 (e.count + 1))) (sl 75 1 (.slice a e.txs.length cap) e.txs.length (ptrs bs (List.range e.txs.length)) :: bgX b bs k { e with count := e.count + 1 } :: storeP 105 b 0 e.V e.last :: tabP 3 b 11 e.t :: L) := by
    rw [← hv]; exact hset.bg_open
  have hq : ∀ W {M M' : List HProp}, S w0 W (bgX b bs k { e with count := e.count + 1 } :: M) → S w0 W (storeP 105 b 0 e.V e.last :: M') → W.cell? ⟨b, 14, none⟩ = some (.slice a e.txs.length cap) ∧ W.cell? ⟨b, 15, none⟩ = some (.int .i64 (e.count + 1)) ∧ W.cell? ⟨b, 10, none⟩ = some (.int .i64 e.last) := fun W M M' h h2 => by
    obtain ⟨g1, _, g3, _⟩ := h.bg_see
    exact ⟨by rw [g1, hv], g3, h2.store_last.1⟩
  have hf14 : ∀ W {M : List HProp}, S w0 W (bgX b bs k { e with count := e.count + 1 } :: M) → W.frozen? ⟨b, 14, none⟩ = false := fun W M h => h.bg_see.2.1
  have hne : ∀ W {M : List HProp}, S w0 W (bgX b bs k { e with count := e.count + 1 } :: M) → ∀ i, i < e.txs.length → blkOf bs i ≠ W.heap.size := fun W M h i hi => by
    have := h.bg_see.2.2.2 i hi; omega
  have hla : ∀ W {M : List HProp}, S w0 W (storeP 105 b 0 e.V e.last :: M) → Calls Tryz.prog 37 #[.pointer (some ⟨b, 0, none⟩)] W fun r w' => r = .returned (.int .i64 e.last) ∧ W = w' := fun W M h => last_any b 0 e.last W h.store_last.1
  have hcl : ∀ W (v' : Value) (b16 m14 : Nat) (Y : HProp), (∀ i, i < e.txs.length → blkOf bs i ≠ b16) → S w0 W (sl 75 1 v' (e.txs.length + 1) (ptrs bs (List.range e.txs.length) ++ [.pointer (some ⟨b16, 0, none⟩)]) :: bgX b bs k { e with count := e.count + 1 } :: blk b16 85 (newCells level e.last (e.count + 1) m14) :: mp encI (fun _ => True) m14 [] :: storeP 105 b 0 e.V e.last :: tabP 3 b 11 e.t :: Y :: L) →
      ∃ bs', S w0 (W.setCell ⟨b, 14, none⟩ v') (engP b bs' { e with count := e.count + 1, txs := e.txs ++ [{ Tx.zero with level := level, start := e.last, begun := e.count + 1 }] } :: L) := fun W v' b16 m14 Y hn h => by
    obtain ⟨k', g⟩ := S.bg_close (e := { e with count := e.count + 1 }) hrefs hn h
    refine ⟨bs ++ [b16], ?_⟩
    have g2 := g.conv (M := Y :: storeP 105 b 0 e.V e.last :: tabP 3 b 11 e.t :: engO b (bs ++ [b16]) k' { e with count := e.count + 1, txs := e.txs ++ [newTx level e.last (e.count + 1)] } :: L) (by simp only [all]; ac_rfl)
    exact S.eng_shut (k := k') (e := { e with count := e.count + 1, txs := e.txs ++ [newTx level e.last (e.count + 1)] }) g2.tail
  have hlen : ∀ W bs' e2, S w0 W (engP b bs' e2 :: L) → ∃ a2 cap2, W.cell? ⟨b, 14, none⟩ = some (.slice a2 e2.txs.length cap2) := fun W bs' e2 h => by
    obtain ⟨k2, h2⟩ := h.eng_open
    have g : S w0 W (engO b bs' k2 e2 :: storeP 105 b 0 e2.V e2.last :: tabP 3 b 11 e2.t :: L) := h2.conv (by simp only [all]; ac_rfl)
    obtain ⟨a2, cap2, hv2, _⟩ := g.eng_c.2.row
    have := g.eng_c.2.txs
    rw [hv2] at this
    exact ⟨a2, cap2, this⟩
  have hrowl : e.txs.length + 1 ≤ 1000000000000 := by omega
  have HROW := hid hrow; have HTX := hid htx; have HOP := hid hopn; have HSET := hid hset2; have HQ := hid hq; have HF := hid hf14; have HNE := hid hne; have HLA := hid hla; have HCL := hid hcl; have HA := hid hrowl; have HLEN := hid hlen; have HCNT := hid hcnt; have HFEW := hid hN200
  clear hs hO hc hv hrow htx hopn hset hset2 hq hf14 hne hla hcl hrowl hok hrefs hlen hcnt hN200
  go_enter Tryz.func24, Tryz.ntmps24
  go_wp2_with fail
  go_loopw [6, 14] (fun f c wr => ∃ m : Nat, m ≤ e.txs.length ∧ c = .int .i64 m ∧ f = .int .i64 ((e.txs.take m).countP Tx.alive : Nat) ∧ wr = w) (fun _ c _ => e.txs.length - (intOf c).toNat)
  case atStart => exact ⟨0, Nat.zero_le _, rfl, by simp, rfl⟩
  case round =>
    obtain ⟨m, hm, rfl, rfl, rfl⟩ := hrel
    have hol := HOP.out m
    have h200 := HFEW.out
    by_cases hlt : m < e.txs.length
    · obtain ⟨g, o, rfl, ci⟩ := HROW.out m hlt
      unfold ptr at ci
      have x1 := (HTX.out m hlt).state
      have hst := open_take hlt
      generalize hf : (e.txs.take m).countP Tx.alive = f at *
      have HST := hid hst
      clear hst hf
      by_cases h1 : (e.tx m).state ≤ 1
      · have hb1 : decide ((e.tx m).state ≤ 1) = true := decide_eq_true h1
        have hf2 : (e.txs.take (m + 1)).countP Tx.alive = f + 1 := by rw [HST.out, if_pos (by simpa [Tx.alive] using h1)]
        have HF2 := hid hf2
        clear hf2 HST h1
        go_wp2_with fail
        go_roundw
        case rel => exact ⟨m + 1, by omega, by go_num, by rw [HF2.out]; go_num, by first | rfl | trivial⟩
        case measure => simp [intOf]; omega
      · have hb1 : decide ((e.tx m).state ≤ 1) = false := decide_eq_false h1
        have hf2 : (e.txs.take (m + 1)).countP Tx.alive = f := by rw [HST.out, if_neg (by simpa [Tx.alive] using h1)]; rfl
        have HF2 := hid hf2
        clear hf2 HST h1
        go_wp2_with fail
        go_roundw
        case rel => exact ⟨m + 1, by omega, by go_num, by rw [HF2.out], by first | rfl | trivial⟩
        case measure => simp [intOf]; omega
    · obtain rfl : m = e.txs.length := by omega
      have hop : (e.txs.take e.txs.length).countP Tx.alive = e.open_ := by rw [List.take_length]; rfl
      rw [hop] at hol ⊢
      have hlo : ∀ X : Eng × Int × Int, (level < 0 ∨ 2 < level) → e.begin_ level = (e, 0, 1) := fun _ h => by unfold Eng.begin_; rw [if_pos h]
      by_cases hl0 : level < 0
      · have hf : e.begin_ level = (e, 0, 1) := hlo (e, 0, 0) (.inl hl0)
        have HF2 := hid hf
        clear hf hlo hop
        go_wp2_with fail
        go_ret2
        exact ⟨by rw [HF2.out]; rfl, bs, by rw [HF2.out]; exact HS.out⟩
      by_cases hl2 : 2 < level
      · have hf : e.begin_ level = (e, 0, 1) := hlo (e, 0, 0) (.inr hl2)
        have HF2 := hid hf
        clear hf hlo hop
        go_wp2_with fail
        go_ret2
        exact ⟨by rw [HF2.out]; rfl, bs, by rw [HF2.out]; exact HS.out⟩
      clear hlo
      have hng : ¬ (level < 0 ∨ 2 < level) := by omega
      by_cases hfull : 200 ≤ e.txs.length
      · have hf : e.begin_ level = (e, 0, 12) := by unfold Eng.begin_; rw [if_neg hng, if_pos hfull]
        have HF2 := hid hf
        have hfi : (200 : Int) ≤ (e.txs.length : Int) := by omega
        clear hf hop hng
        go_wp2_with fail
        go_ret2
        exact ⟨by rw [HF2.out]; rfl, bs, by rw [HF2.out]; exact HS.out⟩
      have hfi : ¬ (200 : Int) ≤ (e.txs.length : Int) := by omega
      by_cases hsix : 6 ≤ e.open_
      · have hf : e.begin_ level = (e, 0, 4) := by unfold Eng.begin_; rw [if_neg hng, if_neg hfull, if_pos hsix]
        have HF2 := hid hf
        have hsi : (6 : Int) ≤ (e.open_ : Int) := by omega
        clear hf hop hng
        go_wp2_with fail
        go_ret2
        exact ⟨by rw [HF2.out]; rfl, bs, by rw [HF2.out]; exact HS.out⟩
      have hsi : ¬ (6 : Int) ≤ (e.open_ : Int) := by omega
      have hf : e.begin_ level = ({ e with count := e.count + 1, txs := e.txs ++ [{ Tx.zero with level := level, start := e.last, begun := e.count + 1 }] }, (e.txs.length : Int) + 1, 0) := by unfold Eng.begin_; rw [if_neg hng, if_neg hfull, if_neg hsix]
      have HF2 := hid hf
      have hc1 := HCNT.out.1
      have hc2 := HCNT.out.2
      clear hf hop hng HTX HROW HOP
      obtain ⟨i0, hi0, hz0, hz1, hz2⟩ := info_parts Tryz.info75
      go_upto_region 15 with fail
      have HS0 := HSET
      clear HSET
      obtain ⟨ar, har⟩ : ∃ x, x = a := ⟨_, rfl⟩
      obtain ⟨cr, hcr⟩ : ∃ x, x = cap := ⟨_, rfl⟩
      rw [← har, ← hcr] at HS0 HQ
      clear har hcr
      go_cut [] (fun wx => ∃ bs', S w0 wx (engP b bs' { e with count := e.count + 1, txs := e.txs ++ [{ Tx.zero with level := level, start := e.last, begun := e.count + 1 }] } :: L))
      case first =>
        refine region_U (S := fun w' => w'.cell? ⟨b, 14, none⟩ = some (.slice ar e.txs.length cr) ∧ w'.cell? ⟨b, 15, none⟩ = some (.int .i64 (e.count + 1)) ∧ w'.cell? ⟨b, 10, none⟩ = some (.int .i64 e.last)) (u := 21) (by kernel_rfl) (HQ.out _ (HS0.out.drew.nth 1 rfl) (HS0.out.drew.nth 2 rfl)) (fun hHeld => ?_)
        refine anyU_take (i := 0) (v := ?_) rfl (by kernel_rfl) (fun _ _ _ h => h) (Or.inl ⟨by rfl, ?_⟩) hHeld ?_
        rotate_left
        · (intro w hSw; (try dsimp only at hSw); go_simp) <;> with_reducible rfl
        try simp only [Act.put, List.setIfInBounds_toArray, List.getElem_toArray, List.getElem_cons_zero, List.getElem_cons_succ, List.set_cons_zero, List.set_cons_succ]
        refine anyU_take (i := 1) (v := ?_) rfl (by kernel_rfl) (fun _ _ _ h => h) (Or.inl ⟨by rfl, ?_⟩) hHeld ?_
        rotate_left
        · (intro w hSw; (try dsimp only at hSw); go_simp) <;> with_reducible rfl
        try simp only [Act.put, List.setIfInBounds_toArray, List.getElem_toArray, List.getElem_cons_zero, List.getElem_cons_succ, List.set_cons_zero, List.set_cons_succ]
        refine anyU_take (i := 2) (v := ?_) rfl (by kernel_rfl) (fun _ _ _ h => h) (Or.inl ⟨by rfl, ?_⟩) hHeld ?_
        rotate_left
        · (intro w hSw; (try dsimp only at hSw); go_simp) <;> with_reducible rfl
        try simp only [Act.put, List.setIfInBounds_toArray, List.getElem_toArray, List.getElem_cons_zero, List.getElem_cons_succ, List.set_cons_zero, List.set_cons_succ]
        refine anyU_take (i := 3) (v := ?_) rfl (by kernel_rfl) (fun _ _ _ h => h) (Or.inl ⟨by rfl, ?_⟩) hHeld ?_
        rotate_left
        · (intro w hSw; (try dsimp only at hSw); go_simp) <;> with_reducible rfl
        try simp only [Act.put, List.setIfInBounds_toArray, List.getElem_toArray, List.getElem_cons_zero, List.getElem_cons_succ, List.set_cons_zero, List.set_cons_succ]
        refine anyU_take (i := 4) (v := ?_) rfl (by kernel_rfl) (fun _ _ _ h => h) (Or.inl ⟨by rfl, ?_⟩) hHeld ?_
        rotate_left
        · (intro w hSw; (try dsimp only at hSw); go_simp) <;> with_reducible rfl
        try simp only [Act.put, List.setIfInBounds_toArray, List.getElem_toArray, List.getElem_cons_zero, List.getElem_cons_succ, List.set_cons_zero, List.set_cons_succ]
        refine anyU_take (i := 5) (v := ?_) rfl (by kernel_rfl) (fun _ _ _ h => h) (Or.inl ⟨by rfl, ?_⟩) hHeld ?_
        rotate_left
        · (intro w hSw; (try dsimp only at hSw); go_simp) <;> with_reducible rfl
        try simp only [Act.put, List.setIfInBounds_toArray, List.getElem_toArray, List.getElem_cons_zero, List.getElem_cons_succ, List.set_cons_zero, List.set_cons_succ]
        refine anyU_take (i := 6) (v := ?_) rfl (by kernel_rfl) (fun _ _ _ h => h) (Or.inl ⟨by rfl, ?_⟩) hHeld ?_
        rotate_left
        · (intro w hSw; (try dsimp only at hSw); go_simp) <;> with_reducible rfl
        try simp only [Act.put, List.setIfInBounds_toArray, List.getElem_toArray, List.getElem_cons_zero, List.getElem_cons_succ, List.set_cons_zero, List.set_cons_succ]
        refine anyU_take (i := 7) (v := ?_) rfl (by kernel_rfl) (fun _ _ _ h => h) (Or.inl ⟨by rfl, ?_⟩) hHeld ?_
        rotate_left
        · (intro w hSw; (try dsimp only at hSw); go_simp) <;> with_reducible rfl
        try simp only [Act.put, List.setIfInBounds_toArray, List.getElem_toArray, List.getElem_cons_zero, List.getElem_cons_succ, List.set_cons_zero, List.set_cons_succ]
        refine anyU_take (i := 8) (v := ?_) rfl (by kernel_rfl) (fun _ _ _ h => h) (Or.inl ⟨by rfl, ?_⟩) hHeld ?_
        rotate_left
        · (intro w hSw; (try dsimp only at hSw); go_simp) <;> with_reducible rfl
        try simp only [Act.put, List.setIfInBounds_toArray, List.getElem_toArray, List.getElem_cons_zero, List.getElem_cons_succ, List.set_cons_zero, List.set_cons_succ]
        refine anyU_take (i := 10) (v := ?_) rfl (by kernel_rfl) (fun _ _ _ h => h) (Or.inl ⟨by rfl, ?_⟩) hHeld ?_
        rotate_left
        · (intro w hSw; (try dsimp only at hSw); go_simp) <;> with_reducible rfl
        try simp only [Act.put, List.setIfInBounds_toArray, List.getElem_toArray, List.getElem_cons_zero, List.getElem_cons_succ, List.set_cons_zero, List.set_cons_succ]
        refine anyU_take (i := 11) (v := ?_) rfl (by kernel_rfl) (fun _ _ _ h => h) (Or.inl ⟨by rfl, ?_⟩) hHeld ?_
        rotate_left
        · (intro w hSw; (try dsimp only at hSw); go_simp) <;> with_reducible rfl
        try simp only [Act.put, List.setIfInBounds_toArray, List.getElem_toArray, List.getElem_cons_zero, List.getElem_cons_succ, List.set_cons_zero, List.set_cons_succ]
        refine anyU_take (i := 12) (v := ?_) rfl (by kernel_rfl) (fun _ _ _ h => h) (Or.inl ⟨by rfl, ?_⟩) hHeld ?_
        rotate_left
        · (intro w hSw; (try dsimp only at hSw); go_simp) <;> with_reducible rfl
        try simp only [Act.put, List.setIfInBounds_toArray, List.getElem_toArray, List.getElem_cons_zero, List.getElem_cons_succ, List.set_cons_zero, List.set_cons_succ]
        refine anyU_take (i := 13) (v := ?_) rfl (by kernel_rfl) (fun _ _ _ h => h) (Or.inl ⟨by rfl, ?_⟩) hHeld ?_
        rotate_left
        · (intro w hSw; (try dsimp only at hSw); go_simp) <;> with_reducible rfl
        try simp only [Act.put, List.setIfInBounds_toArray, List.getElem_toArray, List.getElem_cons_zero, List.getElem_cons_succ, List.set_cons_zero, List.set_cons_succ]
        have HS := hid HS0.out.drew
        clear hHeld
        refine anyU_world (fun w => Hid (S w0 w _)) HS (fun w1 HS => ?_)
        clear HS0
        refine anyU_next (rs := [9, 14]) (by kernel_rfl) (by simp) ?_
        refine NextU.cons rfl (fun K hK => ?_) ?_
        · go_simp
          go_wp2_with (go_at_call 37; with_reducible refine (HLA.out _ (HS.out.nth 2 rfl)).mono ?_; rintro r w9 ⟨rfl, rfl⟩)
          refine hK.out _ _ (fun _ => (HQ.out _ (HS.out.nth 1 rfl) (HS.out.nth 2 rfl))) ?_
          clear hK K
          refine anyU_next (rs := [14]) (by kernel_rfl) (by simp) ?_
          refine NextU.cons rfl (fun K hK => ?_) ?_
          · have hmm := @run_makeMap Tryz.prog
            go_simp
            clear hmm
            replace HS := hid (HS.out.made (enc := Sep.encI) (ok := fun _ => True))
            generalize w1.heap.size = m14 at HS ⊢
            refine act_any (fun w => Hid (S w0 w _)) HS (fun w2 HS => ?_)
            refine hK.out _ _ (fun _ => (HQ.out _ (HS.out.nth 2 rfl) (HS.out.nth 3 rfl))) ?_
            clear hK K
            refine anyU_take (i := 15) (v := ?_) rfl (by kernel_rfl) (fun _ _ _ h => h) (Or.inl ⟨by rfl, ?_⟩) (HQ.out _ (HS.out.nth 2 rfl) (HS.out.nth 3 rfl)) ?_
            rotate_left
            · (intro w hSw; (try dsimp only at hSw); go_simp) <;> with_reducible rfl
            try simp only [Act.put, List.setIfInBounds_toArray, List.getElem_toArray, List.getElem_cons_zero, List.getElem_cons_succ, List.set_cons_zero, List.set_cons_succ]
            refine anyU_next (rs := [16]) (by kernel_rfl) (by simp) ?_
            refine NextU.cons rfl (fun K hK => ?_) ?_
            · go_simp
              have hne := HNE.out _ (HS.out.nth 2 rfl)
              have HNX := hid hne
              clear hne
              replace HS := hid (HS.out.alloc (newCells level e.last (e.count + 1) m14).toArray 85)
              generalize w2.heap.size = b16 at HS HNX ⊢
              refine act_any (fun w => Hid (S w0 w _)) HS (fun w3 HS => ?_)
              refine hK.out _ _ (fun _ => (HQ.out _ (HS.out.nth 3 rfl) (HS.out.nth 4 rfl))) ?_
              clear hK K
              refine anyU_next (rs := [17]) (by kernel_rfl) (by simp) ?_
              refine NextU.cons rfl (fun K hK => ?_) ?_
              · go_simp
                replace HS := hid (HS.out.alloc_slU (e := 75) (size := 1) [.pointer (some ⟨b16, 0, none⟩)] 1 rfl (by unfold maxLen; omega))
                generalize w3.heap.size = b17 at HS ⊢
                refine act_any (fun w => Hid (S w0 w _)) HS (fun w4 HS => ?_)
                refine hK.out _ _ (fun _ => (HQ.out _ (HS.out.nth 4 rfl) (HS.out.nth 5 rfl))) ?_
                clear hK K
                refine anyU_next (rs := [18]) (by kernel_rfl) (by simp) ?_
                refine NextU.cons rfl (fun K hK => ?_) ?_
                · refine step_appU rfl (.tmp 57) (.tmp 70) 83 rfl 75 i0 _ 1 8 Tryz.underlying83 hi0 hz0 hz1 hz2 rfl (by decide) HS.out 3 (by rfl) (by rfl) _ 1 1 [.pointer (some ⟨b16, 0, none⟩)] (by rfl) rfl (HS.out.news_slK 0 (by rfl)) (one_pt _) HA.out (by decide) ?_
                  intro v18 w5 hs
                  replace HS := hid hs
                  clear hs
                  obtain ⟨p18, c18, rfl, _, _, _⟩ := HS.out.sl_val
                  refine hK.out _ _ (fun _ => (HQ.out _ (HS.out.nth 4 rfl) (HS.out.nth 5 rfl))) ?_
                  clear hK K
                  try simp only [Act.put, List.setIfInBounds_toArray, List.getElem_toArray, List.getElem_cons_zero, List.getElem_cons_succ, List.set_cons_zero, List.set_cons_succ]
                  refine anyU_pure (i := 19) (v := ?_) rfl (by kernel_rfl) (fun _ _ _ h => h) (Or.inl ⟨by rfl, ?_⟩) (fun _ => (HQ.out _ (HS.out.nth 4 rfl) (HS.out.nth 5 rfl))) ?_
                  rotate_left
                  · (intro w _; go_simp) <;> with_reducible rfl
                  try simp only [Act.put, List.setIfInBounds_toArray, List.getElem_toArray, List.getElem_cons_zero, List.getElem_cons_succ, List.set_cons_zero, List.set_cons_succ]
                  refine anyU_take (i := 20) (v := ?_) rfl (by kernel_rfl) (fun _ _ _ h => h) (Or.inl ⟨by rfl, ?_⟩) (HQ.out _ (HS.out.nth 4 rfl) (HS.out.nth 5 rfl)) ?_
                  rotate_left
                  · (intro w hSw; (try dsimp only at hSw); go_simp) <;> with_reducible rfl
                  try simp only [Act.put, List.setIfInBounds_toArray, List.getElem_toArray, List.getElem_cons_zero, List.getElem_cons_succ, List.set_cons_zero, List.set_cons_succ]
                  refine anyU_next (rs := [21]) (by kernel_rfl) (by simp) ?_
                  refine NextU.cons rfl (fun K hK => ?_) ?_
                  · have q1 := HF.out _ (HS.out.nth 4 rfl)
                    have q0 := (HQ.out _ (HS.out.nth 4 rfl) (HS.out.nth 5 rfl)).1
                    go_simp
                    refine hK.out _ _ (fun h => Bool.noConfusion (show true = false from h)) ?_
                    clear hK K q0 q1
                    refine anyU_done (by kernel_rfl) ?_ _
                    go_wp2_with fail
                    go_meet
                    have HZ := HS.out
                    simp only [List.eraseIdx_cons_succ, List.eraseIdx_cons_zero] at HZ
                    exact HCL.out _ _ _ _ _ HNX.out (HZ.conv (M := sl 75 1 (.slice p18 (e.txs.length + 1) c18) (e.txs.length + 1) (ptrs bs (List.range e.txs.length) ++ [.pointer (some ⟨b16, 0, none⟩)]) :: bgX b bs k { e with count := e.count + 1 } :: blk b16 85 (newCells level e.last (e.count + 1) m14) :: mp encI (fun _ => True) m14 [] :: storeP 105 b 0 e.V e.last :: tabP 3 b 11 e.t :: sl 75 1 (.slice (some ⟨b17, 0, none⟩) 1 1) 1 [.pointer (some ⟨b16, 0, none⟩)] :: L) (by simp only [all, newCells]; ac_rfl))
                  exact NextU.nil
                exact NextU.nil
              exact NextU.nil
            exact NextU.nil
          exact NextU.nil
        refine NextU.cons rfl (fun K hK => ?_) ?_
        · have hmm := @run_makeMap Tryz.prog
          go_simp
          clear hmm
          replace HS := hid (HS.out.made (enc := Sep.encI) (ok := fun _ => True))
          generalize w1.heap.size = m14 at HS ⊢
          refine act_any (fun w => Hid (S w0 w _)) HS (fun w2 HS => ?_)
          refine hK.out _ _ (fun _ => (HQ.out _ (HS.out.nth 2 rfl) (HS.out.nth 3 rfl))) ?_
          clear hK K
          refine anyU_next (rs := [9]) (by kernel_rfl) (by simp) ?_
          refine NextU.cons rfl (fun K hK => ?_) ?_
          · go_simp
            go_wp2_with (go_at_call 37; with_reducible refine (HLA.out _ (HS.out.nth 3 rfl)).mono ?_; rintro r w9 ⟨rfl, rfl⟩)
            refine hK.out _ _ (fun _ => (HQ.out _ (HS.out.nth 2 rfl) (HS.out.nth 3 rfl))) ?_
            clear hK K
            refine anyU_take (i := 15) (v := ?_) rfl (by kernel_rfl) (fun _ _ _ h => h) (Or.inl ⟨by rfl, ?_⟩) (HQ.out _ (HS.out.nth 2 rfl) (HS.out.nth 3 rfl)) ?_
            rotate_left
            · (intro w hSw; (try dsimp only at hSw); go_simp) <;> with_reducible rfl
            try simp only [Act.put, List.setIfInBounds_toArray, List.getElem_toArray, List.getElem_cons_zero, List.getElem_cons_succ, List.set_cons_zero, List.set_cons_succ]
            refine anyU_next (rs := [16]) (by kernel_rfl) (by simp) ?_
            refine NextU.cons rfl (fun K hK => ?_) ?_
            · go_simp
              have hne := HNE.out _ (HS.out.nth 2 rfl)
              have HNX := hid hne
              clear hne
              replace HS := hid (HS.out.alloc (newCells level e.last (e.count + 1) m14).toArray 85)
              generalize w2.heap.size = b16 at HS HNX ⊢
              refine act_any (fun w => Hid (S w0 w _)) HS (fun w3 HS => ?_)
              refine hK.out _ _ (fun _ => (HQ.out _ (HS.out.nth 3 rfl) (HS.out.nth 4 rfl))) ?_
              clear hK K
              refine anyU_next (rs := [17]) (by kernel_rfl) (by simp) ?_
              refine NextU.cons rfl (fun K hK => ?_) ?_
              · go_simp
                replace HS := hid (HS.out.alloc_slU (e := 75) (size := 1) [.pointer (some ⟨b16, 0, none⟩)] 1 rfl (by unfold maxLen; omega))
                generalize w3.heap.size = b17 at HS ⊢
                refine act_any (fun w => Hid (S w0 w _)) HS (fun w4 HS => ?_)
                refine hK.out _ _ (fun _ => (HQ.out _ (HS.out.nth 4 rfl) (HS.out.nth 5 rfl))) ?_
                clear hK K
                refine anyU_next (rs := [18]) (by kernel_rfl) (by simp) ?_
                refine NextU.cons rfl (fun K hK => ?_) ?_
                · refine step_appU rfl (.tmp 57) (.tmp 70) 83 rfl 75 i0 _ 1 8 Tryz.underlying83 hi0 hz0 hz1 hz2 rfl (by decide) HS.out 3 (by rfl) (by rfl) _ 1 1 [.pointer (some ⟨b16, 0, none⟩)] (by rfl) rfl (HS.out.news_slK 0 (by rfl)) (one_pt _) HA.out (by decide) ?_
                  intro v18 w5 hs
                  replace HS := hid hs
                  clear hs
                  obtain ⟨p18, c18, rfl, _, _, _⟩ := HS.out.sl_val
                  refine hK.out _ _ (fun _ => (HQ.out _ (HS.out.nth 4 rfl) (HS.out.nth 5 rfl))) ?_
                  clear hK K
                  try simp only [Act.put, List.setIfInBounds_toArray, List.getElem_toArray, List.getElem_cons_zero, List.getElem_cons_succ, List.set_cons_zero, List.set_cons_succ]
                  refine anyU_pure (i := 19) (v := ?_) rfl (by kernel_rfl) (fun _ _ _ h => h) (Or.inl ⟨by rfl, ?_⟩) (fun _ => (HQ.out _ (HS.out.nth 4 rfl) (HS.out.nth 5 rfl))) ?_
                  rotate_left
                  · (intro w _; go_simp) <;> with_reducible rfl
                  try simp only [Act.put, List.setIfInBounds_toArray, List.getElem_toArray, List.getElem_cons_zero, List.getElem_cons_succ, List.set_cons_zero, List.set_cons_succ]
                  refine anyU_take (i := 20) (v := ?_) rfl (by kernel_rfl) (fun _ _ _ h => h) (Or.inl ⟨by rfl, ?_⟩) (HQ.out _ (HS.out.nth 4 rfl) (HS.out.nth 5 rfl)) ?_
                  rotate_left
                  · (intro w hSw; (try dsimp only at hSw); go_simp) <;> with_reducible rfl
                  try simp only [Act.put, List.setIfInBounds_toArray, List.getElem_toArray, List.getElem_cons_zero, List.getElem_cons_succ, List.set_cons_zero, List.set_cons_succ]
                  refine anyU_next (rs := [21]) (by kernel_rfl) (by simp) ?_
                  refine NextU.cons rfl (fun K hK => ?_) ?_
                  · have q1 := HF.out _ (HS.out.nth 4 rfl)
                    have q0 := (HQ.out _ (HS.out.nth 4 rfl) (HS.out.nth 5 rfl)).1
                    go_simp
                    refine hK.out _ _ (fun h => Bool.noConfusion (show true = false from h)) ?_
                    clear hK K q0 q1
                    refine anyU_done (by kernel_rfl) ?_ _
                    go_wp2_with fail
                    go_meet
                    have HZ := HS.out
                    simp only [List.eraseIdx_cons_succ, List.eraseIdx_cons_zero] at HZ
                    exact HCL.out _ _ _ _ _ HNX.out (HZ.conv (M := sl 75 1 (.slice p18 (e.txs.length + 1) c18) (e.txs.length + 1) (ptrs bs (List.range e.txs.length) ++ [.pointer (some ⟨b16, 0, none⟩)]) :: bgX b bs k { e with count := e.count + 1 } :: blk b16 85 (newCells level e.last (e.count + 1) m14) :: mp encI (fun _ => True) m14 [] :: storeP 105 b 0 e.V e.last :: tabP 3 b 11 e.t :: sl 75 1 (.slice (some ⟨b17, 0, none⟩) 1 1) 1 [.pointer (some ⟨b16, 0, none⟩)] :: L) (by simp only [all, newCells]; ac_rfl))
                  exact NextU.nil
                exact NextU.nil
              exact NextU.nil
            exact NextU.nil
          exact NextU.nil
        exact NextU.nil
      · rename World => wX
        obtain ⟨bs', hs9⟩ := hcut
        obtain ⟨a2, cap2, c14b⟩ := HLEN.out _ _ _ hs9
        simp only [List.length_append, List.length_singleton] at c14b
        have H9 := hid hs9
        clear hs9
        go_wp2_with fail
        go_ret2
        exact ⟨by rw [HF2.out]; rfl, bs', by rw [HF2.out]; exact H9.out⟩
end Go.Proofs.YtcbokjocahnlcaaGreatDoor
