/- A disk and a base in memory; Disk.Cut, Disk.write. -/
import Derived.Test.YtdlkjppppdminaaGreatDoorZ0
import Derived.Test.YtdlkjppppdminaaGreatDoorZ6
import Derived.Deep.DeepCutAuto
import Derived.Deep.CutBlock
import Derived.Deep.RegionHeldLaw
import Derived.LaidEqlPtr
import Derived.Test.YtdlkjppppdminaaGreatDoorZ1
import Derived.Laws.Bits64
import Derived.Lib.SmallJoins
/- The program's engine: one that is gone, who comes next, and what that one writes. -/
namespace Go.Proofs.YtdlkjppppdminaaGreatDoor
open Go Go.RowKit Go.Sep
def GoesAny (n : Nat) : Prop := ∀ (w0 w : World) (b : Nat) (bs : List Nat) (e : Eng) (i : Nat) (why : Int) (L : List HProp) (N : Nat) (U : List Task), OkT N e U → i < e.txs.length → (e.tx i).alive = true → (∀ u ∈ U, u.who ≠ i) → e.open_ ≤ n → N ≤ 100000000 → S w0 w (engP b bs e :: L) →
 Calls Tryz.prog 103 #[.pointer (some ⟨b, 0, none⟩), .int .i64 ((i : Int) + 1), .int .i64 why] w fun r w' => r = .returned (.tuple #[]) ∧ S w0 w' (engP b bs (goesN n e i why) :: L)
theorem OkT.row_le {N : Nat} {e : Eng} {U : List Task} (h : OkT N e U) : ∀ vs ∈ e.V, vs.length ≤ 401 := by
 intro vs hv
 have h1 := h.rows vs hv
 have h2 := h.cnt
 have h3 := h.few
 have : (0 : Int) ≤ e.open_ := by omega
 omega
theorem enewer_any (w0 w : World) (b : Nat) (e : Eng) (key at_ : Int) (L : List HProp) (N : Nat) (U : List Task) (h : OkT N e U) (hk : keyOk key) (hs : S w0 w (storeP 99 b 0 e.V e.last :: L)) :
  Calls Tryz.prog 149 #[.pointer (some ⟨b, 0, none⟩), .int .i64 key, .int .i64 at_] w (fun r w' => ∃ a c, r = .returned (.tuple #[.slice a (newerL (e.row key) at_).length c, .nilIface]) ∧ (newerL (e.row key) at_).length ≤ c ∧ c ≤ maxLen ∧ S w0 w' (sl 3 1 (.slice a (newerL (e.row key) at_).length c) (newerL (e.row key) at_).length (icells (newerL (e.row key) at_)) :: storeP 99 b 0 e.V e.last :: L)) := by
 obtain ⟨k, rfl⟩ : ∃ k : Nat, key = k := ⟨key.toNat, by have := hk.1; omega⟩
 have hk2 : k < 10 := by have := hk.2; omega
 have hV : e.V[k]? = some (e.row k) := by
  unfold Eng.row
  have : k < e.V.length := by rw [h.v10]; exact hk2
  simp [this]
 have hle := h.row_le _ (List.mem_of_getElem? hV)
 refine (newer_any w0 w b 0 e.V e.last at_ k (e.row k) L hk2 hs hV (by omega)).mono fun r w' hp => ?_
 obtain ⟨v, h1, h2⟩ := hp
 obtain ⟨a, c, rfl, h3, h4, _⟩ := h2.sl_val
 exact ⟨a, c, h1, h3, h4, h2⟩
theorem eng_wput {w0 w : World} {b : Nat} {bs : List Nat} {k : EngV} {e : Eng} {i : Nat} {L : List HProp} (h : S w0 w (engO b bs k e :: L)) (hi : i < e.txs.length) (key val : Int) :
  ∃ w', (Instr.mapUpdate 101 (.map (some (k.v i).mb)) (.int .i64 key) (.int .i64 val)).run Tryz.prog w = .ok () w' ∧ S w0 w' (engO b bs k (e.wput i (key, val)) :: L) := by
 have hp := h.sep_elim.pur_elim.1
 have h1 : S w0 w (mp encI (fun _ => True) (k.v i).mb (ienc (e.tx i).writes) :: blk (blkOf bs i) 172 (txF (k.v i) (e.tx i)) :: sl 181 2 (k.v i).rv (e.tx i).reads.length (pcells (e.tx i).reads) :: sl 167 1 (k.v i).fv (e.tx i).fore.length (ptrs bs (e.tx i).fore) :: sl 167 1 (k.v i).av (e.tx i).aft.length (ptrs bs (e.tx i).aft) :: engX b bs k e i :: L) :=
  (h.eng_tx hi).conv (by rw [all, txK_parts]; simp only [all]; ac_rfl)
 obtain ⟨w', hr, h2⟩ := h1.put Tryz.keyInt Tryz.underlying101 key trivial (.int .i64 val)
 refine ⟨w', hr, ?_⟩
 have e1 : mput (ienc (e.tx i).writes) key (.int .i64 val) = ienc (mput (e.tx i).writes key val) := ienc_put _ _ _
 rw [e1] at h2
 have h3 : S w0 w' (txK bs (blkOf bs i) (k.v i) { e.tx i with writes := mput (e.tx i).writes key val } :: engX b bs k e i :: L) := by
  refine h2.conv ?_
  rw [txK_parts]
  show _ = sep (sep (blk (blkOf bs i) _ (txF (k.v i) (e.tx i))) (sep (sl _ 2 (k.v i).rv (e.tx i).reads.length (pcells (e.tx i).reads)) (sep _ (sep (sl _ 1 (k.v i).fv (e.tx i).fore.length (ptrs bs (e.tx i).fore)) (sl _ 1 (k.v i).av (e.tx i).aft.length (ptrs bs (e.tx i).aft)))))) _
  simp only [all]; ac_rfl
 have h4 := S.eng_back hi h3
 have e2 : k.set i (k.v i) = k := by
  unfold EngV.set EngV.v
  have : k.tv.set i ((k.tv[i]?).getD .none) = k.tv := by simp [show i < k.tv.length by omega]
  rw [this]
 rw [e2] at h4
 have e3 : { e with txs := e.txs.set i { e.tx i with writes := mput (e.tx i).writes key val } } = e.wput i (key, val) := by
  have := Eng.upd_set hi (fun x => { x with writes := mput x.writes key val })
  unfold Eng.wput Eng.upd at this ⊢
  simp only at this
  rw [this]
 rwa [e3] at h4
theorem tx_size : (Tryz.prog.info? 172).map (·.size) = some 12 := by kernel_rfl
theorem eqlT_same (w : World) (p : Nat) : (binOp .eql 167 (.pointer (some ⟨p, 0, none⟩)) (.pointer (some ⟨p, 0, none⟩))).run Tryz.prog w = .ok (.bool true) w := by
 obtain ⟨j, hj, _⟩ := Option.map_eq_some_iff.1 tx_size
 exact run_eql_ptr_same w ⟨p, 0, none⟩ Tryz.underlying167 hj
theorem eqlT_other {w0 w : World} {b : Nat} {bs : List Nat} {k : EngV} {e : Eng} {i m : Nat} {L : List HProp} (hs : S w0 w (engO b bs k e :: L)) (hi : i < e.txs.length) (hm : m < e.txs.length) (hne : blkOf bs m ≠ blkOf bs i) :
  (binOp .eql 167 (.pointer (some ⟨blkOf bs m, 0, none⟩)) (.pointer (some ⟨blkOf bs i, 0, none⟩))).run Tryz.prog w = .ok (.bool false) w := by
 obtain ⟨j, hj, hsz⟩ := Option.map_eq_some_iff.1 tx_size
 exact run_eql_ptr_other w Tryz.underlying167 hj (by rw [hsz]; decide) (fun e1 => hne (congrArg Addr.block e1)) (hs.eng_tx hm).sep_elim.blk_heap (hs.eng_tx hi).sep_elim.blk_heap
set_option linter.unusedSimpArgs false in
set_option maxRecDepth 100000 in
set_option maxHeartbeats 20000000 in
theorem writes_any (n : Nat) (hg : GoesAny n) (w0 w : World) (b : Nat) (bs : List Nat) (e : Eng) (i : Nat) (key val : Int) (L : List HProp) (N : Nat) (U : List Task) (hok : OkT N e (.put i (key, val) :: U)) (ho : e.open_ ≤ n) (hN : N ≤ 100000000) (hs : S w0 w (engP b bs e :: L)) :
  Calls Tryz.prog 119 #[.pointer (some ⟨b, 0, none⟩), .int .i64 ((i : Int) + 1), .agg #[.int .i64 key, .int .i64 val]] w fun r w' => r = .returned (.tuple #[]) ∧ S w0 w' (engP b bs (putsG (goesN n) e i (key, val)) :: L) := by
 have hk0 := hok.ok _ (List.mem_cons_self ..)
 obtain ⟨hst, hkey, hval, _⟩ := hk0.put i (key, val) rfl
 have hi : i < e.txs.length := hk0.lt
 obtain ⟨k, hs⟩ := hs.eng_open
 have h1 := hs.alloc #[.int .i64 key, .int .i64 val] 91
 have hO : ∀ W M, S w0 W (M ++ (storeP 99 b 0 e.V e.last :: tabP 3 b 11 e.t :: engO b bs k e :: L)) → S w0 W (engO b bs k e :: L) := fun W M h => (h.rest).tail.tail
 have hc := (hO _ [_] h1).eng_c.2
 have c14 := hc.txs
 obtain ⟨a, cap, hv, hle, hcap, hrow⟩ := hc.row
 obtain ⟨g, o, rfl, ci⟩ := hrow i hi
 rw [hv] at c14
 unfold maxLen at hcap
 unfold ptr at ci
 have HS := hid h1; have HO := hid hO; have HOK := hid hok; have HG := hid hg; have HV := hid hv
 have hq : ∀ W M, S w0 W (blk w.heap.size 91 [.int .i64 key, .int .i64 val] :: storeP 99 b 0 e.V e.last :: tabP 3 b 11 e.t :: engO b bs k e :: M) → W.cell? ⟨w.heap.size, 0, none⟩ = some (.int .i64 key) ∧ W.cell? ⟨blkOf bs i, 2, none⟩ = some (.int .i64 (e.tx i).start) := fun W M h =>
  ⟨h.blk_cell 0 rfl, (h.tail.tail.tail.eng_txc hi).2.start⟩
 have HQ := hid hq
 have q0 := hq _ _ h1.drew
 have HHI := hid hi
 clear h1 hO hc hrow hok hg hq hs hk0 hv
 go_enter Tryz.func119, Tryz.ntmps119
 go_wp2_with fail
 go_region_held_law (fun w' => w'.cell? ⟨w.heap.size, 0, none⟩ = some (.int .i64 key) ∧ w'.cell? ⟨blkOf bs i, 2, none⟩ = some (.int .i64 (e.tx i).start)) (first | (with_reducible assumption) | (with_reducible exact q0) | (with_reducible exact q1))
  ((go_at_call 149; with_reducible refine (enewer_any w0 _ b e key _ _ N _ HOK.out hkey (HS.out.drew.swap)).mono ?_; rintro r w2 ⟨an, cn, rfl, hcn, hcn2, hs2⟩; have q1 := HQ.out _ _ (hs2.tail.swap); have G2 := hid hs2; clear hs2))
 have hs3 := G2.out.tail.swap
 have c0 := (hs3.tail.tail.tail.eng_txc HHI.out).2.level
 unfold maxLen at hcn2
 have HLT : Hid (e.late i key ↔ (e.tx i).level ≠ 0 ∧ newerL (e.row key) (e.tx i).start ≠ []) := hid Iff.rfl
 have HM : Hid (newerL (e.row key) (e.tx i).start ≠ [] ↔ 0 < (newerL (e.row key) (e.tx i).start).length) := hid (by rw [List.length_pos_iff])
 have hml : (newerL (e.row key) (e.tx i).start).length ≤ 9223372036854775807 := by omega
 generalize (newerL (e.row key) (e.tx i).start).length = m at *
 have H3 := hid hs3
 clear hs3 q0 G2 HS
 by_cases hl : e.late i key
 ·obtain ⟨hl0, hl1⟩ := HLT.out.1 hl
  have hm0 := HM.out.1 hl1
  have hb0 : ((e.tx i).level != 0) = true := by simpa using hl0
  have hlv : putsG (goesN n) e i (key, val) = goesN n e i 10 := if_pos hl
  have HF := hid hlv
  have hcall := HG.out w0 _ b bs e i 10 L N U (HOK.out.tail (by simp)) HHI.out (by simp [Tx.alive, hst]) (HOK.out.who_ne) ho hN H3.out.tail.eng_shut
  have HC := hid hcall
  clear hl hl0 hl1 hlv hcall HLT HM
  go_wp2_with fail
  with_reducible refine HC.out.mono ?_
  rintro r w' ⟨rfl, hs'⟩
  have H4 := hid hs'
  clear hs'
  go_wp2_with fail
  refine bodyPost_ret (v := .tuple #[]) (by simp [results, Tryz.results119, go_sem]) rfl ?_
  exact ⟨rfl, by rw [HF.out]; exact H4.out⟩
 have hw := HOK.out.wput
 have HW := hid hw
 have hup : ∀ W, S w0 W (blk w.heap.size 91 [.int .i64 key, .int .i64 val] :: storeP 99 b 0 e.V e.last :: tabP 3 b 11 e.t :: engO b bs k e :: L) → ∃ w', (Instr.mapUpdate 101 (.map (some (k.v i).mb)) (.int .i64 key) (.int .i64 val)).run Tryz.prog W = .ok () w' ∧ S w0 w' (blk w.heap.size 91 [.int .i64 key, .int .i64 val] :: storeP 99 b 0 (e.wput i (key, val)).V (e.wput i (key, val)).last :: tabP 3 b 11 (e.wput i (key, val)).t :: engO b bs k (e.wput i (key, val)) :: L) := by
  intro W hW
  obtain ⟨w', hr, h⟩ := eng_wput (hW.conv (M := engO b bs k e :: blk w.heap.size 91 [.int .i64 key, .int .i64 val] :: storeP 99 b 0 e.V e.last :: tabP 3 b 11 e.t :: L) (by simp only [all]; ac_rfl)) HHI.out key val
  exact ⟨w', hr, h.conv (by simp only [all]; show sep _ (sep _ (sep (storeP _ b 0 e.V e.last) (sep (tabP _ b 11 e.t) _))) = sep _ (sep (storeP _ b 0 e.V e.last) (sep (tabP _ b 11 e.t) _)); ac_rfl)⟩
 have hq5 : ∀ W M, S w0 W (blk w.heap.size 91 [.int .i64 key, .int .i64 val] :: storeP 99 b 0 e.V e.last :: tabP 3 b 11 e.t :: engO b bs k e :: M) → W.cell? ⟨blkOf bs i, 6, none⟩ = some (.map (some (k.v i).mb)) ∧ W.cell? ⟨w.heap.size, 0, none⟩ = some (.int .i64 key) ∧ W.cell? ⟨w.heap.size, 1, none⟩ = some (.int .i64 val) := fun W M h =>
  ⟨(h.tail.tail.tail.eng_txc HHI.out).2.writes, h.blk_cell 0 rfl, h.blk_cell 1 rfl⟩
 have HUP := hid hup; have HQ5 := hid hq5
 clear hup hq5 hw
 go_upto_region 3 with fail
 go_cut [41] (fun c wx => c = .bool false ∧ S w0 wx (blk w.heap.size 91 [.int .i64 key, .int .i64 val] :: storeP 99 b 0 e.V e.last :: tabP 3 b 11 e.t :: engO b bs k e :: L))
 case first =>
  by_cases h0 : (e.tx i).level = 0
  ·have hb : ((e.tx i).level != 0) = false := by simp [h0]
   clear hl h0 HLT HM
   go_wp2_with fail
   go_meet
   exact ⟨rfl, H3.out⟩
  ·have hb : ((e.tx i).level != 0) = true := by simpa using h0
   obtain rfl : m = 0 := by
    rcases Nat.eq_zero_or_pos m with h1 | h1
    ·exact h1
    ·exact absurd (HLT.out.2 ⟨h0, HM.out.2 h1⟩) hl
   clear hl h0 HLT HM
   go_wp2_with fail
   go_meet
   exact ⟨rfl, H3.out⟩
 case rest =>
 rename World => w3
 obtain ⟨rfl, hs4⟩ := hcut
 have H4 := hid hs4
 clear hs4 c0 H3 HLT HM
 go_upto_region 5 with fail
 go_cut [] (fun wx => S w0 wx (blk w.heap.size 91 [.int .i64 key, .int .i64 val] :: storeP 99 b 0 (e.wput i (key, val)).V (e.wput i (key, val)).last :: tabP 3 b 11 (e.wput i (key, val)).t :: engO b bs k (e.wput i (key, val)) :: L))
 case first =>
  refine region_U (S := fun w' => w'.cell? ⟨blkOf bs i, 6, none⟩ = some (.map (some (k.v i).mb)) ∧ w'.cell? ⟨w.heap.size, 0, none⟩ = some (.int .i64 key) ∧ w'.cell? ⟨w.heap.size, 1, none⟩ = some (.int .i64 val)) (u := 8) (by kernel_rfl) (HQ5.out _ _ H4.out.drew) (fun hHeld => ?_)
  refine anyU_take (i := 0) (v := ?_) rfl (by kernel_rfl) (fun _ _ _ h => h) (Or.inl ⟨by rfl, ?_⟩) hHeld ?_
  rotate_left
  ·(intro w hSw; (try dsimp only at hSw); go_simp) <;> with_reducible rfl
  try simp only [putU]
  refine anyU_take (i := 1) (v := ?_) rfl (by kernel_rfl) (fun _ _ _ h => h) (Or.inl ⟨by rfl, ?_⟩) hHeld ?_
  rotate_left
  ·(intro w hSw; (try dsimp only at hSw); go_simp) <;> with_reducible rfl
  try simp only [putU]
  refine anyU_take (i := 2) (v := ?_) rfl (by kernel_rfl) (fun _ _ _ h => h) (Or.inl ⟨by rfl, ?_⟩) hHeld ?_
  rotate_left
  ·(intro w hSw; (try dsimp only at hSw); go_simp) <;> with_reducible rfl
  try simp only [putU]
  refine anyU_take (i := 3) (v := ?_) rfl (by kernel_rfl) (fun _ _ _ h => h) (Or.inl ⟨by rfl, ?_⟩) hHeld ?_
  rotate_left
  ·(intro w hSw; (try dsimp only at hSw); go_simp) <;> with_reducible rfl
  try simp only [putU]
  refine anyU_take (i := 4) (v := ?_) rfl (by kernel_rfl) (fun _ _ _ h => h) (Or.inl ⟨by rfl, ?_⟩) hHeld ?_
  rotate_left
  ·(intro w hSw; (try dsimp only at hSw); go_simp) <;> with_reducible rfl
  try simp only [putU]
  refine anyU_take (i := 5) (v := ?_) rfl (by kernel_rfl) (fun _ _ _ h => h) (Or.inl ⟨by rfl, ?_⟩) hHeld ?_
  rotate_left
  ·(intro w hSw; (try dsimp only at hSw); go_simp) <;> with_reducible rfl
  try simp only [putU]
  refine anyU_take (i := 6) (v := ?_) rfl (by kernel_rfl) (fun _ _ _ h => h) (Or.inl ⟨by rfl, ?_⟩) hHeld ?_
  rotate_left
  ·(intro w hSw; (try dsimp only at hSw); go_simp) <;> with_reducible rfl
  try simp only [putU]
  refine anyU_take (i := 7) (v := ?_) rfl (by kernel_rfl) (fun _ _ _ h => h) (Or.inl ⟨by rfl, ?_⟩) hHeld ?_
  rotate_left
  ·(intro w hSw; (try dsimp only at hSw); go_simp) <;> with_reducible rfl
  try simp only [putU]
  have HS := hid H4.out.drew
  clear hHeld
  refine anyU_world (fun w => Hid (S w0 w _)) HS (fun w1 HS => ?_)
  refine anyU_next (rs := [8]) (by kernel_rfl) (by simp) ?_
  refine NextU.cons rfl (fun K hK => ?_) ?_
  ·refine step_mapuE rfl 101 (.tmp 48) (.tmp 50) (.tmp 52) rfl (by rfl) (by rfl) (by rfl) (HUP.out _ HS.out) ?_
   intro w2 hs2
   have H6 := hid hs2
   clear hs2
   refine hK.out _ _ (fun h => Bool.noConfusion (show true = false from h)) ?_
   clear hK K
   try simp only [putU]
   refine anyU_done (by kernel_rfl) ?_ _
   go_wp2_with fail
   go_meet
   exact H6.out
  exact NextU.nil
 case rest =>
 rename World => w4
 have H5 := hid hcut
 clear hcut H4 HUP HQ5 HQ HO
 have hlv : ((e.wput i (key, val)).tx i).level = (e.tx i).level := Eng.upd_keep (·.level) (fun x => { x with writes := mput x.writes key val }) (fun _ => rfl) i
 have hln : (e.wput i (key, val)).txs.length = e.txs.length := Eng.upd_len ..
 have hop : (e.wput i (key, val)).open_ = e.open_ := Eng.many_keep Tx.alive _ fun _ => rfl
 have HHI2 : i < (e.wput i (key, val)).txs.length := by rw [hln]; exact HHI.out
 have c0 := (H5.out.tail.tail.tail.eng_txc HHI2).2.level
 rw [hlv] at c0
 have HLV := hid hlv; have HLN := hid hln; have HOP := hid hop
 clear hlv hln hop
 by_cases h2 : (e.tx i).level ≠ 2
 ·have hb2 : ((e.tx i).level != 2) = true := by simpa using h2
  have hpv : putsG (goesN n) e i (key, val) = e.wput i (key, val) := by unfold putsG; rw [if_neg hl, if_neg h2]
  have HF := hid hpv
  clear hl h2 hpv HHI2
  go_wp2_with fail
  refine bodyPost_ret (v := .tuple #[]) (by simp [results, Tryz.results119, go_sem]) rfl ?_
  exact ⟨rfl, by rw [HF.out]; exact H5.out.tail.eng_shut⟩
 have h2 := Decidable.not_not.1 h2
 have hb2 : ((e.tx i).level != 2) = false := by simp [h2]
 have hpv : putsG (goesN n) e i (key, val) = putsL (goesN n) i key (List.range e.txs.length) (e.wput i (key, val)) := by unfold putsG; rw [if_neg hl, if_pos h2]
 have hok2 := HW.out.2 h2
 have HF := hid hpv; have HOK2 := hid hok2
 have hc4 := H5.out.tail.tail.tail.eng_c.2.txs
 rw [HV.out] at hc4
 have hrow : ∀ (W : World) (k1 : EngV) (e1 : Eng) (M : List HProp), k1.txv = k.txv → e1.txs.length = e.txs.length → S w0 W (engO b bs k1 e1 :: M) → ∀ j, j < e.txs.length → W.cell? ⟨g, o + j, none⟩ = some (ptr bs j) := by
  intro W k1 e1 M h1 h2 h3 j hj
  obtain ⟨a', cap', h4, _, _, h5⟩ := h3.eng_c.2.row
  obtain ⟨g', o', h6, h7⟩ := h5 j (by omega)
  rw [h1, HV.out, h6] at h4
  simp only [Value.slice.injEq, Option.some.injEq, Addr.mk.injEq] at h4
  obtain ⟨⟨rfl, rfl, _⟩, _, _⟩ := h4
  exact h7
 have HROW := hid hrow
 have hfew := HOK.out.few
 have HO2 : Hid ((e.wput i (key, val)).open_ ≤ n) := hid (by rw [HOP.out]; exact ho)
 clear hl h2 hpv hok2 hrow HHI2 HW HOP
 go_wp2_with fail
 go_loopw [63] (fun c wr => ∃ (m : Nat) (e1 : Eng) (k1 : EngV), m ≤ e.txs.length ∧ c = .int .i64 m ∧ Hid (k1.txv = k.txv) ∧ Hid (OkT N e1 (.ask i key ((List.range e.txs.length).drop m) :: U)) ∧ Hid (e1.open_ ≤ n) ∧ Hid (e1.txs.length = e.txs.length) ∧ Hid (putsG (goesN n) e i (key, val) = putsL (goesN n) i key ((List.range e.txs.length).drop m) e1) ∧ S w0 wr (blk w.heap.size 91 [.int .i64 key, .int .i64 val] :: storeP 99 b 0 e1.V e1.last :: tabP 3 b 11 e1.t :: engO b bs k1 e1 :: L)) (fun c _ => e.txs.length - (intOf c).toNat)
 case atStart => exact ⟨0, e.wput i (key, val), k, Nat.zero_le _, rfl, hid rfl, HOK2, HO2, HLN, HF, H5.out⟩
 case round =>
  rename World => wr
  obtain ⟨m, e1, k1, hm, rfl, hk1, hok1, ho1, hn1, hf1, hsr⟩ := hrel
  clear H5 HF HOK2 HO2 HLN HLV HOK hc4 c0
  by_cases hlt : m < e.txs.length
  ·have hd : (List.range e.txs.length).drop m = m :: (List.range e.txs.length).drop (m + 1) := by rw [List.drop_eq_getElem_cons (by simpa using hlt)]; simp
   have hok2 := hok1.out
   have hf2 := hf1.out
   rw [hd] at hok2 hf2
   have hj : m < e1.txs.length := by rw [hn1.out]; exact hlt
   have hi1 : i < e1.txs.length := by rw [hn1.out]; exact HHI.out
   have cm := HROW.out wr k1 e1 _ hk1.out hn1.out hsr.tail.tail.tail m hlt
   unfold ptr at cm
   have hq10 : ∀ W M, S w0 W (blk w.heap.size 91 [.int .i64 key, .int .i64 val] :: storeP 99 b 0 e1.V e1.last :: tabP 3 b 11 e1.t :: engO b bs k1 e1 :: M) → W.cell? ⟨blkOf bs m, 1, none⟩ = some (.int .i64 (e1.tx m).state) ∧ W.cell? ⟨blkOf bs m, 4, none⟩ = some (.int .i64 (e1.tx m).ended) ∧ W.cell? ⟨blkOf bs i, 3, none⟩ = some (.int .i64 (e1.tx i).begun) ∧ W.cell? ⟨blkOf bs m, 5, none⟩ = some (k1.v m).rv := fun W M h =>
    ⟨(h.tail.tail.tail.eng_txc hj).2.state, (h.tail.tail.tail.eng_txc hj).2.ended, (h.tail.tail.tail.eng_txc hi1).2.begun, (h.tail.tail.tail.eng_txc hj).2.reads⟩
   have hstr : ∀ W, S w0 W (blk w.heap.size 91 [.int .i64 key, .int .i64 val] :: storeP 99 b 0 e1.V e1.last :: tabP 3 b 11 e1.t :: engO b bs k1 e1 :: L) → Calls Tryz.prog 150 #[.pointer (some ⟨blkOf bs m, 0, none⟩)] W fun r w' => r = .returned (.bool (e1.tx m).strict) ∧ W = w' := fun W h => strict_eng w0 W b bs k1 e1 m _ h.tail.tail.tail hj
   have hcon : ∀ W, S w0 W (blk w.heap.size 91 [.int .i64 key, .int .i64 val] :: storeP 99 b 0 e1.V e1.last :: tabP 3 b 11 e1.t :: engO b bs k1 e1 :: L) → Calls Tryz.prog 154 #[(k1.v m).rv, sawF w.heap.size] W fun r w' => r = .returned (.bool ((e1.tx m).saw key)) ∧ S w0 w' (blk w.heap.size 91 [.int .i64 key, .int .i64 val] :: storeP 99 b 0 e1.V e1.last :: tabP 3 b 11 e1.t :: engO b bs k1 e1 :: L) := fun W h =>
    (containsR_any w0 W b bs k1 e1 m w.heap.size key val (storeP 99 b 0 e1.V e1.last :: tabP 3 b 11 e1.t :: L) (h.conv (by simp only [all]; ac_rfl)) hj).mono fun r w' h => ⟨h.1, h.2.conv (by simp only [all]; ac_rfl)⟩
   have hsk : skips e1 i key m = (decide (m = i) || !(e1.tx m).strict || (decide ((e1.tx m).state = 2) && decide ((e1.tx m).ended < (e1.tx i).begun)) || !(e1.tx m).saw key) := rfl
   have hbne : m ≠ i → blkOf bs m ≠ blkOf bs i := fun h => blk_ne hsr.tail.tail.tail.eng_c.2 hj hi1 h
   have HR0 := hid hsr; have HQ10 := hid hq10; have HCON := hid hcon; have HOKM := hid hok2; have HFM := hid hf2; have HSTR0 := hid hstr; have HSK0 := hid hsk; have HBNE := hid hbne; have HJ := hid hj; have HI1 := hid hi1
   clear hd hok2 hf2 hj hi1 hq10 hstr hcon hsk hsr hok1 hf1 hbne
   go_upto_region 10 with fail
   go_cut [101] (fun s101 wx => s101 = .bool (skips e1 i key m) ∧ S w0 wx (blk w.heap.size 91 [.int .i64 key, .int .i64 val] :: storeP 99 b 0 e1.V e1.last :: tabP 3 b 11 e1.t :: engO b bs k1 e1 :: L))
   case first =>
    generalize (e1.tx m).state = stj at *
    generalize (e1.tx m).ended = enj at *
    generalize (e1.tx i).begun = bgi at *
    generalize hrv : (k1.v m).rv = rvj at *
    clear hrv
    generalize (e1.tx m).saw key = sk at *
    generalize (e1.tx m).strict = st at *
    have HSTR := HSTR0
    clear HSTR0
    by_cases hmi : m = i
    ·subst hmi
     have HSK : Hid (skips e1 m key m = true) := hid (by rw [HSK0.out]; simp)
     have heqs := fun w => eqlT_same w (blkOf bs m)
     clear HSK0 HBNE
     refine wp_region_held_drew (S := fun w' => w'.cell? ⟨blkOf bs m, 1, none⟩ = some (.int .i64 stj) ∧ w'.cell? ⟨blkOf bs m, 4, none⟩ = some (.int .i64 enj) ∧ w'.cell? ⟨blkOf bs m, 3, none⟩ = some (.int .i64 bgi) ∧ w'.cell? ⟨blkOf bs m, 5, none⟩ = some rvj) (by kernel_rfl) (HQ10.out _ _ HR0.out.drew) (fun hHeld => ?_)
     refine wpAnyH_take (i := 0) (v := ?_) rfl (by kernel_rfl) (by kernel_rfl) (by kernel_rfl) (fun _ _ _ h => h) (Or.inl ⟨by rfl, ?_⟩) hHeld ?_
     rotate_left
     ·(intro w hSw; (try dsimp only at hSw); go_simp) <;> with_reducible rfl
     try simp only [putU]
     refine wpAnyH_take (i := 1) (v := ?_) rfl (by kernel_rfl) (by kernel_rfl) (by kernel_rfl) (fun _ _ _ h => h) (Or.inl ⟨by rfl, ?_⟩) hHeld ?_
     rotate_left
     ·(intro w hSw; (try dsimp only at hSw); go_simp) <;> with_reducible rfl
     try simp only [putU]
     refine wpAnyH_take (i := 2) (v := ?_) rfl (by kernel_rfl) (by kernel_rfl) (by kernel_rfl) (fun _ _ _ h => h) (Or.inl ⟨by rfl, ?_⟩) hHeld ?_
     rotate_left
     ·(intro w hSw; (try dsimp only at hSw); go_simp) <;> with_reducible rfl
     try simp only [putU]
     refine wpAnyH_take (i := 3) (v := ?_) rfl (by kernel_rfl) (by kernel_rfl) (by kernel_rfl) (fun _ _ _ h => h) (Or.inl ⟨by rfl, ?_⟩) hHeld ?_
     rotate_left
     ·(intro w hSw; (try dsimp only at hSw); go_simp) <;> with_reducible rfl
     try simp only [putU]
     refine wpAnyH_take (i := 4) (v := undef) rfl (by kernel_rfl) (by kernel_rfl) (by kernel_rfl) (fun _ _ _ h => h) (Or.inr ⟨by rfl, rfl⟩) hHeld ?_
     try simp only [putU]
     refine wpAnyH_take (i := 5) (v := undef) rfl (by kernel_rfl) (by kernel_rfl) (by kernel_rfl) (fun _ _ _ h => h) (Or.inr ⟨by rfl, rfl⟩) hHeld ?_
     try simp only [putU]
     refine wpAnyH_take (i := 6) (v := undef) rfl (by kernel_rfl) (by kernel_rfl) (by kernel_rfl) (fun _ _ _ h => h) (Or.inr ⟨by rfl, rfl⟩) hHeld ?_
     try simp only [putU]
     refine wpAnyH_take (i := 7) (v := ?_) rfl (by kernel_rfl) (by kernel_rfl) (by kernel_rfl) (fun _ _ _ h => h) (Or.inl ⟨by rfl, ?_⟩) hHeld ?_
     rotate_left
     ·(intro w hSw; (try dsimp only at hSw); go_simp) <;> with_reducible rfl
     try simp only [putU]
     refine wpAnyH_take (i := 8) (v := ?_) rfl (by kernel_rfl) (by kernel_rfl) (by kernel_rfl) (fun _ _ _ h => h) (Or.inl ⟨by rfl, ?_⟩) hHeld ?_
     rotate_left
     ·(intro w hSw; (try dsimp only at hSw); go_simp) <;> with_reducible rfl
     try simp only [putU]
     refine wpAnyH_take (i := 9) (v := undef) rfl (by kernel_rfl) (by kernel_rfl) (by kernel_rfl) (fun _ _ _ h => h) (Or.inr ⟨by rfl, rfl⟩) hHeld ?_
     try simp only [putU]
     refine wpAnyH_take (i := 10) (v := undef) rfl (by kernel_rfl) (by kernel_rfl) (by kernel_rfl) (fun _ _ _ h => h) (Or.inr ⟨by rfl, rfl⟩) hHeld ?_
     try simp only [putU]
     refine wpAnyH_take (i := 11) (v := undef) rfl (by kernel_rfl) (by kernel_rfl) (by kernel_rfl) (fun _ _ _ h => h) (Or.inr ⟨by rfl, rfl⟩) hHeld ?_
     try simp only [putU]
     refine wpAnyH_take (i := 12) (v := undef) rfl (by kernel_rfl) (by kernel_rfl) (by kernel_rfl) (fun _ _ _ h => h) (Or.inr ⟨by rfl, rfl⟩) hHeld ?_
     try simp only [putU]
     refine wpAnyH_take (i := 13) (v := undef) rfl (by kernel_rfl) (by kernel_rfl) (by kernel_rfl) (fun _ _ _ h => h) (Or.inr ⟨by rfl, rfl⟩) hHeld ?_
     try simp only [putU]
     refine wpAnyH_take (i := 14) (v := undef) rfl (by kernel_rfl) (by kernel_rfl) (by kernel_rfl) (fun _ _ _ h => h) (Or.inr ⟨by rfl, rfl⟩) hHeld ?_
     try simp only [putU]
     refine wpAnyH_take (i := 15) (v := undef) rfl (by kernel_rfl) (by kernel_rfl) (by kernel_rfl) (fun _ _ _ h => h) (Or.inr ⟨by rfl, rfl⟩) hHeld ?_
     try simp only [putU]
     refine wpAnyH_take (i := 16) (v := undef) rfl (by kernel_rfl) (by kernel_rfl) (by kernel_rfl) (fun _ _ _ h => h) (Or.inr ⟨by rfl, rfl⟩) hHeld ?_
     try simp only [putU]
     refine wpAnyH_take (i := 17) (v := undef) rfl (by kernel_rfl) (by kernel_rfl) (by kernel_rfl) (fun _ _ _ h => h) (Or.inr ⟨by rfl, rfl⟩) hHeld ?_
     try simp only [putU]
     refine wpAnyH_take (i := 18) (v := undef) rfl (by kernel_rfl) (by kernel_rfl) (by kernel_rfl) (fun _ _ _ h => h) (Or.inr ⟨by rfl, rfl⟩) hHeld ?_
     try simp only [putU]
     refine wpAnyH_take (i := 19) (v := undef) rfl (by kernel_rfl) (by kernel_rfl) (by kernel_rfl) (fun _ _ _ h => h) (Or.inr ⟨by rfl, rfl⟩) hHeld ?_
     try simp only [putU]
     refine wpAnyH_take (i := 20) (v := undef) rfl (by kernel_rfl) (by kernel_rfl) (by kernel_rfl) (fun _ _ _ h => h) (Or.inr ⟨by rfl, rfl⟩) hHeld ?_
     try simp only [putU]
     refine wpAnyH_take (i := 21) (v := undef) rfl (by kernel_rfl) (by kernel_rfl) (by kernel_rfl) (fun _ _ _ h => h) (Or.inr ⟨by rfl, rfl⟩) hHeld ?_
     try simp only [putU]
     refine wpAnyH_take (i := 22) (v := undef) rfl (by kernel_rfl) (by kernel_rfl) (by kernel_rfl) (fun _ _ _ h => h) (Or.inr ⟨by rfl, rfl⟩) hHeld ?_
     try simp only [putU]
     refine wpAnyH_take (i := 23) (v := undef) rfl (by kernel_rfl) (by kernel_rfl) (by kernel_rfl) (fun _ _ _ h => h) (Or.inr ⟨by rfl, rfl⟩) hHeld ?_
     try simp only [putU]
     refine wpAnyH_take (i := 24) (v := undef) rfl (by kernel_rfl) (by kernel_rfl) (by kernel_rfl) (fun _ _ _ h => h) (Or.inr ⟨by rfl, rfl⟩) hHeld ?_
     try simp only [putU]
     refine wpAnyH_take (i := 25) (v := ?_) rfl (by kernel_rfl) (by kernel_rfl) (by kernel_rfl) (fun _ _ _ h => h) (Or.inl ⟨by rfl, ?_⟩) hHeld ?_
     rotate_left
     ·(intro w hSw; (try dsimp only at hSw); go_simp) <;> with_reducible rfl
     try simp only [putU]
     refine wpAnyH_take (i := 26) (v := ?_) rfl (by kernel_rfl) (by kernel_rfl) (by kernel_rfl) (fun _ _ _ h => h) (Or.inl ⟨by rfl, ?_⟩) hHeld ?_
     rotate_left
     ·(intro w hSw; (try dsimp only at hSw); go_simp) <;> with_reducible rfl
     try simp only [putU]
     refine wpAnyH_take (i := 27) (v := undef) rfl (by kernel_rfl) (by kernel_rfl) (by kernel_rfl) (fun _ _ _ h => h) (Or.inr ⟨by rfl, rfl⟩) hHeld ?_
     try simp only [putU]
     refine wpAnyH_take (i := 28) (v := undef) rfl (by kernel_rfl) (by kernel_rfl) (by kernel_rfl) (fun _ _ _ h => h) (Or.inr ⟨by rfl, rfl⟩) hHeld ?_
     try simp only [putU]
     refine wpAnyH_take (i := 29) (v := undef) rfl (by kernel_rfl) (by kernel_rfl) (by kernel_rfl) (fun _ _ _ h => h) (Or.inr ⟨by rfl, rfl⟩) hHeld ?_
     try simp only [putU]
     refine wpAnyH_take (i := 30) (v := undef) rfl (by kernel_rfl) (by kernel_rfl) (by kernel_rfl) (fun _ _ _ h => h) (Or.inr ⟨by rfl, rfl⟩) hHeld ?_
     try simp only [putU]
     refine wpAnyH_take (i := 31) (v := undef) rfl (by kernel_rfl) (by kernel_rfl) (by kernel_rfl) (fun _ _ _ h => h) (Or.inr ⟨by rfl, rfl⟩) hHeld ?_
     try simp only [putU]
     refine wpAnyH_take (i := 32) (v := undef) rfl (by kernel_rfl) (by kernel_rfl) (by kernel_rfl) (fun _ _ _ h => h) (Or.inr ⟨by rfl, rfl⟩) hHeld ?_
     try simp only [putU]
     refine wpAnyH_take (i := 33) (v := undef) rfl (by kernel_rfl) (by kernel_rfl) (by kernel_rfl) (fun _ _ _ h => h) (Or.inr ⟨by rfl, rfl⟩) hHeld ?_
     try simp only [putU]
     refine wpAnyH_take (i := 34) (v := ?_) rfl (by kernel_rfl) (by kernel_rfl) (by kernel_rfl) (fun _ _ _ h => h) (Or.inl ⟨by rfl, ?_⟩) hHeld ?_
     rotate_left
     ·(intro w hSw; (try dsimp only at hSw); go_simp) <;> with_reducible rfl
     try simp only [putU]
     have HS := hid HR0.out.drew
     clear hHeld
     refine anyH_world (fun w => Hid (S w0 w _)) HS (fun w1 HS => ?_)
     refine wpAnyH_done (by kernel_rfl) ?_ _
     go_wp2_with fail
     go_meet
     exact ⟨by rw [HSK.out] <;> rfl, HS.out⟩
    have hne := HBNE.out hmi
    have hq11 := fun W M h => And.intro (eqlT_other (S.tail (S.tail (S.tail h))) HI1.out HJ.out hne) (HQ10.out W M h)
    have HQ11 := hid hq11
    clear HBNE hne hq11 HQ10
    cases st with
    | false =>
     have HSK : Hid (skips e1 i key m = true) := hid (by rw [HSK0.out]; simp)
     clear HSK0 hmi
     refine wp_region_held_drew (S := fun w' => (binOp .eql 167 (.pointer (some ⟨blkOf bs m, 0, none⟩)) (.pointer (some ⟨blkOf bs i, 0, none⟩))).run Tryz.prog w' = .ok (.bool false) w' ∧ w'.cell? ⟨blkOf bs m, 1, none⟩ = some (.int .i64 stj) ∧ w'.cell? ⟨blkOf bs m, 4, none⟩ = some (.int .i64 enj) ∧ w'.cell? ⟨blkOf bs i, 3, none⟩ = some (.int .i64 bgi) ∧ w'.cell? ⟨blkOf bs m, 5, none⟩ = some rvj) (by kernel_rfl) (HQ11.out _ _ HR0.out.drew) (fun hHeld => ?_)
     refine wpAnyH_take (i := 0) (v := ?_) rfl (by kernel_rfl) (by kernel_rfl) (by kernel_rfl) (fun _ _ _ h => h) (Or.inl ⟨by rfl, ?_⟩) hHeld ?_
     rotate_left
     ·(intro w hSw; (try dsimp only at hSw); go_simp) <;> with_reducible rfl
     try simp only [putU]
     refine wpAnyH_take (i := 1) (v := ?_) rfl (by kernel_rfl) (by kernel_rfl) (by kernel_rfl) (fun _ _ _ h => h) (Or.inl ⟨by rfl, ?_⟩) hHeld ?_
     rotate_left
     ·(intro w hSw; (try dsimp only at hSw); go_simp) <;> with_reducible rfl
     try simp only [putU]
     refine wpAnyH_take (i := 2) (v := ?_) rfl (by kernel_rfl) (by kernel_rfl) (by kernel_rfl) (fun _ _ _ h => h) (Or.inl ⟨by rfl, ?_⟩) hHeld ?_
     rotate_left
     ·(intro w hSw; (try dsimp only at hSw); go_simp) <;> with_reducible rfl
     try simp only [putU]
     refine wpAnyH_take (i := 3) (v := ?_) rfl (by kernel_rfl) (by kernel_rfl) (by kernel_rfl) (fun _ _ _ h => h) (Or.inl ⟨by rfl, ?_⟩) hHeld ?_
     rotate_left
     ·(intro w hSw; (try dsimp only at hSw); go_simp) <;> with_reducible rfl
     try simp only [putU]
     refine wpAnyH_take (i := 4) (v := ?_) rfl (by kernel_rfl) (by kernel_rfl) (by kernel_rfl) (fun _ _ _ h => h) (Or.inl ⟨by rfl, ?_⟩) hHeld ?_
     rotate_left
     ·(intro w hSw; (try dsimp only at hSw); go_simp) <;> with_reducible rfl
     try simp only [putU]
     have HS := hid HR0.out.drew
     clear hHeld
     refine anyH_world (fun w => Hid (S w0 w _)) HS (fun w1 HS => ?_)
     refine wpAnyH_ready (rs := [5]) (by kernel_rfl) (by simp) ?_
     refine AllReadyH.cons rfl (fun K hK => ?_) ?_
     ·go_simp
      go_wp2_with (go_at_call 150; with_reducible refine (HSTR.out _ HS.out).mono ?_; rintro r w' ⟨rfl, rfl⟩)
      refine hK.out _ _ (HQ11.out _ _ HS.out) (fun _ => ?_)
      clear hK K
      refine wpAnyH_take (i := 6) (v := ?_) rfl (by kernel_rfl) (by kernel_rfl) (by kernel_rfl) (fun _ _ _ h => h) (Or.inl ⟨by rfl, ?_⟩) (HQ11.out _ _ HS.out) ?_
      rotate_left
      ·(intro w hSw; (try dsimp only at hSw); go_simp) <;> with_reducible rfl
      try simp only [putU]
      refine wpAnyH_take (i := 7) (v := ?_) rfl (by kernel_rfl) (by kernel_rfl) (by kernel_rfl) (fun _ _ _ h => h) (Or.inl ⟨by rfl, ?_⟩) (HQ11.out _ _ HS.out) ?_
      rotate_left
      ·(intro w hSw; (try dsimp only at hSw); go_simp) <;> with_reducible rfl
      try simp only [putU]
      refine wpAnyH_take (i := 8) (v := ?_) rfl (by kernel_rfl) (by kernel_rfl) (by kernel_rfl) (fun _ _ _ h => h) (Or.inl ⟨by rfl, ?_⟩) (HQ11.out _ _ HS.out) ?_
      rotate_left
      ·(intro w hSw; (try dsimp only at hSw); go_simp) <;> with_reducible rfl
      try simp only [putU]
      refine wpAnyH_take (i := 9) (v := undef) rfl (by kernel_rfl) (by kernel_rfl) (by kernel_rfl) (fun _ _ _ h => h) (Or.inr ⟨by rfl, rfl⟩) (HQ11.out _ _ HS.out) ?_
      try simp only [putU]
      refine wpAnyH_take (i := 10) (v := undef) rfl (by kernel_rfl) (by kernel_rfl) (by kernel_rfl) (fun _ _ _ h => h) (Or.inr ⟨by rfl, rfl⟩) (HQ11.out _ _ HS.out) ?_
      try simp only [putU]
      refine wpAnyH_take (i := 11) (v := undef) rfl (by kernel_rfl) (by kernel_rfl) (by kernel_rfl) (fun _ _ _ h => h) (Or.inr ⟨by rfl, rfl⟩) (HQ11.out _ _ HS.out) ?_
      try simp only [putU]
      refine wpAnyH_take (i := 12) (v := undef) rfl (by kernel_rfl) (by kernel_rfl) (by kernel_rfl) (fun _ _ _ h => h) (Or.inr ⟨by rfl, rfl⟩) (HQ11.out _ _ HS.out) ?_
      try simp only [putU]
      refine wpAnyH_take (i := 13) (v := undef) rfl (by kernel_rfl) (by kernel_rfl) (by kernel_rfl) (fun _ _ _ h => h) (Or.inr ⟨by rfl, rfl⟩) (HQ11.out _ _ HS.out) ?_
      try simp only [putU]
      refine wpAnyH_take (i := 14) (v := undef) rfl (by kernel_rfl) (by kernel_rfl) (by kernel_rfl) (fun _ _ _ h => h) (Or.inr ⟨by rfl, rfl⟩) (HQ11.out _ _ HS.out) ?_
      try simp only [putU]
      refine wpAnyH_take (i := 15) (v := undef) rfl (by kernel_rfl) (by kernel_rfl) (by kernel_rfl) (fun _ _ _ h => h) (Or.inr ⟨by rfl, rfl⟩) (HQ11.out _ _ HS.out) ?_
      try simp only [putU]
      refine wpAnyH_take (i := 16) (v := undef) rfl (by kernel_rfl) (by kernel_rfl) (by kernel_rfl) (fun _ _ _ h => h) (Or.inr ⟨by rfl, rfl⟩) (HQ11.out _ _ HS.out) ?_
      try simp only [putU]
      refine wpAnyH_take (i := 17) (v := undef) rfl (by kernel_rfl) (by kernel_rfl) (by kernel_rfl) (fun _ _ _ h => h) (Or.inr ⟨by rfl, rfl⟩) (HQ11.out _ _ HS.out) ?_
      try simp only [putU]
      refine wpAnyH_take (i := 18) (v := undef) rfl (by kernel_rfl) (by kernel_rfl) (by kernel_rfl) (fun _ _ _ h => h) (Or.inr ⟨by rfl, rfl⟩) (HQ11.out _ _ HS.out) ?_
      try simp only [putU]
      refine wpAnyH_take (i := 19) (v := undef) rfl (by kernel_rfl) (by kernel_rfl) (by kernel_rfl) (fun _ _ _ h => h) (Or.inr ⟨by rfl, rfl⟩) (HQ11.out _ _ HS.out) ?_
      try simp only [putU]
      refine wpAnyH_take (i := 20) (v := undef) rfl (by kernel_rfl) (by kernel_rfl) (by kernel_rfl) (fun _ _ _ h => h) (Or.inr ⟨by rfl, rfl⟩) (HQ11.out _ _ HS.out) ?_
      try simp only [putU]
      refine wpAnyH_take (i := 21) (v := undef) rfl (by kernel_rfl) (by kernel_rfl) (by kernel_rfl) (fun _ _ _ h => h) (Or.inr ⟨by rfl, rfl⟩) (HQ11.out _ _ HS.out) ?_
      try simp only [putU]
      refine wpAnyH_take (i := 22) (v := undef) rfl (by kernel_rfl) (by kernel_rfl) (by kernel_rfl) (fun _ _ _ h => h) (Or.inr ⟨by rfl, rfl⟩) (HQ11.out _ _ HS.out) ?_
      try simp only [putU]
      refine wpAnyH_take (i := 23) (v := undef) rfl (by kernel_rfl) (by kernel_rfl) (by kernel_rfl) (fun _ _ _ h => h) (Or.inr ⟨by rfl, rfl⟩) (HQ11.out _ _ HS.out) ?_
      try simp only [putU]
      refine wpAnyH_take (i := 24) (v := undef) rfl (by kernel_rfl) (by kernel_rfl) (by kernel_rfl) (fun _ _ _ h => h) (Or.inr ⟨by rfl, rfl⟩) (HQ11.out _ _ HS.out) ?_
      try simp only [putU]
      refine wpAnyH_take (i := 25) (v := ?_) rfl (by kernel_rfl) (by kernel_rfl) (by kernel_rfl) (fun _ _ _ h => h) (Or.inl ⟨by rfl, ?_⟩) (HQ11.out _ _ HS.out) ?_
      rotate_left
      ·(intro w hSw; (try dsimp only at hSw); go_simp) <;> with_reducible rfl
      try simp only [putU]
      refine wpAnyH_take (i := 26) (v := ?_) rfl (by kernel_rfl) (by kernel_rfl) (by kernel_rfl) (fun _ _ _ h => h) (Or.inl ⟨by rfl, ?_⟩) (HQ11.out _ _ HS.out) ?_
      rotate_left
      ·(intro w hSw; (try dsimp only at hSw); go_simp) <;> with_reducible rfl
      try simp only [putU]
      refine wpAnyH_take (i := 27) (v := undef) rfl (by kernel_rfl) (by kernel_rfl) (by kernel_rfl) (fun _ _ _ h => h) (Or.inr ⟨by rfl, rfl⟩) (HQ11.out _ _ HS.out) ?_
      try simp only [putU]
      refine wpAnyH_take (i := 28) (v := undef) rfl (by kernel_rfl) (by kernel_rfl) (by kernel_rfl) (fun _ _ _ h => h) (Or.inr ⟨by rfl, rfl⟩) (HQ11.out _ _ HS.out) ?_
      try simp only [putU]
      refine wpAnyH_take (i := 29) (v := undef) rfl (by kernel_rfl) (by kernel_rfl) (by kernel_rfl) (fun _ _ _ h => h) (Or.inr ⟨by rfl, rfl⟩) (HQ11.out _ _ HS.out) ?_
      try simp only [putU]
      refine wpAnyH_take (i := 30) (v := undef) rfl (by kernel_rfl) (by kernel_rfl) (by kernel_rfl) (fun _ _ _ h => h) (Or.inr ⟨by rfl, rfl⟩) (HQ11.out _ _ HS.out) ?_
      try simp only [putU]
      refine wpAnyH_take (i := 31) (v := undef) rfl (by kernel_rfl) (by kernel_rfl) (by kernel_rfl) (fun _ _ _ h => h) (Or.inr ⟨by rfl, rfl⟩) (HQ11.out _ _ HS.out) ?_
      try simp only [putU]
      refine wpAnyH_take (i := 32) (v := undef) rfl (by kernel_rfl) (by kernel_rfl) (by kernel_rfl) (fun _ _ _ h => h) (Or.inr ⟨by rfl, rfl⟩) (HQ11.out _ _ HS.out) ?_
      try simp only [putU]
      refine wpAnyH_take (i := 33) (v := undef) rfl (by kernel_rfl) (by kernel_rfl) (by kernel_rfl) (fun _ _ _ h => h) (Or.inr ⟨by rfl, rfl⟩) (HQ11.out _ _ HS.out) ?_
      try simp only [putU]
      refine wpAnyH_take (i := 34) (v := ?_) rfl (by kernel_rfl) (by kernel_rfl) (by kernel_rfl) (fun _ _ _ h => h) (Or.inl ⟨by rfl, ?_⟩) (HQ11.out _ _ HS.out) ?_
      rotate_left
      ·(intro w hSw; (try dsimp only at hSw); go_simp) <;> with_reducible rfl
      try simp only [putU]
      refine wpAnyH_done (by kernel_rfl) ?_ _
      go_wp2_with fail
      go_meet
      exact ⟨by rw [HSK.out] <;> rfl, HS.out⟩
     exact AllReadyH.nil
    | true =>
     by_cases h3 : stj = 2
     ·subst h3
      by_cases h4 : enj < bgi
      ·have HSK : Hid (skips e1 i key m = true) := hid (by rw [HSK0.out]; simp [h4])
       have hb4 : decide (enj < bgi) = true := decide_eq_true h4
       clear HSK0 hmi h4
       refine wp_region_held_drew (S := fun w' => (binOp .eql 167 (.pointer (some ⟨blkOf bs m, 0, none⟩)) (.pointer (some ⟨blkOf bs i, 0, none⟩))).run Tryz.prog w' = .ok (.bool false) w' ∧ w'.cell? ⟨blkOf bs m, 1, none⟩ = some (.int .i64 2) ∧ w'.cell? ⟨blkOf bs m, 4, none⟩ = some (.int .i64 enj) ∧ w'.cell? ⟨blkOf bs i, 3, none⟩ = some (.int .i64 bgi) ∧ w'.cell? ⟨blkOf bs m, 5, none⟩ = some rvj) (by kernel_rfl) (HQ11.out _ _ HR0.out.drew) (fun hHeld => ?_)
       refine wpAnyH_take (i := 0) (v := ?_) rfl (by kernel_rfl) (by kernel_rfl) (by kernel_rfl) (fun _ _ _ h => h) (Or.inl ⟨by rfl, ?_⟩) hHeld ?_
       rotate_left
       ·(intro w hSw; (try dsimp only at hSw); go_simp) <;> with_reducible rfl
       try simp only [putU]
       refine wpAnyH_take (i := 1) (v := ?_) rfl (by kernel_rfl) (by kernel_rfl) (by kernel_rfl) (fun _ _ _ h => h) (Or.inl ⟨by rfl, ?_⟩) hHeld ?_
       rotate_left
       ·(intro w hSw; (try dsimp only at hSw); go_simp) <;> with_reducible rfl
       try simp only [putU]
       refine wpAnyH_take (i := 2) (v := ?_) rfl (by kernel_rfl) (by kernel_rfl) (by kernel_rfl) (fun _ _ _ h => h) (Or.inl ⟨by rfl, ?_⟩) hHeld ?_
       rotate_left
       ·(intro w hSw; (try dsimp only at hSw); go_simp) <;> with_reducible rfl
       try simp only [putU]
       refine wpAnyH_take (i := 3) (v := ?_) rfl (by kernel_rfl) (by kernel_rfl) (by kernel_rfl) (fun _ _ _ h => h) (Or.inl ⟨by rfl, ?_⟩) hHeld ?_
       rotate_left
       ·(intro w hSw; (try dsimp only at hSw); go_simp) <;> with_reducible rfl
       try simp only [putU]
       refine wpAnyH_take (i := 4) (v := ?_) rfl (by kernel_rfl) (by kernel_rfl) (by kernel_rfl) (fun _ _ _ h => h) (Or.inl ⟨by rfl, ?_⟩) hHeld ?_
       rotate_left
       ·(intro w hSw; (try dsimp only at hSw); go_simp) <;> with_reducible rfl
       try simp only [putU]
       have HS := hid HR0.out.drew
       clear hHeld
       refine anyH_world (fun w => Hid (S w0 w _)) HS (fun w1 HS => ?_)
       refine wpAnyH_ready (rs := [5]) (by kernel_rfl) (by simp) ?_
       refine AllReadyH.cons rfl (fun K hK => ?_) ?_
       ·go_simp
        go_wp2_with (go_at_call 150; with_reducible refine (HSTR.out _ HS.out).mono ?_; rintro r w' ⟨rfl, rfl⟩)
        refine hK.out _ _ (HQ11.out _ _ HS.out) (fun _ => ?_)
        clear hK K
        refine wpAnyH_take (i := 6) (v := ?_) rfl (by kernel_rfl) (by kernel_rfl) (by kernel_rfl) (fun _ _ _ h => h) (Or.inl ⟨by rfl, ?_⟩) (HQ11.out _ _ HS.out) ?_
        rotate_left
        ·(intro w hSw; (try dsimp only at hSw); go_simp) <;> with_reducible rfl
        try simp only [putU]
        refine wpAnyH_take (i := 7) (v := ?_) rfl (by kernel_rfl) (by kernel_rfl) (by kernel_rfl) (fun _ _ _ h => h) (Or.inl ⟨by rfl, ?_⟩) (HQ11.out _ _ HS.out) ?_
        rotate_left
        ·(intro w hSw; (try dsimp only at hSw); go_simp) <;> with_reducible rfl
        try simp only [putU]
        refine wpAnyH_take (i := 8) (v := ?_) rfl (by kernel_rfl) (by kernel_rfl) (by kernel_rfl) (fun _ _ _ h => h) (Or.inl ⟨by rfl, ?_⟩) (HQ11.out _ _ HS.out) ?_
        rotate_left
        ·(intro w hSw; (try dsimp only at hSw); go_simp) <;> with_reducible rfl
        try simp only [putU]
        refine wpAnyH_take (i := 9) (v := ?_) rfl (by kernel_rfl) (by kernel_rfl) (by kernel_rfl) (fun _ _ _ h => h) (Or.inl ⟨by rfl, ?_⟩) (HQ11.out _ _ HS.out) ?_
        rotate_left
        ·(intro w hSw; (try dsimp only at hSw); go_simp) <;> with_reducible rfl
        try simp only [putU]
        refine wpAnyH_take (i := 10) (v := ?_) rfl (by kernel_rfl) (by kernel_rfl) (by kernel_rfl) (fun _ _ _ h => h) (Or.inl ⟨by rfl, ?_⟩) (HQ11.out _ _ HS.out) ?_
        rotate_left
        ·(intro w hSw; (try dsimp only at hSw); go_simp) <;> with_reducible rfl
        try simp only [putU]
        refine wpAnyH_take (i := 11) (v := ?_) rfl (by kernel_rfl) (by kernel_rfl) (by kernel_rfl) (fun _ _ _ h => h) (Or.inl ⟨by rfl, ?_⟩) (HQ11.out _ _ HS.out) ?_
        rotate_left
        ·(intro w hSw; (try dsimp only at hSw); go_simp) <;> with_reducible rfl
        try simp only [putU]
        refine wpAnyH_take (i := 12) (v := ?_) rfl (by kernel_rfl) (by kernel_rfl) (by kernel_rfl) (fun _ _ _ h => h) (Or.inl ⟨by rfl, ?_⟩) (HQ11.out _ _ HS.out) ?_
        rotate_left
        ·(intro w hSw; (try dsimp only at hSw); go_simp) <;> with_reducible rfl
        try simp only [putU]
        refine wpAnyH_take (i := 13) (v := ?_) rfl (by kernel_rfl) (by kernel_rfl) (by kernel_rfl) (fun _ _ _ h => h) (Or.inl ⟨by rfl, ?_⟩) (HQ11.out _ _ HS.out) ?_
        rotate_left
        ·(intro w hSw; (try dsimp only at hSw); go_simp) <;> with_reducible rfl
        try simp only [putU]
        refine wpAnyH_take (i := 14) (v := ?_) rfl (by kernel_rfl) (by kernel_rfl) (by kernel_rfl) (fun _ _ _ h => h) (Or.inl ⟨by rfl, ?_⟩) (HQ11.out _ _ HS.out) ?_
        rotate_left
        ·(intro w hSw; (try dsimp only at hSw); go_simp) <;> with_reducible rfl
        try simp only [putU]
        refine wpAnyH_take (i := 15) (v := ?_) rfl (by kernel_rfl) (by kernel_rfl) (by kernel_rfl) (fun _ _ _ h => h) (Or.inl ⟨by rfl, ?_⟩) (HQ11.out _ _ HS.out) ?_
        rotate_left
        ·(intro w hSw; (try dsimp only at hSw); go_simp) <;> with_reducible rfl
        try simp only [putU]
        refine wpAnyH_take (i := 16) (v := ?_) rfl (by kernel_rfl) (by kernel_rfl) (by kernel_rfl) (fun _ _ _ h => h) (Or.inl ⟨by rfl, ?_⟩) (HQ11.out _ _ HS.out) ?_
        rotate_left
        ·(intro w hSw; (try dsimp only at hSw); go_simp) <;> with_reducible rfl
        try simp only [putU]
        refine wpAnyH_take (i := 17) (v := ?_) rfl (by kernel_rfl) (by kernel_rfl) (by kernel_rfl) (fun _ _ _ h => h) (Or.inl ⟨by rfl, ?_⟩) (HQ11.out _ _ HS.out) ?_
        rotate_left
        ·(intro w hSw; (try dsimp only at hSw); go_simp) <;> with_reducible rfl
        try simp only [putU]
        refine wpAnyH_take (i := 18) (v := ?_) rfl (by kernel_rfl) (by kernel_rfl) (by kernel_rfl) (fun _ _ _ h => h) (Or.inl ⟨by rfl, ?_⟩) (HQ11.out _ _ HS.out) ?_
        rotate_left
        ·(intro w hSw; (try dsimp only at hSw); go_simp) <;> with_reducible rfl
        try simp only [putU]
        refine wpAnyH_take (i := 19) (v := ?_) rfl (by kernel_rfl) (by kernel_rfl) (by kernel_rfl) (fun _ _ _ h => h) (Or.inl ⟨by rfl, ?_⟩) (HQ11.out _ _ HS.out) ?_
        rotate_left
        ·(intro w hSw; (try dsimp only at hSw); go_simp) <;> with_reducible rfl
        try simp only [putU]
        refine wpAnyH_take (i := 20) (v := ?_) rfl (by kernel_rfl) (by kernel_rfl) (by kernel_rfl) (fun _ _ _ h => h) (Or.inl ⟨by rfl, ?_⟩) (HQ11.out _ _ HS.out) ?_
        rotate_left
        ·(intro w hSw; (try dsimp only at hSw); go_simp) <;> with_reducible rfl
        try simp only [putU]
        refine wpAnyH_take (i := 21) (v := ?_) rfl (by kernel_rfl) (by kernel_rfl) (by kernel_rfl) (fun _ _ _ h => h) (Or.inl ⟨by rfl, ?_⟩) (HQ11.out _ _ HS.out) ?_
        rotate_left
        ·(intro w hSw; (try dsimp only at hSw); go_simp) <;> with_reducible rfl
        try simp only [putU]
        refine wpAnyH_take (i := 22) (v := ?_) rfl (by kernel_rfl) (by kernel_rfl) (by kernel_rfl) (fun _ _ _ h => h) (Or.inl ⟨by rfl, ?_⟩) (HQ11.out _ _ HS.out) ?_
        rotate_left
        ·(intro w hSw; (try dsimp only at hSw); go_simp) <;> with_reducible rfl
        try simp only [putU]
        refine wpAnyH_take (i := 23) (v := ?_) rfl (by kernel_rfl) (by kernel_rfl) (by kernel_rfl) (fun _ _ _ h => h) (Or.inl ⟨by rfl, ?_⟩) (HQ11.out _ _ HS.out) ?_
        rotate_left
        ·(intro w hSw; (try dsimp only at hSw); go_simp) <;> with_reducible rfl
        try simp only [putU]
        refine wpAnyH_take (i := 24) (v := ?_) rfl (by kernel_rfl) (by kernel_rfl) (by kernel_rfl) (fun _ _ _ h => h) (Or.inl ⟨by rfl, ?_⟩) (HQ11.out _ _ HS.out) ?_
        rotate_left
        ·(intro w hSw; (try dsimp only at hSw); go_simp) <;> with_reducible rfl
        try simp only [putU]
        refine wpAnyH_take (i := 25) (v := ?_) rfl (by kernel_rfl) (by kernel_rfl) (by kernel_rfl) (fun _ _ _ h => h) (Or.inl ⟨by rfl, ?_⟩) (HQ11.out _ _ HS.out) ?_
        rotate_left
        ·(intro w hSw; (try dsimp only at hSw); go_simp) <;> with_reducible rfl
        try simp only [putU]
        refine wpAnyH_take (i := 26) (v := ?_) rfl (by kernel_rfl) (by kernel_rfl) (by kernel_rfl) (fun _ _ _ h => h) (Or.inl ⟨by rfl, ?_⟩) (HQ11.out _ _ HS.out) ?_
        rotate_left
        ·(intro w hSw; (try dsimp only at hSw); go_simp) <;> with_reducible rfl
        try simp only [putU]
        refine wpAnyH_take (i := 27) (v := undef) rfl (by kernel_rfl) (by kernel_rfl) (by kernel_rfl) (fun _ _ _ h => h) (Or.inr ⟨by rfl, rfl⟩) (HQ11.out _ _ HS.out) ?_
        try simp only [putU]
        refine wpAnyH_take (i := 28) (v := undef) rfl (by kernel_rfl) (by kernel_rfl) (by kernel_rfl) (fun _ _ _ h => h) (Or.inr ⟨by rfl, rfl⟩) (HQ11.out _ _ HS.out) ?_
        try simp only [putU]
        refine wpAnyH_take (i := 29) (v := undef) rfl (by kernel_rfl) (by kernel_rfl) (by kernel_rfl) (fun _ _ _ h => h) (Or.inr ⟨by rfl, rfl⟩) (HQ11.out _ _ HS.out) ?_
        try simp only [putU]
        refine wpAnyH_take (i := 30) (v := undef) rfl (by kernel_rfl) (by kernel_rfl) (by kernel_rfl) (fun _ _ _ h => h) (Or.inr ⟨by rfl, rfl⟩) (HQ11.out _ _ HS.out) ?_
        try simp only [putU]
        refine wpAnyH_take (i := 31) (v := undef) rfl (by kernel_rfl) (by kernel_rfl) (by kernel_rfl) (fun _ _ _ h => h) (Or.inr ⟨by rfl, rfl⟩) (HQ11.out _ _ HS.out) ?_
        try simp only [putU]
        refine wpAnyH_take (i := 32) (v := undef) rfl (by kernel_rfl) (by kernel_rfl) (by kernel_rfl) (fun _ _ _ h => h) (Or.inr ⟨by rfl, rfl⟩) (HQ11.out _ _ HS.out) ?_
        try simp only [putU]
        refine wpAnyH_take (i := 33) (v := undef) rfl (by kernel_rfl) (by kernel_rfl) (by kernel_rfl) (fun _ _ _ h => h) (Or.inr ⟨by rfl, rfl⟩) (HQ11.out _ _ HS.out) ?_
        try simp only [putU]
        refine wpAnyH_take (i := 34) (v := ?_) rfl (by kernel_rfl) (by kernel_rfl) (by kernel_rfl) (fun _ _ _ h => h) (Or.inl ⟨by rfl, ?_⟩) (HQ11.out _ _ HS.out) ?_
        rotate_left
        ·(intro w hSw; (try dsimp only at hSw); go_simp) <;> with_reducible rfl
        try simp only [putU]
        refine wpAnyH_done (by kernel_rfl) ?_ _
        go_wp2_with fail
        go_meet
        exact ⟨by rw [HSK.out] <;> rfl, HS.out⟩
       exact AllReadyH.nil
      ·have HSK : Hid (skips e1 i key m = !sk) := hid (by rw [HSK0.out]; simp [h4, hmi])
       have hb4 : decide (enj < bgi) = false := decide_eq_false h4
       clear HSK0 hmi h4
       refine wp_region_held_drew (S := fun w' => (binOp .eql 167 (.pointer (some ⟨blkOf bs m, 0, none⟩)) (.pointer (some ⟨blkOf bs i, 0, none⟩))).run Tryz.prog w' = .ok (.bool false) w' ∧ w'.cell? ⟨blkOf bs m, 1, none⟩ = some (.int .i64 2) ∧ w'.cell? ⟨blkOf bs m, 4, none⟩ = some (.int .i64 enj) ∧ w'.cell? ⟨blkOf bs i, 3, none⟩ = some (.int .i64 bgi) ∧ w'.cell? ⟨blkOf bs m, 5, none⟩ = some rvj) (by kernel_rfl) (HQ11.out _ _ HR0.out.drew) (fun hHeld => ?_)
       refine wpAnyH_take (i := 0) (v := ?_) rfl (by kernel_rfl) (by kernel_rfl) (by kernel_rfl) (fun _ _ _ h => h) (Or.inl ⟨by rfl, ?_⟩) hHeld ?_
       rotate_left
       ·(intro w hSw; (try dsimp only at hSw); go_simp) <;> with_reducible rfl
       try simp only [putU]
       refine wpAnyH_take (i := 1) (v := ?_) rfl (by kernel_rfl) (by kernel_rfl) (by kernel_rfl) (fun _ _ _ h => h) (Or.inl ⟨by rfl, ?_⟩) hHeld ?_
       rotate_left
       ·(intro w hSw; (try dsimp only at hSw); go_simp) <;> with_reducible rfl
       try simp only [putU]
       refine wpAnyH_take (i := 2) (v := ?_) rfl (by kernel_rfl) (by kernel_rfl) (by kernel_rfl) (fun _ _ _ h => h) (Or.inl ⟨by rfl, ?_⟩) hHeld ?_
       rotate_left
       ·(intro w hSw; (try dsimp only at hSw); go_simp) <;> with_reducible rfl
       try simp only [putU]
       refine wpAnyH_take (i := 3) (v := ?_) rfl (by kernel_rfl) (by kernel_rfl) (by kernel_rfl) (fun _ _ _ h => h) (Or.inl ⟨by rfl, ?_⟩) hHeld ?_
       rotate_left
       ·(intro w hSw; (try dsimp only at hSw); go_simp) <;> with_reducible rfl
       try simp only [putU]
       refine wpAnyH_take (i := 4) (v := ?_) rfl (by kernel_rfl) (by kernel_rfl) (by kernel_rfl) (fun _ _ _ h => h) (Or.inl ⟨by rfl, ?_⟩) hHeld ?_
       rotate_left
       ·(intro w hSw; (try dsimp only at hSw); go_simp) <;> with_reducible rfl
       try simp only [putU]
       have HS := hid HR0.out.drew
       clear hHeld
       refine anyH_world (fun w => Hid (S w0 w _)) HS (fun w1 HS => ?_)
       refine wpAnyH_ready (rs := [5]) (by kernel_rfl) (by simp) ?_
       refine AllReadyH.cons rfl (fun K hK => ?_) ?_
       ·go_simp
        go_wp2_with (go_at_call 150; with_reducible refine (HSTR.out _ HS.out).mono ?_; rintro r w' ⟨rfl, rfl⟩)
        refine hK.out _ _ (HQ11.out _ _ HS.out) (fun _ => ?_)
        clear hK K
        refine wpAnyH_take (i := 6) (v := ?_) rfl (by kernel_rfl) (by kernel_rfl) (by kernel_rfl) (fun _ _ _ h => h) (Or.inl ⟨by rfl, ?_⟩) (HQ11.out _ _ HS.out) ?_
        rotate_left
        ·(intro w hSw; (try dsimp only at hSw); go_simp) <;> with_reducible rfl
        try simp only [putU]
        refine wpAnyH_take (i := 7) (v := ?_) rfl (by kernel_rfl) (by kernel_rfl) (by kernel_rfl) (fun _ _ _ h => h) (Or.inl ⟨by rfl, ?_⟩) (HQ11.out _ _ HS.out) ?_
        rotate_left
        ·(intro w hSw; (try dsimp only at hSw); go_simp) <;> with_reducible rfl
        try simp only [putU]
        refine wpAnyH_take (i := 8) (v := ?_) rfl (by kernel_rfl) (by kernel_rfl) (by kernel_rfl) (fun _ _ _ h => h) (Or.inl ⟨by rfl, ?_⟩) (HQ11.out _ _ HS.out) ?_
        rotate_left
        ·(intro w hSw; (try dsimp only at hSw); go_simp) <;> with_reducible rfl
        try simp only [putU]
        refine wpAnyH_take (i := 9) (v := ?_) rfl (by kernel_rfl) (by kernel_rfl) (by kernel_rfl) (fun _ _ _ h => h) (Or.inl ⟨by rfl, ?_⟩) (HQ11.out _ _ HS.out) ?_
        rotate_left
        ·(intro w hSw; (try dsimp only at hSw); go_simp) <;> with_reducible rfl
        try simp only [putU]
        refine wpAnyH_take (i := 10) (v := ?_) rfl (by kernel_rfl) (by kernel_rfl) (by kernel_rfl) (fun _ _ _ h => h) (Or.inl ⟨by rfl, ?_⟩) (HQ11.out _ _ HS.out) ?_
        rotate_left
        ·(intro w hSw; (try dsimp only at hSw); go_simp) <;> with_reducible rfl
        try simp only [putU]
        refine wpAnyH_take (i := 11) (v := ?_) rfl (by kernel_rfl) (by kernel_rfl) (by kernel_rfl) (fun _ _ _ h => h) (Or.inl ⟨by rfl, ?_⟩) (HQ11.out _ _ HS.out) ?_
        rotate_left
        ·(intro w hSw; (try dsimp only at hSw); go_simp) <;> with_reducible rfl
        try simp only [putU]
        refine wpAnyH_take (i := 12) (v := ?_) rfl (by kernel_rfl) (by kernel_rfl) (by kernel_rfl) (fun _ _ _ h => h) (Or.inl ⟨by rfl, ?_⟩) (HQ11.out _ _ HS.out) ?_
        rotate_left
        ·(intro w hSw; (try dsimp only at hSw); go_simp) <;> with_reducible rfl
        try simp only [putU]
        refine wpAnyH_take (i := 13) (v := ?_) rfl (by kernel_rfl) (by kernel_rfl) (by kernel_rfl) (fun _ _ _ h => h) (Or.inl ⟨by rfl, ?_⟩) (HQ11.out _ _ HS.out) ?_
        rotate_left
        ·(intro w hSw; (try dsimp only at hSw); go_simp) <;> with_reducible rfl
        try simp only [putU]
        refine wpAnyH_take (i := 14) (v := ?_) rfl (by kernel_rfl) (by kernel_rfl) (by kernel_rfl) (fun _ _ _ h => h) (Or.inl ⟨by rfl, ?_⟩) (HQ11.out _ _ HS.out) ?_
        rotate_left
        ·(intro w hSw; (try dsimp only at hSw); go_simp) <;> with_reducible rfl
        try simp only [putU]
        refine wpAnyH_take (i := 15) (v := ?_) rfl (by kernel_rfl) (by kernel_rfl) (by kernel_rfl) (fun _ _ _ h => h) (Or.inl ⟨by rfl, ?_⟩) (HQ11.out _ _ HS.out) ?_
        rotate_left
        ·(intro w hSw; (try dsimp only at hSw); go_simp) <;> with_reducible rfl
        try simp only [putU]
        refine wpAnyH_take (i := 16) (v := ?_) rfl (by kernel_rfl) (by kernel_rfl) (by kernel_rfl) (fun _ _ _ h => h) (Or.inl ⟨by rfl, ?_⟩) (HQ11.out _ _ HS.out) ?_
        rotate_left
        ·(intro w hSw; (try dsimp only at hSw); go_simp) <;> with_reducible rfl
        try simp only [putU]
        refine wpAnyH_take (i := 17) (v := ?_) rfl (by kernel_rfl) (by kernel_rfl) (by kernel_rfl) (fun _ _ _ h => h) (Or.inl ⟨by rfl, ?_⟩) (HQ11.out _ _ HS.out) ?_
        rotate_left
        ·(intro w hSw; (try dsimp only at hSw); go_simp) <;> with_reducible rfl
        try simp only [putU]
        refine wpAnyH_take (i := 18) (v := ?_) rfl (by kernel_rfl) (by kernel_rfl) (by kernel_rfl) (fun _ _ _ h => h) (Or.inl ⟨by rfl, ?_⟩) (HQ11.out _ _ HS.out) ?_
        rotate_left
        ·(intro w hSw; (try dsimp only at hSw); go_simp) <;> with_reducible rfl
        try simp only [putU]
        refine wpAnyH_take (i := 19) (v := ?_) rfl (by kernel_rfl) (by kernel_rfl) (by kernel_rfl) (fun _ _ _ h => h) (Or.inl ⟨by rfl, ?_⟩) (HQ11.out _ _ HS.out) ?_
        rotate_left
        ·(intro w hSw; (try dsimp only at hSw); go_simp) <;> with_reducible rfl
        try simp only [putU]
        refine wpAnyH_take (i := 20) (v := ?_) rfl (by kernel_rfl) (by kernel_rfl) (by kernel_rfl) (fun _ _ _ h => h) (Or.inl ⟨by rfl, ?_⟩) (HQ11.out _ _ HS.out) ?_
        rotate_left
        ·(intro w hSw; (try dsimp only at hSw); go_simp) <;> with_reducible rfl
        try simp only [putU]
        refine wpAnyH_take (i := 21) (v := ?_) rfl (by kernel_rfl) (by kernel_rfl) (by kernel_rfl) (fun _ _ _ h => h) (Or.inl ⟨by rfl, ?_⟩) (HQ11.out _ _ HS.out) ?_
        rotate_left
        ·(intro w hSw; (try dsimp only at hSw); go_simp) <;> with_reducible rfl
        try simp only [putU]
        refine wpAnyH_take (i := 22) (v := ?_) rfl (by kernel_rfl) (by kernel_rfl) (by kernel_rfl) (fun _ _ _ h => h) (Or.inl ⟨by rfl, ?_⟩) (HQ11.out _ _ HS.out) ?_
        rotate_left
        ·(intro w hSw; (try dsimp only at hSw); go_simp) <;> with_reducible rfl
        try simp only [putU]
        refine wpAnyH_take (i := 23) (v := ?_) rfl (by kernel_rfl) (by kernel_rfl) (by kernel_rfl) (fun _ _ _ h => h) (Or.inl ⟨by rfl, ?_⟩) (HQ11.out _ _ HS.out) ?_
        rotate_left
        ·(intro w hSw; (try dsimp only at hSw); go_simp) <;> with_reducible rfl
        try simp only [putU]
        refine wpAnyH_take (i := 24) (v := ?_) rfl (by kernel_rfl) (by kernel_rfl) (by kernel_rfl) (fun _ _ _ h => h) (Or.inl ⟨by rfl, ?_⟩) (HQ11.out _ _ HS.out) ?_
        rotate_left
        ·(intro w hSw; (try dsimp only at hSw); go_simp) <;> with_reducible rfl
        try simp only [putU]
        refine wpAnyH_take (i := 25) (v := ?_) rfl (by kernel_rfl) (by kernel_rfl) (by kernel_rfl) (fun _ _ _ h => h) (Or.inl ⟨by rfl, ?_⟩) (HQ11.out _ _ HS.out) ?_
        rotate_left
        ·(intro w hSw; (try dsimp only at hSw); go_simp) <;> with_reducible rfl
        try simp only [putU]
        refine wpAnyH_take (i := 26) (v := ?_) rfl (by kernel_rfl) (by kernel_rfl) (by kernel_rfl) (fun _ _ _ h => h) (Or.inl ⟨by rfl, ?_⟩) (HQ11.out _ _ HS.out) ?_
        rotate_left
        ·(intro w hSw; (try dsimp only at hSw); go_simp) <;> with_reducible rfl
        try simp only [putU]
        refine wpAnyH_take (i := 27) (v := ?_) rfl (by kernel_rfl) (by kernel_rfl) (by kernel_rfl) (fun _ _ _ h => h) (Or.inl ⟨by rfl, ?_⟩) (HQ11.out _ _ HS.out) ?_
        rotate_left
        ·(intro w hSw; (try dsimp only at hSw); go_simp) <;> with_reducible rfl
        try simp only [putU]
        refine wpAnyH_take (i := 28) (v := ?_) rfl (by kernel_rfl) (by kernel_rfl) (by kernel_rfl) (fun _ _ _ h => h) (Or.inl ⟨by rfl, ?_⟩) (HQ11.out _ _ HS.out) ?_
        rotate_left
        ·(intro w hSw; (try dsimp only at hSw); go_simp) <;> with_reducible rfl
        try simp only [putU]
        refine wpAnyH_take (i := 29) (v := ?_) rfl (by kernel_rfl) (by kernel_rfl) (by kernel_rfl) (fun _ _ _ h => h) (Or.inl ⟨by rfl, ?_⟩) (HQ11.out _ _ HS.out) ?_
        rotate_left
        ·(intro w hSw; (try dsimp only at hSw); go_simp) <;> with_reducible rfl
        try simp only [putU]
        refine wpAnyH_take (i := 30) (v := ?_) rfl (by kernel_rfl) (by kernel_rfl) (by kernel_rfl) (fun _ _ _ h => h) (Or.inl ⟨by rfl, ?_⟩) (HQ11.out _ _ HS.out) ?_
        rotate_left
        ·(intro w hSw; (try dsimp only at hSw); go_simp) <;> with_reducible rfl
        try simp only [putU]
        refine wpAnyH_take (i := 31) (v := ?_) rfl (by kernel_rfl) (by kernel_rfl) (by kernel_rfl) (fun _ _ _ h => h) (Or.inl ⟨by rfl, ?_⟩) (HQ11.out _ _ HS.out) ?_
        rotate_left
        ·(intro w hSw; (try dsimp only at hSw); go_simp) <;> with_reducible rfl
        try simp only [putU]
        refine wpAnyH_ready (rs := [32]) (by kernel_rfl) (by simp) ?_
        refine AllReadyH.cons rfl (fun K hK => ?_) ?_
        ·go_simp
         go_wp2_with (go_at_call 154; with_reducible refine (HCON.out _ HS.out).mono ?_; rintro r w9 ⟨rfl, hs9⟩; replace HS := hid hs9; clear hs9)
         refine hK.out _ _ (HQ11.out _ _ HS.out) (fun _ => ?_)
         clear hK K
         refine wpAnyH_take (i := 33) (v := ?_) rfl (by kernel_rfl) (by kernel_rfl) (by kernel_rfl) (fun _ _ _ h => h) (Or.inl ⟨by rfl, ?_⟩) (HQ11.out _ _ HS.out) ?_
         rotate_left
         ·(intro w hSw; (try dsimp only at hSw); go_simp) <;> with_reducible rfl
         try simp only [putU]
         refine wpAnyH_take (i := 34) (v := ?_) rfl (by kernel_rfl) (by kernel_rfl) (by kernel_rfl) (fun _ _ _ h => h) (Or.inl ⟨by rfl, ?_⟩) (HQ11.out _ _ HS.out) ?_
         rotate_left
         ·(intro w hSw; (try dsimp only at hSw); go_simp) <;> with_reducible rfl
         try simp only [putU]
         refine wpAnyH_done (by kernel_rfl) ?_ _
         go_wp2_with fail
         go_meet
         exact ⟨by rw [HSK.out] <;> rfl, HS.out⟩
        exact AllReadyH.nil
       exact AllReadyH.nil
     ·have HSK : Hid (skips e1 i key m = !sk) := hid (by rw [HSK0.out]; simp [h3, hmi])
      have hb3 : (stj == 2) = false := by simpa using h3
      clear HSK0 hmi h3
      refine wp_region_held_drew (S := fun w' => (binOp .eql 167 (.pointer (some ⟨blkOf bs m, 0, none⟩)) (.pointer (some ⟨blkOf bs i, 0, none⟩))).run Tryz.prog w' = .ok (.bool false) w' ∧ w'.cell? ⟨blkOf bs m, 1, none⟩ = some (.int .i64 stj) ∧ w'.cell? ⟨blkOf bs m, 4, none⟩ = some (.int .i64 enj) ∧ w'.cell? ⟨blkOf bs i, 3, none⟩ = some (.int .i64 bgi) ∧ w'.cell? ⟨blkOf bs m, 5, none⟩ = some rvj) (by kernel_rfl) (HQ11.out _ _ HR0.out.drew) (fun hHeld => ?_)
      refine wpAnyH_take (i := 0) (v := ?_) rfl (by kernel_rfl) (by kernel_rfl) (by kernel_rfl) (fun _ _ _ h => h) (Or.inl ⟨by rfl, ?_⟩) hHeld ?_
      rotate_left
      ·(intro w hSw; (try dsimp only at hSw); go_simp) <;> with_reducible rfl
      try simp only [putU]
      refine wpAnyH_take (i := 1) (v := ?_) rfl (by kernel_rfl) (by kernel_rfl) (by kernel_rfl) (fun _ _ _ h => h) (Or.inl ⟨by rfl, ?_⟩) hHeld ?_
      rotate_left
      ·(intro w hSw; (try dsimp only at hSw); go_simp) <;> with_reducible rfl
      try simp only [putU]
      refine wpAnyH_take (i := 2) (v := ?_) rfl (by kernel_rfl) (by kernel_rfl) (by kernel_rfl) (fun _ _ _ h => h) (Or.inl ⟨by rfl, ?_⟩) hHeld ?_
      rotate_left
      ·(intro w hSw; (try dsimp only at hSw); go_simp) <;> with_reducible rfl
      try simp only [putU]
      refine wpAnyH_take (i := 3) (v := ?_) rfl (by kernel_rfl) (by kernel_rfl) (by kernel_rfl) (fun _ _ _ h => h) (Or.inl ⟨by rfl, ?_⟩) hHeld ?_
      rotate_left
      ·(intro w hSw; (try dsimp only at hSw); go_simp) <;> with_reducible rfl
      try simp only [putU]
      refine wpAnyH_take (i := 4) (v := ?_) rfl (by kernel_rfl) (by kernel_rfl) (by kernel_rfl) (fun _ _ _ h => h) (Or.inl ⟨by rfl, ?_⟩) hHeld ?_
      rotate_left
      ·(intro w hSw; (try dsimp only at hSw); go_simp) <;> with_reducible rfl
      try simp only [putU]
      have HS := hid HR0.out.drew
      clear hHeld
      refine anyH_world (fun w => Hid (S w0 w _)) HS (fun w1 HS => ?_)
      refine wpAnyH_ready (rs := [5]) (by kernel_rfl) (by simp) ?_
      refine AllReadyH.cons rfl (fun K hK => ?_) ?_
      ·go_simp
       go_wp2_with (go_at_call 150; with_reducible refine (HSTR.out _ HS.out).mono ?_; rintro r w' ⟨rfl, rfl⟩)
       refine hK.out _ _ (HQ11.out _ _ HS.out) (fun _ => ?_)
       clear hK K
       refine wpAnyH_take (i := 6) (v := ?_) rfl (by kernel_rfl) (by kernel_rfl) (by kernel_rfl) (fun _ _ _ h => h) (Or.inl ⟨by rfl, ?_⟩) (HQ11.out _ _ HS.out) ?_
       rotate_left
       ·(intro w hSw; (try dsimp only at hSw); go_simp) <;> with_reducible rfl
       try simp only [putU]
       refine wpAnyH_take (i := 7) (v := ?_) rfl (by kernel_rfl) (by kernel_rfl) (by kernel_rfl) (fun _ _ _ h => h) (Or.inl ⟨by rfl, ?_⟩) (HQ11.out _ _ HS.out) ?_
       rotate_left
       ·(intro w hSw; (try dsimp only at hSw); go_simp) <;> with_reducible rfl
       try simp only [putU]
       refine wpAnyH_take (i := 8) (v := ?_) rfl (by kernel_rfl) (by kernel_rfl) (by kernel_rfl) (fun _ _ _ h => h) (Or.inl ⟨by rfl, ?_⟩) (HQ11.out _ _ HS.out) ?_
       rotate_left
       ·(intro w hSw; (try dsimp only at hSw); go_simp) <;> with_reducible rfl
       try simp only [putU]
       refine wpAnyH_take (i := 9) (v := ?_) rfl (by kernel_rfl) (by kernel_rfl) (by kernel_rfl) (fun _ _ _ h => h) (Or.inl ⟨by rfl, ?_⟩) (HQ11.out _ _ HS.out) ?_
       rotate_left
       ·(intro w hSw; (try dsimp only at hSw); go_simp) <;> with_reducible rfl
       try simp only [putU]
       refine wpAnyH_take (i := 10) (v := ?_) rfl (by kernel_rfl) (by kernel_rfl) (by kernel_rfl) (fun _ _ _ h => h) (Or.inl ⟨by rfl, ?_⟩) (HQ11.out _ _ HS.out) ?_
       rotate_left
       ·(intro w hSw; (try dsimp only at hSw); go_simp) <;> with_reducible rfl
       try simp only [putU]
       refine wpAnyH_take (i := 11) (v := ?_) rfl (by kernel_rfl) (by kernel_rfl) (by kernel_rfl) (fun _ _ _ h => h) (Or.inl ⟨by rfl, ?_⟩) (HQ11.out _ _ HS.out) ?_
       rotate_left
       ·(intro w hSw; (try dsimp only at hSw); go_simp) <;> with_reducible rfl
       try simp only [putU]
       refine wpAnyH_take (i := 12) (v := ?_) rfl (by kernel_rfl) (by kernel_rfl) (by kernel_rfl) (fun _ _ _ h => h) (Or.inl ⟨by rfl, ?_⟩) (HQ11.out _ _ HS.out) ?_
       rotate_left
       ·(intro w hSw; (try dsimp only at hSw); go_simp) <;> with_reducible rfl
       try simp only [putU]
       refine wpAnyH_take (i := 13) (v := ?_) rfl (by kernel_rfl) (by kernel_rfl) (by kernel_rfl) (fun _ _ _ h => h) (Or.inl ⟨by rfl, ?_⟩) (HQ11.out _ _ HS.out) ?_
       rotate_left
       ·(intro w hSw; (try dsimp only at hSw); go_simp) <;> with_reducible rfl
       try simp only [putU]
       refine wpAnyH_take (i := 14) (v := ?_) rfl (by kernel_rfl) (by kernel_rfl) (by kernel_rfl) (fun _ _ _ h => h) (Or.inl ⟨by rfl, ?_⟩) (HQ11.out _ _ HS.out) ?_
       rotate_left
       ·(intro w hSw; (try dsimp only at hSw); go_simp) <;> with_reducible rfl
       try simp only [putU]
       refine wpAnyH_take (i := 15) (v := undef) rfl (by kernel_rfl) (by kernel_rfl) (by kernel_rfl) (fun _ _ _ h => h) (Or.inr ⟨by rfl, rfl⟩) (HQ11.out _ _ HS.out) ?_
       try simp only [putU]
       refine wpAnyH_take (i := 16) (v := undef) rfl (by kernel_rfl) (by kernel_rfl) (by kernel_rfl) (fun _ _ _ h => h) (Or.inr ⟨by rfl, rfl⟩) (HQ11.out _ _ HS.out) ?_
       try simp only [putU]
       refine wpAnyH_take (i := 17) (v := undef) rfl (by kernel_rfl) (by kernel_rfl) (by kernel_rfl) (fun _ _ _ h => h) (Or.inr ⟨by rfl, rfl⟩) (HQ11.out _ _ HS.out) ?_
       try simp only [putU]
       refine wpAnyH_take (i := 18) (v := undef) rfl (by kernel_rfl) (by kernel_rfl) (by kernel_rfl) (fun _ _ _ h => h) (Or.inr ⟨by rfl, rfl⟩) (HQ11.out _ _ HS.out) ?_
       try simp only [putU]
       refine wpAnyH_take (i := 19) (v := undef) rfl (by kernel_rfl) (by kernel_rfl) (by kernel_rfl) (fun _ _ _ h => h) (Or.inr ⟨by rfl, rfl⟩) (HQ11.out _ _ HS.out) ?_
       try simp only [putU]
       refine wpAnyH_take (i := 20) (v := undef) rfl (by kernel_rfl) (by kernel_rfl) (by kernel_rfl) (fun _ _ _ h => h) (Or.inr ⟨by rfl, rfl⟩) (HQ11.out _ _ HS.out) ?_
       try simp only [putU]
       refine wpAnyH_take (i := 21) (v := undef) rfl (by kernel_rfl) (by kernel_rfl) (by kernel_rfl) (fun _ _ _ h => h) (Or.inr ⟨by rfl, rfl⟩) (HQ11.out _ _ HS.out) ?_
       try simp only [putU]
       refine wpAnyH_take (i := 22) (v := undef) rfl (by kernel_rfl) (by kernel_rfl) (by kernel_rfl) (fun _ _ _ h => h) (Or.inr ⟨by rfl, rfl⟩) (HQ11.out _ _ HS.out) ?_
       try simp only [putU]
       refine wpAnyH_take (i := 23) (v := undef) rfl (by kernel_rfl) (by kernel_rfl) (by kernel_rfl) (fun _ _ _ h => h) (Or.inr ⟨by rfl, rfl⟩) (HQ11.out _ _ HS.out) ?_
       try simp only [putU]
       refine wpAnyH_take (i := 24) (v := ?_) rfl (by kernel_rfl) (by kernel_rfl) (by kernel_rfl) (fun _ _ _ h => h) (Or.inl ⟨by rfl, ?_⟩) (HQ11.out _ _ HS.out) ?_
       rotate_left
       ·(intro w hSw; (try dsimp only at hSw); go_simp) <;> with_reducible rfl
       try simp only [putU]
       refine wpAnyH_take (i := 25) (v := ?_) rfl (by kernel_rfl) (by kernel_rfl) (by kernel_rfl) (fun _ _ _ h => h) (Or.inl ⟨by rfl, ?_⟩) (HQ11.out _ _ HS.out) ?_
       rotate_left
       ·(intro w hSw; (try dsimp only at hSw); go_simp) <;> with_reducible rfl
       try simp only [putU]
       refine wpAnyH_take (i := 26) (v := ?_) rfl (by kernel_rfl) (by kernel_rfl) (by kernel_rfl) (fun _ _ _ h => h) (Or.inl ⟨by rfl, ?_⟩) (HQ11.out _ _ HS.out) ?_
       rotate_left
       ·(intro w hSw; (try dsimp only at hSw); go_simp) <;> with_reducible rfl
       try simp only [putU]
       refine wpAnyH_take (i := 27) (v := ?_) rfl (by kernel_rfl) (by kernel_rfl) (by kernel_rfl) (fun _ _ _ h => h) (Or.inl ⟨by rfl, ?_⟩) (HQ11.out _ _ HS.out) ?_
       rotate_left
       ·(intro w hSw; (try dsimp only at hSw); go_simp) <;> with_reducible rfl
       try simp only [putU]
       refine wpAnyH_take (i := 28) (v := ?_) rfl (by kernel_rfl) (by kernel_rfl) (by kernel_rfl) (fun _ _ _ h => h) (Or.inl ⟨by rfl, ?_⟩) (HQ11.out _ _ HS.out) ?_
       rotate_left
       ·(intro w hSw; (try dsimp only at hSw); go_simp) <;> with_reducible rfl
       try simp only [putU]
       refine wpAnyH_take (i := 29) (v := ?_) rfl (by kernel_rfl) (by kernel_rfl) (by kernel_rfl) (fun _ _ _ h => h) (Or.inl ⟨by rfl, ?_⟩) (HQ11.out _ _ HS.out) ?_
       rotate_left
       ·(intro w hSw; (try dsimp only at hSw); go_simp) <;> with_reducible rfl
       try simp only [putU]
       refine wpAnyH_take (i := 30) (v := ?_) rfl (by kernel_rfl) (by kernel_rfl) (by kernel_rfl) (fun _ _ _ h => h) (Or.inl ⟨by rfl, ?_⟩) (HQ11.out _ _ HS.out) ?_
       rotate_left
       ·(intro w hSw; (try dsimp only at hSw); go_simp) <;> with_reducible rfl
       try simp only [putU]
       refine wpAnyH_take (i := 31) (v := ?_) rfl (by kernel_rfl) (by kernel_rfl) (by kernel_rfl) (fun _ _ _ h => h) (Or.inl ⟨by rfl, ?_⟩) (HQ11.out _ _ HS.out) ?_
       rotate_left
       ·(intro w hSw; (try dsimp only at hSw); go_simp) <;> with_reducible rfl
       try simp only [putU]
       refine wpAnyH_ready (rs := [32]) (by kernel_rfl) (by simp) ?_
       refine AllReadyH.cons rfl (fun K hK => ?_) ?_
       ·go_simp
        go_wp2_with (go_at_call 154; with_reducible refine (HCON.out _ HS.out).mono ?_; rintro r w9 ⟨rfl, hs9⟩; replace HS := hid hs9; clear hs9)
        refine hK.out _ _ (HQ11.out _ _ HS.out) (fun _ => ?_)
        clear hK K
        refine wpAnyH_take (i := 33) (v := ?_) rfl (by kernel_rfl) (by kernel_rfl) (by kernel_rfl) (fun _ _ _ h => h) (Or.inl ⟨by rfl, ?_⟩) (HQ11.out _ _ HS.out) ?_
        rotate_left
        ·(intro w hSw; (try dsimp only at hSw); go_simp) <;> with_reducible rfl
        try simp only [putU]
        refine wpAnyH_take (i := 34) (v := ?_) rfl (by kernel_rfl) (by kernel_rfl) (by kernel_rfl) (fun _ _ _ h => h) (Or.inl ⟨by rfl, ?_⟩) (HQ11.out _ _ HS.out) ?_
        rotate_left
        ·(intro w hSw; (try dsimp only at hSw); go_simp) <;> with_reducible rfl
        try simp only [putU]
        refine wpAnyH_done (by kernel_rfl) ?_ _
        go_wp2_with fail
        go_meet
        exact ⟨by rw [HSK.out] <;> rfl, HS.out⟩
       exact AllReadyH.nil
      exact AllReadyH.nil
   case rest =>
   rename World => wy
   obtain ⟨rfl, hs10⟩ := hcut
   have H10 := hid hs10
   clear hs10 HR0 HQ10 HCON HSTR0 HSK0 HBNE
   cases hsk : skips e1 i key m with
   | true =>
    have hf3 : putsG (goesN n) e i (key, val) = putsL (goesN n) i key ((List.range e.txs.length).drop (m + 1)) e1 := by rw [HFM.out, putsL, if_pos hsk]
    have HF3 := hid hf3; have HOK3 := hid HOKM.out.skipped
    clear hf3 hsk HFM
    go_wp2_with fail
    go_roundw
    case rel => exact ⟨m + 1, e1, k1, by omega, by go_num, hk1, HOK3, ho1, hn1, HF3, H10.out⟩
    case measure => simp [intOf]; omega
   | false =>
    have hmi : m ≠ i := by
     intro h; subst h
     unfold skips at hsk; simp at hsk
    have hbnd : ∀ j, j < e1.txs.length → (e1.tx j).aft.length + 1 ≤ 1000000000000 ∧ (e1.tx j).fore.length + 1 ≤ 1000000000000 := fun j hj => by have := HOKM.out.fits _ (Eng.tx_mem hj); omega
    have hcall := noted_any w0 _ b bs k1 e1 m i (blk w.heap.size 91 [.int .i64 key, .int .i64 val] :: storeP 99 b 0 e1.V e1.last :: tabP 3 b 11 e1.t :: L) (H10.out.conv (by simp only [all]; ac_rfl)) HJ.out HI1.out hmi (hbnd m HJ.out).1 (hbnd i HI1.out).2 (fun x hx => (HOKM.out.txs x hx).refs)
    unfold ptr at hcall
    have HC := hid hcall
    have hsk' := hsk
    have hnt := HOKM.out.noted
    have HNT := hid hnt; have HSKF := hid hsk'
    have hno := Eng.note_open e1 m i
    have hnl := Eng.note_len e1 m i
    have HNO := hid hno; have HNL := hid hnl
    clear hcall hsk hsk' hbnd hmi hnt hno hnl
    cases hbad : (e1.note m i).bad m i with
    | true =>
     have hf3 : putsG (goesN n) e i (key, val) = goesN n (e1.note m i) i 13 := by rw [HFM.out, putsL, if_neg (by rw [HSKF.out]; simp)]; simp [hbad]
     have hk3 := HNT.out.ok _ (List.mem_cons_self ..)
     have hst3 := (hk3.ask i key _ rfl).1
     have hcg := fun W (hW : S w0 W (engP b bs (e1.note m i) :: L)) => HG.out w0 W b bs (e1.note m i) i 13 L N U (HNT.out.tail (by simp)) hk3.lt (by simp [Tx.alive, hst3]) HNT.out.who_ne (by rw [HNO.out]; exact ho1.out) hN hW
     have HF3 := hid hf3; have HCG := hid hcg
     clear hf3 hk3 hst3 hcg HFM
     rw [hbad] at HC
     clear hbad
     go_wp2_with fail
     with_reducible refine HC.out.mono ?_
     rintro r w' ⟨k2, hk2, rfl, hs2⟩
     have hs3 : S w0 w' (engP b bs (e1.note m i) :: L) := (hs2.conv (M := blk w.heap.size 91 [.int .i64 key, .int .i64 val] :: storeP 99 b 0 e1.V e1.last :: tabP 3 b 11 e1.t :: engO b bs k2 (e1.note m i) :: L) (by simp only [all]; ac_rfl)).tail.eng_shut
     have hcc := HCG.out _ hs3
     have HCC := hid hcc
     clear hs2 hs3 hcc hk2
     go_wp2_with fail
     with_reducible refine HCC.out.mono ?_
     rintro r w2 ⟨rfl, hs4⟩
     have H4 := hid hs4
     clear hs4
     go_wp2_with fail
     refine bodyPost_ret (v := .tuple #[]) (by simp [results, Tryz.results119, go_sem]) rfl ?_
     exact ⟨rfl, by rw [HF3.out]; exact H4.out⟩
    | false =>
     have hf3 : putsG (goesN n) e i (key, val) = putsL (goesN n) i key ((List.range e.txs.length).drop (m + 1)) (e1.note m i) := by rw [HFM.out, putsL, if_neg (by rw [HSKF.out]; simp)]; simp [hbad]
     have HF3 := hid hf3
     clear hf3 HFM
     rw [hbad] at HC
     clear hbad
     go_wp2_with fail
     with_reducible refine HC.out.mono ?_
     rintro r w' ⟨k2, hk2, rfl, hs2⟩
     have hs3 : S w0 w' (blk w.heap.size 91 [.int .i64 key, .int .i64 val] :: storeP 99 b 0 (e1.note m i).V (e1.note m i).last :: tabP 3 b 11 (e1.note m i).t :: engO b bs k2 (e1.note m i) :: L) := hs2.conv (by simp only [all]; show sep _ (sep _ (sep (storeP _ b 0 e1.V e1.last) (sep (tabP _ b 11 e1.t) _))) = sep _ (sep (storeP _ b 0 e1.V e1.last) (sep (tabP _ b 11 e1.t) _)); ac_rfl)
     have H3 := hid hs3; have HK2 := hid hk2
     clear hs2 hs3 hk2
     go_wp2_with fail
     go_roundw
     case rel => exact ⟨m + 1, e1.note m i, k2, by omega, by go_num, hid (HK2.out.trans hk1.out), HNT, hid (by rw [HNO.out]; exact ho1.out), hid (by rw [HNL.out]; exact hn1.out), HF3, H3.out⟩
     case measure => simp [intOf]; omega
  ·have hd : (List.range e.txs.length).drop m = [] := List.drop_eq_nil_iff.2 (by simp; omega)
   have hf2 := hf1.out
   rw [hd] at hf2
   have HF2 := hid hf2; have HSR := hid hsr
   clear hd hf2 hsr hf1 hok1 HROW
   go_wp2_with fail
   go_end0
   exact ⟨rfl, by rw [HF2.out]; exact HSR.out.tail.eng_shut⟩
end Go.Proofs.YtdlkjppppdminaaGreatDoor
/- base.sealed: the walk. Condition: the library's table of powers of ten is laid. -/
namespace Go.Proofs.YtdlkjppppdminaaGreatDoor
open Go Go.RowKit Go.Sep
def sw (ws : List (List UInt8)) : List Value := ws.map fun x => .string ⟨x.toArray⟩
theorem sw_append (a b : List (List UInt8)) : sw (a ++ b) = sw a ++ sw b := by simp [sw]
theorem sw_length (a : List (List UInt8)) : (sw a).length = a.length := by simp [sw]
def I64 (i : Int) : Prop := -9223372036854775808 ≤ i ∧ i ≤ 9223372036854775807
theorem itoa_any (i : Int) (h : I64 i) (w0 w : World) (L : List HProp) (hp : Pow10 w0) (hs : S w0 w L) : Calls Tryz.prog 19 #[.int .i64 i] w fun r w' => r = .returned (.string ⟨(num i).toArray⟩) ∧ S w0 w' L := by
 refine (Shs.Tryz.strconv_Itoa i h.1 h.2 w (hp.on hs.1)).mono fun e w' ⟨h1, k, os, h2⟩ => ⟨h1, ?_⟩
 rw [h2]
 exact hs.onto (Lib.below_grow _ w (Nat.le_refl _) k os)
def Wide (l : Vers) : Prop := ∀ p ∈ l, I64 p.1 ∧ I64 p.2
theorem Wide.at {l : Vers} (h : Wide l) {j : Nat} {p : Int × Int} (hp : l[j]? = some p) : I64 p.1 ∧ I64 p.2 := h p (List.mem_of_getElem? hp)
theorem Two.wide {l : Vers} (h : Two l) : Wide l := fun p hp => by have := h p hp; unfold I64; omega
theorem Two.at {l : Vers} (h : Two l) {j : Nat} {p : Int × Int} (hp : l[j]? = some p) : (0 ≤ p.1 ∧ p.1 < 100) ∧ (0 ≤ p.2 ∧ p.2 < 100) := h p (List.mem_of_getElem? hp)
theorem fnv_cast (x : Nat) : ((x : Int) * 1099511628211) % 18446744073709551616 = ((x * 1099511628211 % 18446744073709551616 : Nat) : Int) := by
 omega
theorem fnv_next {n : Nat} (h : n < 18446744073709551616) {b : UInt8} : IntKind.u64.wrap (bits .xor .u64 (n : Int) (IntKind.u64.wrap (b.toNat : Int)) * 1099511628211) = (fnvStep n b : Int) := by
 have hb := b.toNat_lt
 generalize hB : b.toNat = B at hb
 have e1 : IntKind.u64.wrap (B : Int) = (B : Int) := by
  rw [IntKind.wrap_u64]
  exact Int.emod_eq_of_lt (Int.natCast_nonneg _) (by omega)
 have e2 := bits_xor_u64_nat n B h (by omega)
 have e3 : fnvStep n b = (n ^^^ B) * 1099511628211 % 18446744073709551616 := by unfold fnvStep; rw [hB]
 rw [e1, e2, IntKind.wrap_u64, e3]
 exact fnv_cast _
theorem foldl_take {α β : Type} (f : α → β → α) (n : α) {T : List β} {j : Nat} (h : j < T.length) : (T.take (j + 1)).foldl f n = f ((T.take j).foldl f n) T[j] := by
 rw [List.take_add_one, List.getElem?_eq_getElem h, List.foldl_append]; rfl
theorem fnv_take {T : List UInt8} {j : Nat} (h : j < T.length) (n : Nat) : fnvFrom n (T.take (j + 1)) = fnvStep (fnvFrom n (T.take j)) T[j] := foldl_take fnvStep n h
theorem dec_len {u : Nat} (h : u < 18446744073709551616) : (Lib.decDigits u).length ≤ 20 := by
 rw [Lib.decDigits_length]
 rcases Nat.eq_zero_or_pos u with rfl | h1
 ·rw [← Lib.decDigits_length, Lib.decDigits, dif_pos (by decide)]; decide
 ·have := Lib.numDigits_eq u h1 h
  split at this <;> omega
theorem glue (a b : List UInt8) : (⟨a.toArray⟩ : ByteArray) ++ ⟨#[32]⟩ ++ ⟨b.toArray⟩ = ⟨(a ++ 32 :: b).toArray⟩ := by
 apply ByteArray.ext
 simp [ByteArray.data_append]
theorem words_back (ws : List (List UInt8)) : (ws.map fun x => (⟨x.toArray⟩ : ByteArray)).map (·.data.toList) = ws := by
 rw [List.map_map]
 conv => rhs; rw [← List.map_id ws]
 exact List.map_congr_left fun x _ => rfl
theorem join_len_le : ∀ (ws : List (List UInt8)), (∀ x ∈ ws, x.length ≤ 20) → (Lib.join ws [32]).length ≤ 21 * ws.length
 | [], _ => by simp [Lib.join, List.intercalate]
 | [a], h => by rw [Lib.join_one]; have := h a (by simp); simp; omega
 | a :: b :: r, h => by
  rw [join_cons2, List.length_append, List.length_cons]
  have h1 := h a (by simp)
  have h2 := join_len_le (b :: r) (fun x hx => h x (by simp [hx]))
  simp only [List.length_cons] at h2 ⊢
  omega
theorem dec_len19 {u : Nat} (h : u ≤ 9223372036854775808) : (Lib.decDigits u).length ≤ 19 := by
 rw [Lib.decDigits_length]
 rcases Nat.lt_or_ge 19 (Lib.nDigits u) with h1 | h1
 ·have h2 : Lib.nDigits u ≤ 20 := by have := dec_len (u := u) (by omega); rw [Lib.decDigits_length] at this; exact this
  have h3 : Lib.nDigits u = 20 := by omega
  rw [show (20 : Nat) = 19 + 1 from rfl] at h3
  have h4 : 10 ^ 19 ≤ u := by
   rcases Nat.lt_or_ge u (10 ^ 19) with h5 | h5
   ·exfalso
    have : ∀ (k v : Nat), v < 10 ^ k → 1 ≤ k → Lib.nDigits v ≤ k := by
     intro k
     induction k with
     | zero => intro v _ h; omega
     | succ k ih =>
      intro v hv _
      rcases Nat.eq_zero_or_pos k with rfl | hk
      ·rw [Lib.nDigits_small (by simpa using hv)]; omega
      ·rcases Nat.lt_or_ge v 10 with h10 | h10
       ·rw [Lib.nDigits_small h10]; omega
       ·rw [Lib.nDigits_big (by omega)]
        have := ih (v / 10) (by rw [Nat.pow_succ] at hv; omega) hk
        omega
    have := this 19 u h5 (by omega)
    omega
   ·exact h5
  omega
 ·exact h1
theorem num_len20 {i : Int} (h : I64 i) : (num i).length ≤ 20 := by
 unfold num Lib.itoa
 unfold I64 at h
 split
 ·have := dec_len19 (u := i.natAbs) (by omega)
  rw [List.length_cons]; omega
 ·have := dec_len19 (u := i.toNat) (by omega)
  omega
theorem join_len {l : Vers} (h : Wide l) (hl : l.length ≤ 1000) (k : Nat) (hk : k < 1000000) : (textL k l).length ≤ 42100 := by
 have h1 := join_len_le (swords k l) (fun x hx => by
  unfold swords pwords at hx
  rw [List.mem_cons, List.mem_flatMap] at hx
  rcases hx with rfl | ⟨p, hp, hx⟩
  ·exact num_len20 (by unfold I64; omega)
  ·simp only [List.mem_cons, List.not_mem_nil, or_false] at hx
   rcases hx with rfl | rfl
   ·exact num_len20 (h p hp).1
   ·exact num_len20 (h p hp).2)
 rw [swords_length] at h1
 unfold textL
 omega
set_option maxRecDepth 40000 in
set_option maxHeartbeats 4000000 in
theorem sealed_any (w0 w : World) (k : Nat) (v : Value) (l : Vers) (L : List HProp) (hk : k < 1000000) (h2 : Wide l) (hl : l.length ≤ 1000) (hp10 : Pow10 w0) (hs : S w0 w L) (hr : RdK w0 L v l.length (pcells l)) :
  Calls Tryz.prog 52 #[.int .i64 k, v] w fun r w' => r = .returned (.string (sealB k l)) ∧ S w0 w' L := by
 obtain ⟨a, cap, rfl, hcap, hcap2, _⟩ := hr w hs
 unfold maxLen at hcap2
 have hit := itoa_any k (show I64 (k : Int) by unfold I64; omega) w0 w L hp10 hs
 have HR := hid hr; have HI := hid hit; have HTW := hid h2; have HL := hid hl; have HP10 := hid hp10; have HK := hid hk
 clear hs hr hit h2 hl hp10 hk
 go_enter Tryz.func52, Tryz.ntmps52
 go_wp2_with (go_at_call 19; with_reducible refine HI.out.mono ?_; rintro r w1 ⟨rfl, hs1⟩; have H0 := hid (S.sl_blk (n := 1) (size := 1) (xs := [.string ⟨(num k).toArray⟩]) rfl (by decide) (hs1.alloc #[.string ⟨(num k).toArray⟩] 9)); clear hs1)
 go_loopw [5, 16] (fun wv c wr => ∃ j : Nat, j ≤ l.length ∧ c = .int .i64 j ∧ S w0 wr (sl 9 1 wv (1 + 2 * j) (sw (swords k (l.take j))) :: L)) (fun _ c _ => l.length - (intOf c).toNat)
 case atStart => exact ⟨0, Nat.zero_le _, rfl, H0.out⟩
 case round =>
  rename World => wr
  obtain ⟨j, hj, rfl, hsr⟩ := hrel
  clear H0
  by_cases hlt : j < l.length
  ·have hp : l[j]? = some l[j] := by simp [hlt]
   generalize l[j] = p at hp
   obtain ⟨g, og, rfl, c0, c1⟩ := HR.out.pair hsr.tail hp
   obtain ⟨aw, cw, rfl, hcw, hcw2, _⟩ := hsr.sl_val
   have htw := HTW.out.at hp
   have hst : swords k (l.take (j + 1)) = swords k (l.take j) ++ [num p.1, num p.2] := by unfold swords; rw [pwords_take_succ hp]; rfl
   obtain ⟨i0, hi0, hz0, hz1, hz2⟩ := info_parts (show (Tryz.prog.info? 9).map (fun i => (i.zero, i.size, i.bytes)) = some (some (.string ByteArray.empty), 1, 16) by kernel_rfl)
   have hs1 := hsr.alloc #[.int .i64 p.1, .int .i64 p.2] 91
   have hce : ∀ W (M : List HProp), S w0 W (blk wr.heap.size 91 [.int .i64 p.1, .int .i64 p.2] :: M) → W.cell? ⟨wr.heap.size, 0, none⟩ = some (.int .i64 p.1) ∧ W.cell? ⟨wr.heap.size, 1, none⟩ = some (.int .i64 p.2) := fun W M h => ⟨h.blk_cell 0 rfl, h.blk_cell 1 rfl⟩
   have q0 := hce _ _ hs1.drew
   have hl2 := HL.out
   have H1 := hid hs1.drew; have HST := hid hst; have HCE := hid hce
   have HI1 := hid (fun W M h => itoa_any p.1 htw.1 w0 W M HP10.out h)
   have HI2 := hid (fun W M h => itoa_any p.2 htw.2 w0 W M HP10.out h)
   clear hsr hs1 hst hp hce htw
   go_upto_region 5 with fail
   go_region_held_law (fun w' => w'.cell? ⟨wr.heap.size, 0, none⟩ = some (.int .i64 p.1) ∧ w'.cell? ⟨wr.heap.size, 1, none⟩ = some (.int .i64 p.2)) (first | (with_reducible assumption) | (with_reducible exact q0) | (with_reducible exact q1) | (with_reducible exact q2) | go_keep)
    (first
     | (go_at_call 19; with_reducible refine (HI1.out _ _ H1.out).mono ?_; rintro r w2 ⟨rfl, hs2⟩; have q1 := HCE.out _ _ hs2; have H2 := hid hs2; clear hs2)
     | (go_at_call 19; with_reducible refine (HI2.out _ _ H2.out).mono ?_; rintro r w3 ⟨rfl, hs3⟩; have q2 := HCE.out _ _ hs3; have hs4 := hs3.alloc #[.string ⟨(num p.1).toArray⟩, .string ⟨(num p.2).toArray⟩] 9; have HN := hid (news_blk hs4); have H3 := hid (S.conv (M := sl 9 1 (.slice aw (1 + 2 * j) cw) (1 + 2 * j) (sw (swords k (l.take j))) :: blk wr.heap.size 91 [.int .i64 p.1, .int .i64 p.2] :: L) hs4.tail (by simp only [all]; ac_rfl)); clear hs3 hs4)
     | (refine step_append rfl (.tmp 20) (.tmp 27) 46 rfl 9 i0 _ 1 16 Tryz.underlying46 hi0 hz0 hz1 hz2 rfl (by decide) H3.out rfl (some ⟨w3.heap.size, 0, none⟩) 2 2 [.string ⟨(num p.1).toArray⟩, .string ⟨(num p.2).toArray⟩] rfl rfl HN.out (by simp [Value.oneCell']) (by unfold maxLen; omega) (by omega) ?_; intro v1 w5 hs5; have q1 := HCE.out _ _ hs5.tail; have H5 := hid hs5; clear hs5))
   go_wp2_with fail
   go_roundw
   case rel => exact ⟨j + 1, by omega, by go_num, by rw [HST.out, sw_append, show 1 + 2 * (j + 1) = 1 + 2 * j + 2 by omega]; exact H5.out.swap.tail⟩
   case measure => simp [intOf]; omega
  ·obtain rfl : j = l.length := by omega
   rw [List.take_length] at hsr
   have hwl : (sw (swords k l)).length = 1 + 2 * l.length := by rw [sw_length, swords_length]; omega
   obtain ⟨gw, ow, cw, rfl, hcw, hcw2, hg0, hg1, hgc, _⟩ := hsr.sl_some (by rw [hwl]; omega)
   have hlen := join_len HTW.out HL.out k HK.out
   have hj := Shs.Tryz.strings_Join gw ow cw ((swords k l).map fun x => ⟨x.toArray⟩) blankB wr (fun j x hx => by
    rw [List.getElem?_map, Option.map_eq_some_iff] at hx
    obtain ⟨y, hy, rfl⟩ := hx
    exact hgc j _ (by unfold sw; rw [List.getElem?_map, hy]; rfl)) hg1 (by rw [List.length_map, swords_length]; have := HL.out; omega) (by rw [List.length_map, swords_length]; omega) (by rw [words_back]; unfold textL at hlen; exact Nat.le_trans hlen (by omega))
   rw [words_back, List.length_map, swords_length] at hj
   have hj2 : Calls Tryz.prog 64 #[.slice (some ⟨gw, ow, none⟩) (1 + 2 * l.length) cw, .string ⟨#[32]⟩] wr fun e w' => e = .returned (.string ⟨(textL k l).toArray⟩) ∧ S w0 w' L := by
    rw [show 1 + 2 * l.length = 2 * l.length + 1 by omega]
    exact hj.mono fun e w' ⟨h1, h2⟩ => ⟨h1, (hsr.tail).onto h2⟩
   obtain ⟨T, hT⟩ : ∃ T, textL k l = T := ⟨_, rfl⟩
   have hseal : sealB k l = ⟨(T ++ 32 :: Lib.decDigits (fnv T)).toArray⟩ := by unfold sealB sealL; rw [hT]
   rw [hT] at hj2 hlen
   have HJ := hid hj2; have HSL := hid hseal
   clear hsr hwl hgc hj hj2 hg0 hg1 hcw hcw2 hT hseal HR HI HTW HL
   go_wp2_with (go_at_call 64; with_reducible refine HJ.out.mono ?_; rintro r w6 ⟨rfl, hs6⟩; have H6 := hid hs6; clear hs6)
   go_loopw [9, 34] (fun nv c wr2 => ∃ j : Nat, j ≤ T.length ∧ c = .int .i64 j ∧ nv = .int .u64 (fnvFrom fnv0 (T.take j) : Nat) ∧ wr2 = w6) (fun _ c _ => T.length - (intOf c).toNat)
   case atStart => exact ⟨0, Nat.zero_le _, rfl, rfl, rfl⟩
   case round =>
    obtain ⟨j, hj, rfl, rfl, rfl⟩ := hrel
    by_cases hlt : j < T.length
    ·go_wp2_with fail
     go_roundw
     case rel =>
      refine ⟨j + 1, by omega, by go_num, ?_, trivial⟩
      rw [fnv_take hlt fnv0, ← fnv_next (fnvFrom_lt _ _ (by decide))]
      rfl
     case measure => simp [intOf]; omega
    ·obtain rfl : j = T.length := by omega
     have hf := fun W h => fmtu_any (fnvFrom fnv0 T) (fnvFrom_lt _ _ (by decide)) W (Pow10.on (w := w0) HP10.out h)
     have hdl := dec_len (fnvFrom_lt T fnv0 (by decide))
     have hne : ¬ (((⟨T.toArray⟩ : ByteArray) ++ ⟨#[32]⟩).size + (⟨(Lib.decDigits (fnvFrom fnv0 T)).toArray⟩ : ByteArray).size > 9223372036854775807) := by
      have e1 : ((⟨T.toArray⟩ : ByteArray) ++ ⟨#[32]⟩).size = T.length + 1 := by simp [ByteArray.size]
      have e2 : (⟨(Lib.decDigits (fnvFrom fnv0 T)).toArray⟩ : ByteArray).size = (Lib.decDigits (fnvFrom fnv0 T)).length := by simp [ByteArray.size]
      rw [e1, e2]; omega
     have HFM := hid hf
     rw [List.take_length]
     clear hf
     go_wp2_with (go_at_call 87; with_reducible refine (HFM.out _ H6.out.1).mono ?_; rintro r w7 ⟨rfl, hb⟩; have H7 := hid (H6.out.onto hb); clear hb)
     go_ret
     refine ⟨?_, H7.out⟩
     rw [HSL.out]
     show Ending.returned (Value.string ((⟨T.toArray⟩ : ByteArray) ++ ⟨#[32]⟩ ++ ⟨(Lib.decDigits (fnvFrom fnv0 T)).toArray⟩)) = _
     rw [glue]; rfl
end Go.Proofs.YtdlkjppppdminaaGreatDoor
/- base.opened: the walk. Conditions: the library's table of powers of ten is laid, and the variable of bytealg's greatest length holds a whole number. -/
namespace Go.Proofs.YtdlkjppppdminaaGreatDoor
open Go Go.RowKit Go.Sep
def LibOk (w : World) : Prop := Pow10 w ∧ ∃ m, w.cell? ⟨3, 0, none⟩ = some (.int .i64 m)
theorem split_any (w0 w : World) (t : List UInt8) (L : List HProp) (hL : LibOk w0) (hs : S w0 w L) (ht : t.length ≤ 1000000) :
  Calls Tryz.prog 51 #[.string ⟨t.toArray⟩, .string ⟨#[32]⟩] w fun r w' => r = .returned (.slice (some ⟨w.heap.size, 0, none⟩) (cut t).length (cut t).length) ∧ S w0 w' (blk w.heap.size 9 (sw (cut t)) :: L) := by
 obtain ⟨m, hm⟩ := hL.2
 have hlt := World.block_lt_of_cell? w0 _ hm
 have hm2 : w.cell? ⟨3, 0, none⟩ = some (.int .i64 m) := by rw [hs.1.cell hlt]; exact hm
 have h := Shs.Tryz.strings_Split ⟨t.toArray⟩ blankB m w (by show t.toArray.size < _; simp; omega) hm2 (by decide)
 refine h.mono fun r w' ⟨h1, h2⟩ => ?_
 have hc := split_cut ⟨t.toArray⟩
 have hl := Lib.splitB_all blankB (by decide) 0 _ (⟨t.toArray⟩ : ByteArray) rfl
 rw [hc, List.length_map] at hl
 rw [hc] at h2
 have e1 : cut (⟨t.toArray⟩ : ByteArray).data.toList = cut t := rfl
 rw [e1] at hl h2
 refine ⟨by rw [h1, hl], ?_⟩
 rw [h2]
 have := hs.alloc (sw (cut t)).toArray 9
 unfold sw at this ⊢
 rw [List.map_map]
 exact this
set_option maxRecDepth 40000 in
set_option maxHeartbeats 4000000 in
theorem opened_short (w0 w : World) (k : Int) (t : List UInt8) (L : List HProp) (hL : LibOk w0) (hs : S w0 w L) (ht : t.length ≤ 1000000) (hsh : (cut t).length < 4 ∨ (cut t).length % 2 ≠ 0) :
  Calls Tryz.prog 24 #[.int .i64 k, .string ⟨t.toArray⟩] w fun r w' => r = .returned (.tuple #[.slice none 0 0, .bool false]) ∧ S w0 w' L := by
 have HC := hid (split_any w0 w t L hL hs ht)
 have hlen : (cut t).length ≤ 1000001 := by
  have := cut_len t; omega
 clear hL hs ht
 generalize cut t = ws at *
 obtain ⟨n, hn⟩ : ∃ n, ws.length = n := ⟨_, rfl⟩
 rw [hn] at hsh hlen
 by_cases h4 : n < 4
 ·have hb : ((n : Int) < 4) := by omega
  have HN := hid hn
  clear hn hsh
  go_enter Tryz.func24, Tryz.ntmps24
  go_wp2_with (go_at_call 51; with_reducible refine HC.out.mono ?_; rw [HN.out]; rintro r w1 ⟨rfl, hs1⟩; have H1 := hid hs1; clear hs1)
  go_ret2
  exact ⟨rfl, H1.out.tail⟩
 ·have hb : ¬ ((n : Int) < 4) := by omega
  have hm : ((n : Int) % 2 != 0) = true := by
   rw [bne_iff_ne]; omega
  have HN := hid hn
  clear hn hsh
  go_enter Tryz.func24, Tryz.ntmps24
  go_wp2_with (go_at_call 51; with_reducible refine HC.out.mono ?_; rw [HN.out]; rintro r w1 ⟨rfl, hs1⟩; have H1 := hid hs1; clear hs1)
  all_goals first
   | (rename_i hx; exact absurd hx.2 (by rw [hm]; decide))
   | skip
  go_ret2
  exact ⟨rfl, H1.out.tail⟩
theorem sw_get {ws : List (List UInt8)} {j : Nat} {x : List UInt8} (h : ws[j]? = some x) : (sw ws)[j]? = some (.string ⟨x.toArray⟩) := by
 unfold sw; rw [List.getElem?_map, h]; rfl
theorem seal_toList (k : Nat) (m : Vers) : (sealB k m).toList = sealL k m := by unfold sealB; simp
theorem beq_dec (a b : List UInt8) : (a == b) = decide (a = b) := by
 by_cases h : a = b
 ·rw [decide_eq_true h, h, beq_self_eq_true]
 ·rw [decide_eq_false h, beq_eq_false_iff_ne.2 h]
end Go.Proofs.YtdlkjppppdminaaGreatDoor
namespace Go.Proofs.YtdlkjppppdminaaGreatDoor
open Go Go.RowKit Go.Sep
structure Dsk where
 places : List (List UInt8)
 cut : Bool
 left : Int
def Dsk.zero : Dsk := ⟨List.replicate 250 [], false, 0⟩
def Dsk.setCut (d : Dsk) (n : Int) : Dsk := { d with cut := decide (0 ≤ n), left := max n 0 }
def Dsk.off (d : Dsk) : Bool := d.cut && decide (d.left = 0)
def Dsk.put (d : Dsk) (k : Nat) (s : List UInt8) : Dsk := { d with places := d.places.set k s, left := wrap64 (d.left - 1) }
def Dsk.tear (d : Dsk) (k : Nat) (s : List UInt8) (torn : Int) : Dsk := if 0 ≤ torn then { d with places := d.places.set k (s.take (min torn.toNat (s.length - 1))) } else d
def dskV (d : Dsk) : List Value := sw d.places ++ [.bool d.cut, .int .i64 d.left]
def dskB (b : Nat) (d : Dsk) : HProp := sep (pur (d.places.length = 250)) (blk b 28 (dskV d))
variable {w0 w : World} {L : List HProp} {b : Nat} {d : Dsk}
theorem dskV_length (h : d.places.length = 250) : (dskV d).length = 252 := by unfold dskV; rw [List.length_append, sw_length, h]; rfl
theorem _root_.Go.Sep.S.dsk_open (h : S w0 w (dskB b d :: L)) : d.places.length = 250 ∧ S w0 w (blk b 28 (dskV d) :: L) := by
 have h2 := h.sep_elim.pur_elim
 exact h2
theorem _root_.Go.Sep.S.dsk_shut (hl : d.places.length = 250) (h : S w0 w (blk b 28 (dskV d) :: L)) : S w0 w (dskB b d :: L) := .sep_intro (.pur_intro hl h)
theorem dskV_place {k : Nat} {x : List UInt8} (h : d.places[k]? = some x) : (dskV d)[k]? = some (.string ⟨x.toArray⟩) := by
 have hk := (List.getElem?_eq_some_iff.1 h).1
 unfold dskV
 rw [List.getElem?_append_left (by rw [sw_length]; exact hk)]
 exact sw_get h
theorem dskV_cut (hl : d.places.length = 250) : (dskV d)[250]? = some (.bool d.cut) ∧ (dskV d)[251]? = some (.int .i64 d.left) := by
 unfold dskV
 rw [List.getElem?_append_right (by rw [sw_length]; omega), List.getElem?_append_right (by rw [sw_length]; omega), sw_length, hl]
 exact ⟨rfl, rfl⟩
theorem dskV_set {k : Nat} (hl : d.places.length = 250) (hk : k < 250) (x : List UInt8) : (dskV d).set k (.string ⟨x.toArray⟩) = dskV { d with places := d.places.set k x } := by
 unfold dskV
 rw [List.set_append_left _ _ (by rw [sw_length]; omega)]
 congr 1
 unfold sw
 rw [List.map_set]
theorem dskV_setCut (hl : d.places.length = 250) (c : Bool) : (dskV d).set 250 (.bool c) = dskV { d with cut := c } := by
 unfold dskV
 rw [List.set_append_right _ _ (by rw [sw_length]; omega), sw_length, hl]; rfl
theorem dskV_setLeft (hl : d.places.length = 250) (n : Int) : (dskV d).set 251 (.int .i64 n) = dskV { d with left := n } := by
 unfold dskV
 rw [List.set_append_right _ _ (by rw [sw_length]; omega), sw_length, hl]; rfl
theorem _root_.Go.Sep.S.dsk_place (h : S w0 w (dskB b d :: L)) {k : Nat} (hk : k < 250) (x : List UInt8) : S w0 (w.setCell ⟨b, k, none⟩ (.string ⟨x.toArray⟩)) (dskB b { d with places := d.places.set k x } :: L) := by
 obtain ⟨hl, h⟩ := h.dsk_open
 refine .dsk_shut (by rw [List.length_set]; exact hl) ?_
 rw [← dskV_set hl hk]
 exact h.blk_set k (by rw [dskV_length hl]; omega) _
theorem _root_.Go.Sep.S.dsk_cut (h : S w0 w (dskB b d :: L)) (c : Bool) : S w0 (w.setCell ⟨b, 250, none⟩ (.bool c)) (dskB b { d with cut := c } :: L) := by
 obtain ⟨hl, h⟩ := h.dsk_open
 refine .dsk_shut hl ?_
 rw [← dskV_setCut hl]
 exact h.blk_set 250 (by rw [dskV_length hl]; omega) _
theorem _root_.Go.Sep.S.dsk_left (h : S w0 w (dskB b d :: L)) (n : Int) : S w0 (w.setCell ⟨b, 251, none⟩ (.int .i64 n)) (dskB b { d with left := n } :: L) := by
 obtain ⟨hl, h⟩ := h.dsk_open
 refine .dsk_shut hl ?_
 rw [← dskV_setLeft hl]
 exact h.blk_set 251 (by rw [dskV_length hl]; omega) _
theorem _root_.Go.Sep.S.dsk_see (h : S w0 w (dskB b d :: L)) : w.cell? ⟨b, 250, none⟩ = some (.bool d.cut) ∧ w.cell? ⟨b, 251, none⟩ = some (.int .i64 d.left) ∧ ∀ j, w.frozen? ⟨b, j, none⟩ = false := by
 obtain ⟨hl, h⟩ := h.dsk_open
 exact ⟨h.blk_cell 250 (dskV_cut hl).1, h.blk_cell 251 (dskV_cut hl).2, fun j => h.blk_free j⟩
theorem _root_.Go.Sep.S.dsk_at (h : S w0 w (dskB b d :: L)) {k : Nat} {x : List UInt8} (hx : d.places[k]? = some x) : w.cell? ⟨b, k, none⟩ = some (.string ⟨x.toArray⟩) := by
 obtain ⟨_, h⟩ := h.dsk_open
 exact h.blk_cell k (dskV_place hx)
set_option maxRecDepth 40000 in
set_option maxHeartbeats 4000000 in
theorem dcut_any (w0 w : World) (b : Nat) (d : Dsk) (n : Int) (L : List HProp) (hs : S w0 w (dskB b d :: L)) :
  Calls Tryz.prog 12 #[.pointer (some ⟨b, 0, none⟩), .int .i64 n] w fun r w' => r = .returned (.tuple #[]) ∧ S w0 w' (dskB b (d.setCut n) :: L) := by
 have h1 := (hs.dsk_cut (decide (0 ≤ n))).dsk_left (max n 0)
 obtain ⟨c0, c1, f0⟩ := hs.dsk_see
 have f1 := f0 250
 have f2 := f0 251
 have H1 := hid h1
 clear hs h1 f0
 go_enter Tryz.func12, Tryz.ntmps12
 go_wp2_with fail
 go_end0
 exact ⟨rfl, H1.out⟩
set_option maxRecDepth 40000 in
set_option maxHeartbeats 4000000 in
theorem dwrite_on (w0 w : World) (b : Nat) (d : Dsk) (k : Nat) (s : List UInt8) (torn : Int) (L : List HProp) (hk : k < 250) (ho : d.off = false) (hs : S w0 w (dskB b d :: L)) :
  Calls Tryz.prog 109 #[.pointer (some ⟨b, 0, none⟩), .int .i64 k, .string ⟨s.toArray⟩, .int .i64 torn] w fun r w' => r = .returned .nilIface ∧ S w0 w' (dskB b (d.put k s) :: L) := by
 have h1 := (hs.dsk_left (wrap64 (d.left - 1))).dsk_place hk s
 obtain ⟨hl, hd⟩ := hs.dsk_open
 obtain ⟨x, hx⟩ : ∃ x, d.places[k]? = some x := ⟨_, List.getElem?_eq_getElem (by omega)⟩
 have y0 := hs.dsk_at hx
 obtain ⟨c0, c1, f0⟩ := hs.dsk_see
 have f1 := f0 k
 have f2 := f0 251
 have hkk : (k : Int) < 250 := by omega
 have hne : k ≠ 251 := by omega
 have H1 := hid h1
 clear hs h1 f0 hl hd hx
 obtain ⟨P, cu, lf⟩ := d
 simp only at *
 by_cases hc : cu = true
 ·subst hc
  have h2 : ¬ lf = 0 := by intro h; subst h; simp [Dsk.off] at ho
  have hb : (lf == 0) = false := by simpa using h2
  clear ho
  go_enter Tryz.func109, Tryz.ntmps109
  go_wp2_with fail
  go_ret
  exact ⟨rfl, H1.out⟩
 ·obtain rfl : cu = false := by simpa using hc
  clear ho hc
  go_enter Tryz.func109, Tryz.ntmps109
  go_wp2_with fail
  go_ret
  exact ⟨rfl, H1.out⟩
theorem take_extract (s : List UInt8) (M : Nat) : (⟨s.toArray⟩ : ByteArray).extract 0 M = ⟨(s.take M).toArray⟩ := by
 apply ByteArray.ext
 simp [ByteArray.data_extract]
set_option maxRecDepth 40000 in
set_option maxHeartbeats 4000000 in
theorem dwrite_off (w0 w : World) (b : Nat) (d : Dsk) (k : Nat) (s : List UInt8) (torn : Int) (L : List HProp) (hk : k < 250) (hsl : 1 ≤ s.length ∧ s.length ≤ 1000000) (ho : d.off = true) (hs : S w0 w (dskB b d :: L)) :
  Calls Tryz.prog 109 #[.pointer (some ⟨b, 0, none⟩), .int .i64 k, .string ⟨s.toArray⟩, .int .i64 torn] w fun r w' => r = .returned (errV 14) ∧ S w0 w' (dskB b (d.tear k s torn) :: L) := by
 have h1 := hs.dsk_place hk (s.take (min torn.toNat (s.length - 1)))
 obtain ⟨hl, hd⟩ := hs.dsk_open
 obtain ⟨x, hx⟩ : ∃ x, d.places[k]? = some x := ⟨_, List.getElem?_eq_getElem (by omega)⟩
 have y0 := hs.dsk_at hx
 obtain ⟨c0, c1, f0⟩ := hs.dsk_see
 have f1 := f0 k
 have hkk : (k : Int) < 250 := by omega
 have H1 := hid h1; have H0 := hid hs
 clear hs h1 f0 hl hd hx
 unfold Dsk.off at ho
 rw [Bool.and_eq_true, decide_eq_true_eq] at ho
 obtain ⟨P, cu, lf⟩ := d
 simp only at *
 obtain ⟨rfl, rfl⟩ := ho
 unfold Dsk.tear
 by_cases ht : 0 ≤ torn
 ·rw [if_pos ht]
  obtain ⟨T, rfl⟩ : ∃ T : Nat, torn = T := ⟨torn.toNat, by omega⟩
  go_enter Tryz.func109, Tryz.ntmps109
  obtain ⟨M, hM⟩ : ∃ M, min T (s.length - 1) = M := ⟨_, rfl⟩
  have hM1 : min (T : Int) ((s.length : Int) - 1) = (M : Int) := by omega
  have hM2 : M ≤ s.length := by omega
  have hM3 : (M : Int) ≤ (s.length : Int) := by omega
  rw [Int.toNat_natCast, hM] at H1 ⊢
  have HE : Hid (∀ {A : HProp}, S w0 (w.setCell ⟨b, k, none⟩ (.string ⟨(s.take M).toArray⟩)).drew (A :: L) → S w0 (w.setCell ⟨b, k, none⟩ (.string ((⟨s.toArray⟩ : ByteArray).extract 0 M))).drew (A :: L)) := hid (fun h => by rw [take_extract]; exact h)
  have hwr : IntKind.i64.wrap ((s.length : Int) - 1) = (s.length : Int) - 1 := IntWalk.i64_in _ (by omega)
  clear hM
  go_upto_region 3 with fail
  go_region_with fail
  go_wp2_with fail
  go_ret
  exact ⟨rfl, HE.out H1.out.drew⟩
 ·rw [if_neg ht]
  clear H1
  go_enter Tryz.func109, Tryz.ntmps109
  go_wp2_with fail
  go_ret
  exact ⟨rfl, H0.out⟩
end Go.Proofs.YtdlkjppppdminaaGreatDoor
