/- Transactions at the same time: what holds of an engine is kept by all that is asked of it. No walk in sight. -/
import Derived.Test.YtmfngjclccehaaaGreatDoorZ0
import Derived.Test.YtmfngjclccehaaaGreatDoorZ7
import Derived.Deep.DeepCutAuto
import Derived.Deep.CutBlock
import Derived.Deep.RegionHeldLaw
import Derived.LaidEqlPtr
/- The program's engine: one that is gone, who comes next, and what that one writes. -/
namespace Go.Proofs.YtmfngjclccehaaaGreatDoor
open Go Go.RowKit Go.Sep
def GoesAny (n : Nat) : Prop := ∀ (w0 w : World) (b : Nat) (bs : List Nat) (e : Eng) (i : Nat) (why : Int) (L : List HProp) (N : Nat) (U : List Task), OkT N e U → i < e.txs.length → (e.tx i).alive = true → (∀ u ∈ U, u.who ≠ i) → e.open_ ≤ n → N ≤ 100000000 → S w0 w (engP b bs e :: L) →
 Calls Tryz.prog 58 #[.pointer (some ⟨b, 0, none⟩), .int .i64 ((i : Int) + 1), .int .i64 why] w fun r w' => r = .returned (.tuple #[]) ∧ S w0 w' (engP b bs (goesN n e i why) :: L)
theorem OkT.row_le {N : Nat} {e : Eng} {U : List Task} (h : OkT N e U) : ∀ vs ∈ e.V, vs.length ≤ 401 := by
 intro vs hv
 have h1 := h.rows vs hv
 have h2 := h.cnt
 have h3 := h.few
 have : (0 : Int) ≤ e.open_ := by omega
 omega
theorem enewer_any (w0 w : World) (b : Nat) (e : Eng) (key at_ : Int) (L : List HProp) (N : Nat) (U : List Task) (h : OkT N e U) (hk : keyOk key) (hs : S w0 w (storeP 107 b 0 e.V e.last :: L)) :
  Calls Tryz.prog 81 #[.pointer (some ⟨b, 0, none⟩), .int .i64 key, .int .i64 at_] w (fun r w' => ∃ a c, r = .returned (.tuple #[.slice a (newerL (e.row key) at_).length c, .nilIface]) ∧ (newerL (e.row key) at_).length ≤ c ∧ c ≤ maxLen ∧ S w0 w' (sl 3 1 (.slice a (newerL (e.row key) at_).length c) (newerL (e.row key) at_).length (icells (newerL (e.row key) at_)) :: storeP 107 b 0 e.V e.last :: L)) := by
 obtain ⟨k, rfl⟩ : ∃ k : Nat, key = k := ⟨key.toNat, by have := hk.1; omega⟩
 have hk2 : k < 10 := by have := hk.2; omega
 have hV : e.V[k]? = some (e.row k) := by
  unfold Eng.row
  have : k < e.V.length := by rw [h.v10]; exact hk2
  simp [this]
 have hle := h.row_le _ (List.mem_of_getElem? hV)
 refine (newer_any w0 w b 0 e.V e.last at_ k (e.row k) L hk2 hs hV (by omega)).mono fun r w' hp => ?_
 obtain ⟨v, h1, h2⟩ := hp
 obtain ⟨a, c, rfl, h3, h4, _⟩ := h2.sl_val
 exact ⟨a, c, h1, h3, h4, h2⟩
theorem eng_wput {w0 w : World} {b : Nat} {bs : List Nat} {k : EngV} {e : Eng} {i : Nat} {L : List HProp} (h : S w0 w (engO b bs k e :: L)) (hi : i < e.txs.length) (key val : Int) :
  ∃ w', (Instr.mapUpdate 53 (.map (some (k.v i).mb)) (.int .i64 key) (.int .i64 val)).run Tryz.prog w = .ok () w' ∧ S w0 w' (engO b bs k (e.wput i (key, val)) :: L) := by
 have hp := h.sep_elim.pur_elim.1
 have h1 : S w0 w (mp encI (fun _ => True) (k.v i).mb (ienc (e.tx i).writes) :: blk (blkOf bs i) 123 (txF (k.v i) (e.tx i)) :: sl 139 2 (k.v i).rv (e.tx i).reads.length (pcells (e.tx i).reads) :: sl 120 1 (k.v i).fv (e.tx i).fore.length (ptrs bs (e.tx i).fore) :: sl 120 1 (k.v i).av (e.tx i).aft.length (ptrs bs (e.tx i).aft) :: engX b bs k e i :: L) :=
  (h.eng_tx hi).conv (by rw [all, txK_parts]; simp only [all]; ac_rfl)
 obtain ⟨w', hr, h2⟩ := h1.put Tryz.keyInt Tryz.underlying53 key trivial (.int .i64 val)
 refine ⟨w', hr, ?_⟩
 have e1 : mput (ienc (e.tx i).writes) key (.int .i64 val) = ienc (mput (e.tx i).writes key val) := ienc_put _ _ _
 rw [e1] at h2
 have h3 : S w0 w' (txK bs (blkOf bs i) (k.v i) { e.tx i with writes := mput (e.tx i).writes key val } :: engX b bs k e i :: L) := by
  refine h2.conv ?_
  rw [txK_parts]
  show _ = sep (sep (blk (blkOf bs i) _ (txF (k.v i) (e.tx i))) (sep (sl _ 2 (k.v i).rv (e.tx i).reads.length (pcells (e.tx i).reads)) (sep _ (sep (sl _ 1 (k.v i).fv (e.tx i).fore.length (ptrs bs (e.tx i).fore)) (sl _ 1 (k.v i).av (e.tx i).aft.length (ptrs bs (e.tx i).aft)))))) _
  simp only [all]; ac_rfl
 have h4 := S.eng_back hi h3
 have e2 : k.set i (k.v i) = k := by
  unfold EngV.set EngV.v
  have : k.tv.set i ((k.tv[i]?).getD .none) = k.tv := by simp [show i < k.tv.length by omega]
  rw [this]
 rw [e2] at h4
 have e3 : { e with txs := e.txs.set i { e.tx i with writes := mput (e.tx i).writes key val } } = e.wput i (key, val) := by
  have := Eng.upd_set hi (fun x => { x with writes := mput x.writes key val })
  unfold Eng.wput Eng.upd at this ⊢
  simp only at this
  rw [this]
 rwa [e3] at h4
theorem tx_size : (Tryz.prog.info? 123).map (·.size) = some 12 := by kernel_rfl
theorem eqlT_same (w : World) (p : Nat) : (binOp .eql 120 (.pointer (some ⟨p, 0, none⟩)) (.pointer (some ⟨p, 0, none⟩))).run Tryz.prog w = .ok (.bool true) w := by
 obtain ⟨j, hj, _⟩ := Option.map_eq_some_iff.1 tx_size
 exact run_eql_ptr_same w ⟨p, 0, none⟩ Tryz.underlying120 hj
theorem eqlT_other {w0 w : World} {b : Nat} {bs : List Nat} {k : EngV} {e : Eng} {i m : Nat} {L : List HProp} (hs : S w0 w (engO b bs k e :: L)) (hi : i < e.txs.length) (hm : m < e.txs.length) (hne : blkOf bs m ≠ blkOf bs i) :
  (binOp .eql 120 (.pointer (some ⟨blkOf bs m, 0, none⟩)) (.pointer (some ⟨blkOf bs i, 0, none⟩))).run Tryz.prog w = .ok (.bool false) w := by
 obtain ⟨j, hj, hsz⟩ := Option.map_eq_some_iff.1 tx_size
 exact run_eql_ptr_other w Tryz.underlying120 hj (by rw [hsz]; decide) (fun e1 => hne (congrArg Addr.block e1)) (hs.eng_tx hm).sep_elim.blk_heap (hs.eng_tx hi).sep_elim.blk_heap
set_option linter.unusedSimpArgs false in
set_option maxRecDepth 100000 in
set_option maxHeartbeats 20000000 in
theorem writes_any (n : Nat) (hg : GoesAny n) (w0 w : World) (b : Nat) (bs : List Nat) (e : Eng) (i : Nat) (key val : Int) (L : List HProp) (N : Nat) (U : List Task) (hok : OkT N e (.put i (key, val) :: U)) (ho : e.open_ ≤ n) (hN : N ≤ 100000000) (hs : S w0 w (engP b bs e :: L)) :
  Calls Tryz.prog 62 #[.pointer (some ⟨b, 0, none⟩), .int .i64 ((i : Int) + 1), .agg #[.int .i64 key, .int .i64 val]] w fun r w' => r = .returned (.tuple #[]) ∧ S w0 w' (engP b bs (putsG (goesN n) e i (key, val)) :: L) := by
 have hk0 := hok.ok _ (List.mem_cons_self ..)
 obtain ⟨hst, hkey, hval, _⟩ := hk0.put i (key, val) rfl
 have hi : i < e.txs.length := hk0.lt
 obtain ⟨k, hs⟩ := hs.eng_open
 have h1 := hs.alloc #[.int .i64 key, .int .i64 val] 101
 have hO : ∀ W M, S w0 W (M ++ (storeP 107 b 0 e.V e.last :: tabP 3 b 11 e.t :: engO b bs k e :: L)) → S w0 W (engO b bs k e :: L) := fun W M h => (h.rest).tail.tail
 have hc := (hO _ [_] h1).eng_c.2
 have c14 := hc.txs
 obtain ⟨a, cap, hv, hle, hcap, hrow⟩ := hc.row
 obtain ⟨g, o, rfl, ci⟩ := hrow i hi
 rw [hv] at c14
 unfold maxLen at hcap
 unfold ptr at ci
 have HS := hid h1; have HO := hid hO; have HOK := hid hok; have HG := hid hg; have HV := hid hv
 have hq : ∀ W M, S w0 W (blk w.heap.size 101 [.int .i64 key, .int .i64 val] :: storeP 107 b 0 e.V e.last :: tabP 3 b 11 e.t :: engO b bs k e :: M) → W.cell? ⟨w.heap.size, 0, none⟩ = some (.int .i64 key) ∧ W.cell? ⟨blkOf bs i, 2, none⟩ = some (.int .i64 (e.tx i).start) := fun W M h =>
  ⟨h.blk_cell 0 rfl, (h.tail.tail.tail.eng_txc hi).2.start⟩
 have HQ := hid hq
 have q0 := hq _ _ h1.drew
 have HHI := hid hi
 clear h1 hO hc hrow hok hg hq hs hk0 hv
 go_enter Tryz.func62, Tryz.ntmps62
 go_wp2_with fail
 go_region_held_law (fun w' => w'.cell? ⟨w.heap.size, 0, none⟩ = some (.int .i64 key) ∧ w'.cell? ⟨blkOf bs i, 2, none⟩ = some (.int .i64 (e.tx i).start)) (first | (with_reducible assumption) | (with_reducible exact q0) | (with_reducible exact q1))
  ((go_at_call 81; with_reducible refine (enewer_any w0 _ b e key _ _ N _ HOK.out hkey (HS.out.drew.swap)).mono ?_; rintro r w2 ⟨an, cn, rfl, hcn, hcn2, hs2⟩; have q1 := HQ.out _ _ (hs2.tail.swap); have G2 := hid hs2; clear hs2))
 have hs3 := G2.out.tail.swap
 have c0 := (hs3.tail.tail.tail.eng_txc HHI.out).2.level
 unfold maxLen at hcn2
 have HLT : Hid (e.late i key ↔ (e.tx i).level ≠ 0 ∧ newerL (e.row key) (e.tx i).start ≠ []) := hid Iff.rfl
 have HM : Hid (newerL (e.row key) (e.tx i).start ≠ [] ↔ 0 < (newerL (e.row key) (e.tx i).start).length) := hid (by rw [List.length_pos_iff])
 have hml : (newerL (e.row key) (e.tx i).start).length ≤ 9223372036854775807 := by omega
 generalize (newerL (e.row key) (e.tx i).start).length = m at *
 have H3 := hid hs3
 clear hs3 q0 G2 HS
 by_cases hl : e.late i key
 ·obtain ⟨hl0, hl1⟩ := HLT.out.1 hl
  have hm0 := HM.out.1 hl1
  have hb0 : ((e.tx i).level != 0) = true := by simpa using hl0
  have hlv : putsG (goesN n) e i (key, val) = goesN n e i 10 := if_pos hl
  have HF := hid hlv
  have hcall := HG.out w0 _ b bs e i 10 L N U (HOK.out.tail (by simp)) HHI.out (by simp [Tx.alive, hst]) (HOK.out.who_ne) ho hN H3.out.tail.eng_shut
  have HC := hid hcall
  clear hl hl0 hl1 hlv hcall HLT HM
  go_wp2_with fail
  with_reducible refine HC.out.mono ?_
  rintro r w' ⟨rfl, hs'⟩
  have H4 := hid hs'
  clear hs'
  go_wp2_with fail
  refine bodyPost_ret (v := .tuple #[]) (by simp [results, Tryz.results62, go_sem]) rfl ?_
  exact ⟨rfl, by rw [HF.out]; exact H4.out⟩
 have hw := HOK.out.wput
 have HW := hid hw
 have hup : ∀ W, S w0 W (blk w.heap.size 101 [.int .i64 key, .int .i64 val] :: storeP 107 b 0 e.V e.last :: tabP 3 b 11 e.t :: engO b bs k e :: L) → ∃ w', (Instr.mapUpdate 53 (.map (some (k.v i).mb)) (.int .i64 key) (.int .i64 val)).run Tryz.prog W = .ok () w' ∧ S w0 w' (blk w.heap.size 101 [.int .i64 key, .int .i64 val] :: storeP 107 b 0 (e.wput i (key, val)).V (e.wput i (key, val)).last :: tabP 3 b 11 (e.wput i (key, val)).t :: engO b bs k (e.wput i (key, val)) :: L) := by
  intro W hW
  obtain ⟨w', hr, h⟩ := eng_wput (hW.conv (M := engO b bs k e :: blk w.heap.size 101 [.int .i64 key, .int .i64 val] :: storeP 107 b 0 e.V e.last :: tabP 3 b 11 e.t :: L) (by simp only [all]; ac_rfl)) HHI.out key val
  exact ⟨w', hr, h.conv (by simp only [all]; show sep _ (sep _ (sep (storeP _ b 0 e.V e.last) (sep (tabP _ b 11 e.t) _))) = sep _ (sep (storeP _ b 0 e.V e.last) (sep (tabP _ b 11 e.t) _)); ac_rfl)⟩
 have hq5 : ∀ W M, S w0 W (blk w.heap.size 101 [.int .i64 key, .int .i64 val] :: storeP 107 b 0 e.V e.last :: tabP 3 b 11 e.t :: engO b bs k e :: M) → W.cell? ⟨blkOf bs i, 6, none⟩ = some (.map (some (k.v i).mb)) ∧ W.cell? ⟨w.heap.size, 0, none⟩ = some (.int .i64 key) ∧ W.cell? ⟨w.heap.size, 1, none⟩ = some (.int .i64 val) := fun W M h =>
  ⟨(h.tail.tail.tail.eng_txc HHI.out).2.writes, h.blk_cell 0 rfl, h.blk_cell 1 rfl⟩
 have HUP := hid hup; have HQ5 := hid hq5
 clear hup hq5 hw
 go_upto_region 3 with fail
 go_cut [41] (fun c wx => c = .bool false ∧ S w0 wx (blk w.heap.size 101 [.int .i64 key, .int .i64 val] :: storeP 107 b 0 e.V e.last :: tabP 3 b 11 e.t :: engO b bs k e :: L))
 case first =>
  by_cases h0 : (e.tx i).level = 0
  ·have hb : ((e.tx i).level != 0) = false := by simp [h0]
   clear hl h0 HLT HM
   go_wp2_with fail
   go_meet
   exact ⟨rfl, H3.out⟩
  ·have hb : ((e.tx i).level != 0) = true := by simpa using h0
   obtain rfl : m = 0 := by
    rcases Nat.eq_zero_or_pos m with h1 | h1
    ·exact h1
    ·exact absurd (HLT.out.2 ⟨h0, HM.out.2 h1⟩) hl
   clear hl h0 HLT HM
   go_wp2_with fail
   go_meet
   exact ⟨rfl, H3.out⟩
 case rest =>
 rename World => w3
 obtain ⟨rfl, hs4⟩ := hcut
 have H4 := hid hs4
 clear hs4 c0 H3 HLT HM
 go_upto_region 5 with fail
 go_cut [] (fun wx => S w0 wx (blk w.heap.size 101 [.int .i64 key, .int .i64 val] :: storeP 107 b 0 (e.wput i (key, val)).V (e.wput i (key, val)).last :: tabP 3 b 11 (e.wput i (key, val)).t :: engO b bs k (e.wput i (key, val)) :: L))
 case first =>
  refine region_U (S := fun w' => w'.cell? ⟨blkOf bs i, 6, none⟩ = some (.map (some (k.v i).mb)) ∧ w'.cell? ⟨w.heap.size, 0, none⟩ = some (.int .i64 key) ∧ w'.cell? ⟨w.heap.size, 1, none⟩ = some (.int .i64 val)) (u := 8) (by kernel_rfl) (HQ5.out _ _ H4.out.drew) (fun hHeld => ?_)
  refine anyU_take (i := 0) (v := ?_) rfl (by kernel_rfl) (fun _ _ _ h => h) (Or.inl ⟨by rfl, ?_⟩) hHeld ?_
  rotate_left
  ·(intro w hSw; (try dsimp only at hSw); go_simp) <;> with_reducible rfl
  try simp only [putU]
  refine anyU_take (i := 1) (v := ?_) rfl (by kernel_rfl) (fun _ _ _ h => h) (Or.inl ⟨by rfl, ?_⟩) hHeld ?_
  rotate_left
  ·(intro w hSw; (try dsimp only at hSw); go_simp) <;> with_reducible rfl
  try simp only [putU]
  refine anyU_take (i := 2) (v := ?_) rfl (by kernel_rfl) (fun _ _ _ h => h) (Or.inl ⟨by rfl, ?_⟩) hHeld ?_
  rotate_left
  ·(intro w hSw; (try dsimp only at hSw); go_simp) <;> with_reducible rfl
  try simp only [putU]
  refine anyU_take (i := 3) (v := ?_) rfl (by kernel_rfl) (fun _ _ _ h => h) (Or.inl ⟨by rfl, ?_⟩) hHeld ?_
  rotate_left
  ·(intro w hSw; (try dsimp only at hSw); go_simp) <;> with_reducible rfl
  try simp only [putU]
  refine anyU_take (i := 4) (v := ?_) rfl (by kernel_rfl) (fun _ _ _ h => h) (Or.inl ⟨by rfl, ?_⟩) hHeld ?_
  rotate_left
  ·(intro w hSw; (try dsimp only at hSw); go_simp) <;> with_reducible rfl
  try simp only [putU]
  refine anyU_take (i := 5) (v := ?_) rfl (by kernel_rfl) (fun _ _ _ h => h) (Or.inl ⟨by rfl, ?_⟩) hHeld ?_
  rotate_left
  ·(intro w hSw; (try dsimp only at hSw); go_simp) <;> with_reducible rfl
  try simp only [putU]
  refine anyU_take (i := 6) (v := ?_) rfl (by kernel_rfl) (fun _ _ _ h => h) (Or.inl ⟨by rfl, ?_⟩) hHeld ?_
  rotate_left
  ·(intro w hSw; (try dsimp only at hSw); go_simp) <;> with_reducible rfl
  try simp only [putU]
  refine anyU_take (i := 7) (v := ?_) rfl (by kernel_rfl) (fun _ _ _ h => h) (Or.inl ⟨by rfl, ?_⟩) hHeld ?_
  rotate_left
  ·(intro w hSw; (try dsimp only at hSw); go_simp) <;> with_reducible rfl
  try simp only [putU]
  have HS := hid H4.out.drew
  clear hHeld
  refine anyU_world (fun w => Hid (S w0 w _)) HS (fun w1 HS => ?_)
  refine anyU_next (rs := [8]) (by kernel_rfl) (by simp) ?_
  refine NextU.cons rfl (fun K hK => ?_) ?_
  ·refine step_mapuE rfl 53 (.tmp 48) (.tmp 50) (.tmp 52) rfl (by rfl) (by rfl) (by rfl) (HUP.out _ HS.out) ?_
   intro w2 hs2
   have H6 := hid hs2
   clear hs2
   refine hK.out _ _ (fun h => Bool.noConfusion (show true = false from h)) ?_
   clear hK K
   try simp only [putU]
   refine anyU_done (by kernel_rfl) ?_ _
   go_wp2_with fail
   go_meet
   exact H6.out
  exact NextU.nil
 case rest =>
 rename World => w4
 have H5 := hid hcut
 clear hcut H4 HUP HQ5 HQ HO
 have hlv : ((e.wput i (key, val)).tx i).level = (e.tx i).level := Eng.upd_keep (·.level) (fun x => { x with writes := mput x.writes key val }) (fun _ => rfl) i
 have hln : (e.wput i (key, val)).txs.length = e.txs.length := Eng.upd_len ..
 have hop : (e.wput i (key, val)).open_ = e.open_ := Eng.many_keep Tx.alive _ fun _ => rfl
 have HHI2 : i < (e.wput i (key, val)).txs.length := by rw [hln]; exact HHI.out
 have c0 := (H5.out.tail.tail.tail.eng_txc HHI2).2.level
 rw [hlv] at c0
 have HLV := hid hlv; have HLN := hid hln; have HOP := hid hop
 clear hlv hln hop
 by_cases h2 : (e.tx i).level ≠ 2
 ·have hb2 : ((e.tx i).level != 2) = true := by simpa using h2
  have hpv : putsG (goesN n) e i (key, val) = e.wput i (key, val) := by unfold putsG; rw [if_neg hl, if_neg h2]
  have HF := hid hpv
  clear hl h2 hpv HHI2
  go_wp2_with fail
  refine bodyPost_ret (v := .tuple #[]) (by simp [results, Tryz.results62, go_sem]) rfl ?_
  exact ⟨rfl, by rw [HF.out]; exact H5.out.tail.eng_shut⟩
 have h2 := Decidable.not_not.1 h2
 have hb2 : ((e.tx i).level != 2) = false := by simp [h2]
 have hpv : putsG (goesN n) e i (key, val) = putsL (goesN n) i key (List.range e.txs.length) (e.wput i (key, val)) := by unfold putsG; rw [if_neg hl, if_pos h2]
 have hok2 := HW.out.2 h2
 have HF := hid hpv; have HOK2 := hid hok2
 have hc4 := H5.out.tail.tail.tail.eng_c.2.txs
 rw [HV.out] at hc4
 have hrow : ∀ (W : World) (k1 : EngV) (e1 : Eng) (M : List HProp), k1.txv = k.txv → e1.txs.length = e.txs.length → S w0 W (engO b bs k1 e1 :: M) → ∀ j, j < e.txs.length → W.cell? ⟨g, o + j, none⟩ = some (ptr bs j) := by
  intro W k1 e1 M h1 h2 h3 j hj
  obtain ⟨a', cap', h4, _, _, h5⟩ := h3.eng_c.2.row
  obtain ⟨g', o', h6, h7⟩ := h5 j (by omega)
  rw [h1, HV.out, h6] at h4
  simp only [Value.slice.injEq, Option.some.injEq, Addr.mk.injEq] at h4
  obtain ⟨⟨rfl, rfl, _⟩, _, _⟩ := h4
  exact h7
 have HROW := hid hrow
 have hfew := HOK.out.few
 have HO2 : Hid ((e.wput i (key, val)).open_ ≤ n) := hid (by rw [HOP.out]; exact ho)
 clear hl h2 hpv hok2 hrow HHI2 HW HOP
 go_wp2_with fail
 go_loopw [63] (fun c wr => ∃ (m : Nat) (e1 : Eng) (k1 : EngV), m ≤ e.txs.length ∧ c = .int .i64 m ∧ Hid (k1.txv = k.txv) ∧ Hid (OkT N e1 (.ask i key ((List.range e.txs.length).drop m) :: U)) ∧ Hid (e1.open_ ≤ n) ∧ Hid (e1.txs.length = e.txs.length) ∧ Hid (putsG (goesN n) e i (key, val) = putsL (goesN n) i key ((List.range e.txs.length).drop m) e1) ∧ S w0 wr (blk w.heap.size 101 [.int .i64 key, .int .i64 val] :: storeP 107 b 0 e1.V e1.last :: tabP 3 b 11 e1.t :: engO b bs k1 e1 :: L)) (fun c _ => e.txs.length - (intOf c).toNat)
 case atStart => exact ⟨0, e.wput i (key, val), k, Nat.zero_le _, rfl, hid rfl, HOK2, HO2, HLN, HF, H5.out⟩
 case round =>
  rename World => wr
  obtain ⟨m, e1, k1, hm, rfl, hk1, hok1, ho1, hn1, hf1, hsr⟩ := hrel
  clear H5 HF HOK2 HO2 HLN HLV HOK hc4 c0
  by_cases hlt : m < e.txs.length
  ·have hd : (List.range e.txs.length).drop m = m :: (List.range e.txs.length).drop (m + 1) := by rw [List.drop_eq_getElem_cons (by simpa using hlt)]; simp
   have hok2 := hok1.out
   have hf2 := hf1.out
   rw [hd] at hok2 hf2
   have hj : m < e1.txs.length := by rw [hn1.out]; exact hlt
   have hi1 : i < e1.txs.length := by rw [hn1.out]; exact HHI.out
   have cm := HROW.out wr k1 e1 _ hk1.out hn1.out hsr.tail.tail.tail m hlt
   unfold ptr at cm
   have hq10 : ∀ W M, S w0 W (blk w.heap.size 101 [.int .i64 key, .int .i64 val] :: storeP 107 b 0 e1.V e1.last :: tabP 3 b 11 e1.t :: engO b bs k1 e1 :: M) → W.cell? ⟨blkOf bs m, 1, none⟩ = some (.int .i64 (e1.tx m).state) ∧ W.cell? ⟨blkOf bs m, 4, none⟩ = some (.int .i64 (e1.tx m).ended) ∧ W.cell? ⟨blkOf bs i, 3, none⟩ = some (.int .i64 (e1.tx i).begun) ∧ W.cell? ⟨blkOf bs m, 5, none⟩ = some (k1.v m).rv := fun W M h =>
    ⟨(h.tail.tail.tail.eng_txc hj).2.state, (h.tail.tail.tail.eng_txc hj).2.ended, (h.tail.tail.tail.eng_txc hi1).2.begun, (h.tail.tail.tail.eng_txc hj).2.reads⟩
   have hstr : ∀ W, S w0 W (blk w.heap.size 101 [.int .i64 key, .int .i64 val] :: storeP 107 b 0 e1.V e1.last :: tabP 3 b 11 e1.t :: engO b bs k1 e1 :: L) → Calls Tryz.prog 82 #[.pointer (some ⟨blkOf bs m, 0, none⟩)] W fun r w' => r = .returned (.bool (e1.tx m).strict) ∧ W = w' := fun W h => strict_eng w0 W b bs k1 e1 m _ h.tail.tail.tail hj
   have hcon : ∀ W, S w0 W (blk w.heap.size 101 [.int .i64 key, .int .i64 val] :: storeP 107 b 0 e1.V e1.last :: tabP 3 b 11 e1.t :: engO b bs k1 e1 :: L) → Calls Tryz.prog 85 #[(k1.v m).rv, sawF w.heap.size] W fun r w' => r = .returned (.bool ((e1.tx m).saw key)) ∧ S w0 w' (blk w.heap.size 101 [.int .i64 key, .int .i64 val] :: storeP 107 b 0 e1.V e1.last :: tabP 3 b 11 e1.t :: engO b bs k1 e1 :: L) := fun W h =>
    (containsR_any w0 W b bs k1 e1 m w.heap.size key val (storeP 107 b 0 e1.V e1.last :: tabP 3 b 11 e1.t :: L) (h.conv (by simp only [all]; ac_rfl)) hj).mono fun r w' h => ⟨h.1, h.2.conv (by simp only [all]; ac_rfl)⟩
   have hsk : skips e1 i key m = (decide (m = i) || !(e1.tx m).strict || (decide ((e1.tx m).state = 2) && decide ((e1.tx m).ended < (e1.tx i).begun)) || !(e1.tx m).saw key) := rfl
   have hbne : m ≠ i → blkOf bs m ≠ blkOf bs i := fun h => blk_ne hsr.tail.tail.tail.eng_c.2 hj hi1 h
   have HR0 := hid hsr; have HQ10 := hid hq10; have HCON := hid hcon; have HOKM := hid hok2; have HFM := hid hf2; have HSTR0 := hid hstr; have HSK0 := hid hsk; have HBNE := hid hbne; have HJ := hid hj; have HI1 := hid hi1
   clear hd hok2 hf2 hj hi1 hq10 hstr hcon hsk hsr hok1 hf1 hbne
   go_upto_region 10 with fail
   go_cut [101] (fun s101 wx => s101 = .bool (skips e1 i key m) ∧ S w0 wx (blk w.heap.size 101 [.int .i64 key, .int .i64 val] :: storeP 107 b 0 e1.V e1.last :: tabP 3 b 11 e1.t :: engO b bs k1 e1 :: L))
   case first =>
    generalize (e1.tx m).state = stj at *
    generalize (e1.tx m).ended = enj at *
    generalize (e1.tx i).begun = bgi at *
    generalize hrv : (k1.v m).rv = rvj at *
    clear hrv
    generalize (e1.tx m).saw key = sk at *
    generalize (e1.tx m).strict = st at *
    have HSTR := HSTR0
    clear HSTR0
    by_cases hmi : m = i
    ·subst hmi
     have HSK : Hid (skips e1 m key m = true) := hid (by rw [HSK0.out]; simp)
     have heqs := fun w => eqlT_same w (blkOf bs m)
     clear HSK0 HBNE
     refine wp_region_held_drew (S := fun w' => w'.cell? ⟨blkOf bs m, 1, none⟩ = some (.int .i64 stj) ∧ w'.cell? ⟨blkOf bs m, 4, none⟩ = some (.int .i64 enj) ∧ w'.cell? ⟨blkOf bs m, 3, none⟩ = some (.int .i64 bgi) ∧ w'.cell? ⟨blkOf bs m, 5, none⟩ = some rvj) (by kernel_rfl) (HQ10.out _ _ HR0.out.drew) (fun hHeld => ?_)
     refine wpAnyH_take (i := 0) (v := ?_) rfl (by kernel_rfl) (by kernel_rfl) (by kernel_rfl) (fun _ _ _ h => h) (Or.inl ⟨by rfl, ?_⟩) hHeld ?_
     rotate_left
     ·(intro w hSw; (try dsimp only at hSw); go_simp) <;> with_reducible rfl
     try simp only [putU]
     refine wpAnyH_take (i := 1) (v := ?_) rfl (by kernel_rfl) (by kernel_rfl) (by kernel_rfl) (fun _ _ _ h => h) (Or.inl ⟨by rfl, ?_⟩) hHeld ?_
     rotate_left
     ·(intro w hSw; (try dsimp only at hSw); go_simp) <;> with_reducible rfl
     try simp only [putU]
     refine wpAnyH_take (i := 2) (v := ?_) rfl (by kernel_rfl) (by kernel_rfl) (by kernel_rfl) (fun _ _ _ h => h) (Or.inl ⟨by rfl, ?_⟩) hHeld ?_
     rotate_left
     ·(intro w hSw; (try dsimp only at hSw); go_simp) <;> with_reducible rfl
     try simp only [putU]
     refine wpAnyH_take (i := 3) (v := ?_) rfl (by kernel_rfl) (by kernel_rfl) (by kernel_rfl) (fun _ _ _ h => h) (Or.inl ⟨by rfl, ?_⟩) hHeld ?_
     rotate_left
     ·(intro w hSw; (try dsimp only at hSw); go_simp) <;> with_reducible rfl
     try simp only [putU]
     refine wpAnyH_take (i := 4) (v := undef) rfl (by kernel_rfl) (by kernel_rfl) (by kernel_rfl) (fun _ _ _ h => h) (Or.inr ⟨by rfl, rfl⟩) hHeld ?_
     try simp only [putU]
     refine wpAnyH_take (i := 5) (v := undef) rfl (by kernel_rfl) (by kernel_rfl) (by kernel_rfl) (fun _ _ _ h => h) (Or.inr ⟨by rfl, rfl⟩) hHeld ?_
     try simp only [putU]
     refine wpAnyH_take (i := 6) (v := undef) rfl (by kernel_rfl) (by kernel_rfl) (by kernel_rfl) (fun _ _ _ h => h) (Or.inr ⟨by rfl, rfl⟩) hHeld ?_
     try simp only [putU]
     refine wpAnyH_take (i := 7) (v := ?_) rfl (by kernel_rfl) (by kernel_rfl) (by kernel_rfl) (fun _ _ _ h => h) (Or.inl ⟨by rfl, ?_⟩) hHeld ?_
     rotate_left
     ·(intro w hSw; (try dsimp only at hSw); go_simp) <;> with_reducible rfl
     try simp only [putU]
     refine wpAnyH_take (i := 8) (v := ?_) rfl (by kernel_rfl) (by kernel_rfl) (by kernel_rfl) (fun _ _ _ h => h) (Or.inl ⟨by rfl, ?_⟩) hHeld ?_
     rotate_left
     ·(intro w hSw; (try dsimp only at hSw); go_simp) <;> with_reducible rfl
     try simp only [putU]
     refine wpAnyH_take (i := 9) (v := undef) rfl (by kernel_rfl) (by kernel_rfl) (by kernel_rfl) (fun _ _ _ h => h) (Or.inr ⟨by rfl, rfl⟩) hHeld ?_
     try simp only [putU]
     refine wpAnyH_take (i := 10) (v := undef) rfl (by kernel_rfl) (by kernel_rfl) (by kernel_rfl) (fun _ _ _ h => h) (Or.inr ⟨by rfl, rfl⟩) hHeld ?_
     try simp only [putU]
     refine wpAnyH_take (i := 11) (v := undef) rfl (by kernel_rfl) (by kernel_rfl) (by kernel_rfl) (fun _ _ _ h => h) (Or.inr ⟨by rfl, rfl⟩) hHeld ?_
     try simp only [putU]
     refine wpAnyH_take (i := 12) (v := undef) rfl (by kernel_rfl) (by kernel_rfl) (by kernel_rfl) (fun _ _ _ h => h) (Or.inr ⟨by rfl, rfl⟩) hHeld ?_
     try simp only [putU]
     refine wpAnyH_take (i := 13) (v := undef) rfl (by kernel_rfl) (by kernel_rfl) (by kernel_rfl) (fun _ _ _ h => h) (Or.inr ⟨by rfl, rfl⟩) hHeld ?_
     try simp only [putU]
     refine wpAnyH_take (i := 14) (v := undef) rfl (by kernel_rfl) (by kernel_rfl) (by kernel_rfl) (fun _ _ _ h => h) (Or.inr ⟨by rfl, rfl⟩) hHeld ?_
     try simp only [putU]
     refine wpAnyH_take (i := 15) (v := undef) rfl (by kernel_rfl) (by kernel_rfl) (by kernel_rfl) (fun _ _ _ h => h) (Or.inr ⟨by rfl, rfl⟩) hHeld ?_
     try simp only [putU]
     refine wpAnyH_take (i := 16) (v := undef) rfl (by kernel_rfl) (by kernel_rfl) (by kernel_rfl) (fun _ _ _ h => h) (Or.inr ⟨by rfl, rfl⟩) hHeld ?_
     try simp only [putU]
     refine wpAnyH_take (i := 17) (v := undef) rfl (by kernel_rfl) (by kernel_rfl) (by kernel_rfl) (fun _ _ _ h => h) (Or.inr ⟨by rfl, rfl⟩) hHeld ?_
     try simp only [putU]
     refine wpAnyH_take (i := 18) (v := undef) rfl (by kernel_rfl) (by kernel_rfl) (by kernel_rfl) (fun _ _ _ h => h) (Or.inr ⟨by rfl, rfl⟩) hHeld ?_
     try simp only [putU]
     refine wpAnyH_take (i := 19) (v := undef) rfl (by kernel_rfl) (by kernel_rfl) (by kernel_rfl) (fun _ _ _ h => h) (Or.inr ⟨by rfl, rfl⟩) hHeld ?_
     try simp only [putU]
     refine wpAnyH_take (i := 20) (v := undef) rfl (by kernel_rfl) (by kernel_rfl) (by kernel_rfl) (fun _ _ _ h => h) (Or.inr ⟨by rfl, rfl⟩) hHeld ?_
     try simp only [putU]
     refine wpAnyH_take (i := 21) (v := undef) rfl (by kernel_rfl) (by kernel_rfl) (by kernel_rfl) (fun _ _ _ h => h) (Or.inr ⟨by rfl, rfl⟩) hHeld ?_
     try simp only [putU]
     refine wpAnyH_take (i := 22) (v := undef) rfl (by kernel_rfl) (by kernel_rfl) (by kernel_rfl) (fun _ _ _ h => h) (Or.inr ⟨by rfl, rfl⟩) hHeld ?_
     try simp only [putU]
     refine wpAnyH_take (i := 23) (v := undef) rfl (by kernel_rfl) (by kernel_rfl) (by kernel_rfl) (fun _ _ _ h => h) (Or.inr ⟨by rfl, rfl⟩) hHeld ?_
     try simp only [putU]
     refine wpAnyH_take (i := 24) (v := undef) rfl (by kernel_rfl) (by kernel_rfl) (by kernel_rfl) (fun _ _ _ h => h) (Or.inr ⟨by rfl, rfl⟩) hHeld ?_
     try simp only [putU]
     refine wpAnyH_take (i := 25) (v := ?_) rfl (by kernel_rfl) (by kernel_rfl) (by kernel_rfl) (fun _ _ _ h => h) (Or.inl ⟨by rfl, ?_⟩) hHeld ?_
     rotate_left
     ·(intro w hSw; (try dsimp only at hSw); go_simp) <;> with_reducible rfl
     try simp only [putU]
     refine wpAnyH_take (i := 26) (v := ?_) rfl (by kernel_rfl) (by kernel_rfl) (by kernel_rfl) (fun _ _ _ h => h) (Or.inl ⟨by rfl, ?_⟩) hHeld ?_
     rotate_left
     ·(intro w hSw; (try dsimp only at hSw); go_simp) <;> with_reducible rfl
     try simp only [putU]
     refine wpAnyH_take (i := 27) (v := undef) rfl (by kernel_rfl) (by kernel_rfl) (by kernel_rfl) (fun _ _ _ h => h) (Or.inr ⟨by rfl, rfl⟩) hHeld ?_
     try simp only [putU]
     refine wpAnyH_take (i := 28) (v := undef) rfl (by kernel_rfl) (by kernel_rfl) (by kernel_rfl) (fun _ _ _ h => h) (Or.inr ⟨by rfl, rfl⟩) hHeld ?_
     try simp only [putU]
     refine wpAnyH_take (i := 29) (v := undef) rfl (by kernel_rfl) (by kernel_rfl) (by kernel_rfl) (fun _ _ _ h => h) (Or.inr ⟨by rfl, rfl⟩) hHeld ?_
     try simp only [putU]
     refine wpAnyH_take (i := 30) (v := undef) rfl (by kernel_rfl) (by kernel_rfl) (by kernel_rfl) (fun _ _ _ h => h) (Or.inr ⟨by rfl, rfl⟩) hHeld ?_
     try simp only [putU]
     refine wpAnyH_take (i := 31) (v := undef) rfl (by kernel_rfl) (by kernel_rfl) (by kernel_rfl) (fun _ _ _ h => h) (Or.inr ⟨by rfl, rfl⟩) hHeld ?_
     try simp only [putU]
     refine wpAnyH_take (i := 32) (v := undef) rfl (by kernel_rfl) (by kernel_rfl) (by kernel_rfl) (fun _ _ _ h => h) (Or.inr ⟨by rfl, rfl⟩) hHeld ?_
     try simp only [putU]
     refine wpAnyH_take (i := 33) (v := undef) rfl (by kernel_rfl) (by kernel_rfl) (by kernel_rfl) (fun _ _ _ h => h) (Or.inr ⟨by rfl, rfl⟩) hHeld ?_
     try simp only [putU]
     refine wpAnyH_take (i := 34) (v := ?_) rfl (by kernel_rfl) (by kernel_rfl) (by kernel_rfl) (fun _ _ _ h => h) (Or.inl ⟨by rfl, ?_⟩) hHeld ?_
     rotate_left
     ·(intro w hSw; (try dsimp only at hSw); go_simp) <;> with_reducible rfl
     try simp only [putU]
     have HS := hid HR0.out.drew
     clear hHeld
     refine anyH_world (fun w => Hid (S w0 w _)) HS (fun w1 HS => ?_)
     refine wpAnyH_done (by kernel_rfl) ?_ _
     go_wp2_with fail
     go_meet
     exact ⟨by rw [HSK.out] <;> rfl, HS.out⟩
    have hne := HBNE.out hmi
    have hq11 := fun W M h => And.intro (eqlT_other (S.tail (S.tail (S.tail h))) HI1.out HJ.out hne) (HQ10.out W M h)
    have HQ11 := hid hq11
    clear HBNE hne hq11 HQ10
    cases st with
    | false =>
     have HSK : Hid (skips e1 i key m = true) := hid (by rw [HSK0.out]; simp)
     clear HSK0 hmi
     refine wp_region_held_drew (S := fun w' => (binOp .eql 120 (.pointer (some ⟨blkOf bs m, 0, none⟩)) (.pointer (some ⟨blkOf bs i, 0, none⟩))).run Tryz.prog w' = .ok (.bool false) w' ∧ w'.cell? ⟨blkOf bs m, 1, none⟩ = some (.int .i64 stj) ∧ w'.cell? ⟨blkOf bs m, 4, none⟩ = some (.int .i64 enj) ∧ w'.cell? ⟨blkOf bs i, 3, none⟩ = some (.int .i64 bgi) ∧ w'.cell? ⟨blkOf bs m, 5, none⟩ = some rvj) (by kernel_rfl) (HQ11.out _ _ HR0.out.drew) (fun hHeld => ?_)
     refine wpAnyH_take (i := 0) (v := ?_) rfl (by kernel_rfl) (by kernel_rfl) (by kernel_rfl) (fun _ _ _ h => h) (Or.inl ⟨by rfl, ?_⟩) hHeld ?_
     rotate_left
     ·(intro w hSw; (try dsimp only at hSw); go_simp) <;> with_reducible rfl
     try simp only [putU]
     refine wpAnyH_take (i := 1) (v := ?_) rfl (by kernel_rfl) (by kernel_rfl) (by kernel_rfl) (fun _ _ _ h => h) (Or.inl ⟨by rfl, ?_⟩) hHeld ?_
     rotate_left
     ·(intro w hSw; (try dsimp only at hSw); go_simp) <;> with_reducible rfl
     try simp only [putU]
     refine wpAnyH_take (i := 2) (v := ?_) rfl (by kernel_rfl) (by kernel_rfl) (by kernel_rfl) (fun _ _ _ h => h) (Or.inl ⟨by rfl, ?_⟩) hHeld ?_
     rotate_left
     ·(intro w hSw; (try dsimp only at hSw); go_simp) <;> with_reducible rfl
     try simp only [putU]
     refine wpAnyH_take (i := 3) (v := ?_) rfl (by kernel_rfl) (by kernel_rfl) (by kernel_rfl) (fun _ _ _ h => h) (Or.inl ⟨by rfl, ?_⟩) hHeld ?_
     rotate_left
     ·(intro w hSw; (try dsimp only at hSw); go_simp) <;> with_reducible rfl
     try simp only [putU]
     refine wpAnyH_take (i := 4) (v := ?_) rfl (by kernel_rfl) (by kernel_rfl) (by kernel_rfl) (fun _ _ _ h => h) (Or.inl ⟨by rfl, ?_⟩) hHeld ?_
     rotate_left
     ·(intro w hSw; (try dsimp only at hSw); go_simp) <;> with_reducible rfl
     try simp only [putU]
     have HS := hid HR0.out.drew
     clear hHeld
     refine anyH_world (fun w => Hid (S w0 w _)) HS (fun w1 HS => ?_)
     refine wpAnyH_ready (rs := [5]) (by kernel_rfl) (by simp) ?_
     refine AllReadyH.cons rfl (fun K hK => ?_) ?_
     ·go_simp
      go_wp2_with (go_at_call 82; with_reducible refine (HSTR.out _ HS.out).mono ?_; rintro r w' ⟨rfl, rfl⟩)
      refine hK.out _ _ (HQ11.out _ _ HS.out) (fun _ => ?_)
      clear hK K
      refine wpAnyH_take (i := 6) (v := ?_) rfl (by kernel_rfl) (by kernel_rfl) (by kernel_rfl) (fun _ _ _ h => h) (Or.inl ⟨by rfl, ?_⟩) (HQ11.out _ _ HS.out) ?_
      rotate_left
      ·(intro w hSw; (try dsimp only at hSw); go_simp) <;> with_reducible rfl
      try simp only [putU]
      refine wpAnyH_take (i := 7) (v := ?_) rfl (by kernel_rfl) (by kernel_rfl) (by kernel_rfl) (fun _ _ _ h => h) (Or.inl ⟨by rfl, ?_⟩) (HQ11.out _ _ HS.out) ?_
      rotate_left
      ·(intro w hSw; (try dsimp only at hSw); go_simp) <;> with_reducible rfl
      try simp only [putU]
      refine wpAnyH_take (i := 8) (v := ?_) rfl (by kernel_rfl) (by kernel_rfl) (by kernel_rfl) (fun _ _ _ h => h) (Or.inl ⟨by rfl, ?_⟩) (HQ11.out _ _ HS.out) ?_
      rotate_left
      ·(intro w hSw; (try dsimp only at hSw); go_simp) <;> with_reducible rfl
      try simp only [putU]
      refine wpAnyH_take (i := 9) (v := undef) rfl (by kernel_rfl) (by kernel_rfl) (by kernel_rfl) (fun _ _ _ h => h) (Or.inr ⟨by rfl, rfl⟩) (HQ11.out _ _ HS.out) ?_
      try simp only [putU]
      refine wpAnyH_take (i := 10) (v := undef) rfl (by kernel_rfl) (by kernel_rfl) (by kernel_rfl) (fun _ _ _ h => h) (Or.inr ⟨by rfl, rfl⟩) (HQ11.out _ _ HS.out) ?_
      try simp only [putU]
      refine wpAnyH_take (i := 11) (v := undef) rfl (by kernel_rfl) (by kernel_rfl) (by kernel_rfl) (fun _ _ _ h => h) (Or.inr ⟨by rfl, rfl⟩) (HQ11.out _ _ HS.out) ?_
      try simp only [putU]
      refine wpAnyH_take (i := 12) (v := undef) rfl (by kernel_rfl) (by kernel_rfl) (by kernel_rfl) (fun _ _ _ h => h) (Or.inr ⟨by rfl, rfl⟩) (HQ11.out _ _ HS.out) ?_
      try simp only [putU]
      refine wpAnyH_take (i := 13) (v := undef) rfl (by kernel_rfl) (by kernel_rfl) (by kernel_rfl) (fun _ _ _ h => h) (Or.inr ⟨by rfl, rfl⟩) (HQ11.out _ _ HS.out) ?_
      try simp only [putU]
      refine wpAnyH_take (i := 14) (v := undef) rfl (by kernel_rfl) (by kernel_rfl) (by kernel_rfl) (fun _ _ _ h => h) (Or.inr ⟨by rfl, rfl⟩) (HQ11.out _ _ HS.out) ?_
      try simp only [putU]
      refine wpAnyH_take (i := 15) (v := undef) rfl (by kernel_rfl) (by kernel_rfl) (by kernel_rfl) (fun _ _ _ h => h) (Or.inr ⟨by rfl, rfl⟩) (HQ11.out _ _ HS.out) ?_
      try simp only [putU]
      refine wpAnyH_take (i := 16) (v := undef) rfl (by kernel_rfl) (by kernel_rfl) (by kernel_rfl) (fun _ _ _ h => h) (Or.inr ⟨by rfl, rfl⟩) (HQ11.out _ _ HS.out) ?_
      try simp only [putU]
      refine wpAnyH_take (i := 17) (v := undef) rfl (by kernel_rfl) (by kernel_rfl) (by kernel_rfl) (fun _ _ _ h => h) (Or.inr ⟨by rfl, rfl⟩) (HQ11.out _ _ HS.out) ?_
      try simp only [putU]
      refine wpAnyH_take (i := 18) (v := undef) rfl (by kernel_rfl) (by kernel_rfl) (by kernel_rfl) (fun _ _ _ h => h) (Or.inr ⟨by rfl, rfl⟩) (HQ11.out _ _ HS.out) ?_
      try simp only [putU]
      refine wpAnyH_take (i := 19) (v := undef) rfl (by kernel_rfl) (by kernel_rfl) (by kernel_rfl) (fun _ _ _ h => h) (Or.inr ⟨by rfl, rfl⟩) (HQ11.out _ _ HS.out) ?_
      try simp only [putU]
      refine wpAnyH_take (i := 20) (v := undef) rfl (by kernel_rfl) (by kernel_rfl) (by kernel_rfl) (fun _ _ _ h => h) (Or.inr ⟨by rfl, rfl⟩) (HQ11.out _ _ HS.out) ?_
      try simp only [putU]
      refine wpAnyH_take (i := 21) (v := undef) rfl (by kernel_rfl) (by kernel_rfl) (by kernel_rfl) (fun _ _ _ h => h) (Or.inr ⟨by rfl, rfl⟩) (HQ11.out _ _ HS.out) ?_
      try simp only [putU]
      refine wpAnyH_take (i := 22) (v := undef) rfl (by kernel_rfl) (by kernel_rfl) (by kernel_rfl) (fun _ _ _ h => h) (Or.inr ⟨by rfl, rfl⟩) (HQ11.out _ _ HS.out) ?_
      try simp only [putU]
      refine wpAnyH_take (i := 23) (v := undef) rfl (by kernel_rfl) (by kernel_rfl) (by kernel_rfl) (fun _ _ _ h => h) (Or.inr ⟨by rfl, rfl⟩) (HQ11.out _ _ HS.out) ?_
      try simp only [putU]
      refine wpAnyH_take (i := 24) (v := undef) rfl (by kernel_rfl) (by kernel_rfl) (by kernel_rfl) (fun _ _ _ h => h) (Or.inr ⟨by rfl, rfl⟩) (HQ11.out _ _ HS.out) ?_
      try simp only [putU]
      refine wpAnyH_take (i := 25) (v := ?_) rfl (by kernel_rfl) (by kernel_rfl) (by kernel_rfl) (fun _ _ _ h => h) (Or.inl ⟨by rfl, ?_⟩) (HQ11.out _ _ HS.out) ?_
      rotate_left
      ·(intro w hSw; (try dsimp only at hSw); go_simp) <;> with_reducible rfl
      try simp only [putU]
      refine wpAnyH_take (i := 26) (v := ?_) rfl (by kernel_rfl) (by kernel_rfl) (by kernel_rfl) (fun _ _ _ h => h) (Or.inl ⟨by rfl, ?_⟩) (HQ11.out _ _ HS.out) ?_
      rotate_left
      ·(intro w hSw; (try dsimp only at hSw); go_simp) <;> with_reducible rfl
      try simp only [putU]
      refine wpAnyH_take (i := 27) (v := undef) rfl (by kernel_rfl) (by kernel_rfl) (by kernel_rfl) (fun _ _ _ h => h) (Or.inr ⟨by rfl, rfl⟩) (HQ11.out _ _ HS.out) ?_
      try simp only [putU]
      refine wpAnyH_take (i := 28) (v := undef) rfl (by kernel_rfl) (by kernel_rfl) (by kernel_rfl) (fun _ _ _ h => h) (Or.inr ⟨by rfl, rfl⟩) (HQ11.out _ _ HS.out) ?_
      try simp only [putU]
      refine wpAnyH_take (i := 29) (v := undef) rfl (by kernel_rfl) (by kernel_rfl) (by kernel_rfl) (fun _ _ _ h => h) (Or.inr ⟨by rfl, rfl⟩) (HQ11.out _ _ HS.out) ?_
      try simp only [putU]
      refine wpAnyH_take (i := 30) (v := undef) rfl (by kernel_rfl) (by kernel_rfl) (by kernel_rfl) (fun _ _ _ h => h) (Or.inr ⟨by rfl, rfl⟩) (HQ11.out _ _ HS.out) ?_
      try simp only [putU]
      refine wpAnyH_take (i := 31) (v := undef) rfl (by kernel_rfl) (by kernel_rfl) (by kernel_rfl) (fun _ _ _ h => h) (Or.inr ⟨by rfl, rfl⟩) (HQ11.out _ _ HS.out) ?_
      try simp only [putU]
      refine wpAnyH_take (i := 32) (v := undef) rfl (by kernel_rfl) (by kernel_rfl) (by kernel_rfl) (fun _ _ _ h => h) (Or.inr ⟨by rfl, rfl⟩) (HQ11.out _ _ HS.out) ?_
      try simp only [putU]
      refine wpAnyH_take (i := 33) (v := undef) rfl (by kernel_rfl) (by kernel_rfl) (by kernel_rfl) (fun _ _ _ h => h) (Or.inr ⟨by rfl, rfl⟩) (HQ11.out _ _ HS.out) ?_
      try simp only [putU]
      refine wpAnyH_take (i := 34) (v := ?_) rfl (by kernel_rfl) (by kernel_rfl) (by kernel_rfl) (fun _ _ _ h => h) (Or.inl ⟨by rfl, ?_⟩) (HQ11.out _ _ HS.out) ?_
      rotate_left
      ·(intro w hSw; (try dsimp only at hSw); go_simp) <;> with_reducible rfl
      try simp only [putU]
      refine wpAnyH_done (by kernel_rfl) ?_ _
      go_wp2_with fail
      go_meet
      exact ⟨by rw [HSK.out] <;> rfl, HS.out⟩
     exact AllReadyH.nil
    | true =>
     by_cases h3 : stj = 2
     ·subst h3
      by_cases h4 : enj < bgi
      ·have HSK : Hid (skips e1 i key m = true) := hid (by rw [HSK0.out]; simp [h4])
       have hb4 : decide (enj < bgi) = true := decide_eq_true h4
       clear HSK0 hmi h4
       refine wp_region_held_drew (S := fun w' => (binOp .eql 120 (.pointer (some ⟨blkOf bs m, 0, none⟩)) (.pointer (some ⟨blkOf bs i, 0, none⟩))).run Tryz.prog w' = .ok (.bool false) w' ∧ w'.cell? ⟨blkOf bs m, 1, none⟩ = some (.int .i64 2) ∧ w'.cell? ⟨blkOf bs m, 4, none⟩ = some (.int .i64 enj) ∧ w'.cell? ⟨blkOf bs i, 3, none⟩ = some (.int .i64 bgi) ∧ w'.cell? ⟨blkOf bs m, 5, none⟩ = some rvj) (by kernel_rfl) (HQ11.out _ _ HR0.out.drew) (fun hHeld => ?_)
       refine wpAnyH_take (i := 0) (v := ?_) rfl (by kernel_rfl) (by kernel_rfl) (by kernel_rfl) (fun _ _ _ h => h) (Or.inl ⟨by rfl, ?_⟩) hHeld ?_
       rotate_left
       ·(intro w hSw; (try dsimp only at hSw); go_simp) <;> with_reducible rfl
       try simp only [putU]
       refine wpAnyH_take (i := 1) (v := ?_) rfl (by kernel_rfl) (by kernel_rfl) (by kernel_rfl) (fun _ _ _ h => h) (Or.inl ⟨by rfl, ?_⟩) hHeld ?_
       rotate_left
       ·(intro w hSw; (try dsimp only at hSw); go_simp) <;> with_reducible rfl
       try simp only [putU]
       refine wpAnyH_take (i := 2) (v := ?_) rfl (by kernel_rfl) (by kernel_rfl) (by kernel_rfl) (fun _ _ _ h => h) (Or.inl ⟨by rfl, ?_⟩) hHeld ?_
       rotate_left
       ·(intro w hSw; (try dsimp only at hSw); go_simp) <;> with_reducible rfl
       try simp only [putU]
       refine wpAnyH_take (i := 3) (v := ?_) rfl (by kernel_rfl) (by kernel_rfl) (by kernel_rfl) (fun _ _ _ h => h) (Or.inl ⟨by rfl, ?_⟩) hHeld ?_
       rotate_left
       ·(intro w hSw; (try dsimp only at hSw); go_simp) <;> with_reducible rfl
       try simp only [putU]
       refine wpAnyH_take (i := 4) (v := ?_) rfl (by kernel_rfl) (by kernel_rfl) (by kernel_rfl) (fun _ _ _ h => h) (Or.inl ⟨by rfl, ?_⟩) hHeld ?_
       rotate_left
       ·(intro w hSw; (try dsimp only at hSw); go_simp) <;> with_reducible rfl
       try simp only [putU]
       have HS := hid HR0.out.drew
       clear hHeld
       refine anyH_world (fun w => Hid (S w0 w _)) HS (fun w1 HS => ?_)
       refine wpAnyH_ready (rs := [5]) (by kernel_rfl) (by simp) ?_
       refine AllReadyH.cons rfl (fun K hK => ?_) ?_
       ·go_simp
        go_wp2_with (go_at_call 82; with_reducible refine (HSTR.out _ HS.out).mono ?_; rintro r w' ⟨rfl, rfl⟩)
        refine hK.out _ _ (HQ11.out _ _ HS.out) (fun _ => ?_)
        clear hK K
        refine wpAnyH_take (i := 6) (v := ?_) rfl (by kernel_rfl) (by kernel_rfl) (by kernel_rfl) (fun _ _ _ h => h) (Or.inl ⟨by rfl, ?_⟩) (HQ11.out _ _ HS.out) ?_
        rotate_left
        ·(intro w hSw; (try dsimp only at hSw); go_simp) <;> with_reducible rfl
        try simp only [putU]
        refine wpAnyH_take (i := 7) (v := ?_) rfl (by kernel_rfl) (by kernel_rfl) (by kernel_rfl) (fun _ _ _ h => h) (Or.inl ⟨by rfl, ?_⟩) (HQ11.out _ _ HS.out) ?_
        rotate_left
        ·(intro w hSw; (try dsimp only at hSw); go_simp) <;> with_reducible rfl
        try simp only [putU]
        refine wpAnyH_take (i := 8) (v := ?_) rfl (by kernel_rfl) (by kernel_rfl) (by kernel_rfl) (fun _ _ _ h => h) (Or.inl ⟨by rfl, ?_⟩) (HQ11.out _ _ HS.out) ?_
        rotate_left
        ·(intro w hSw; (try dsimp only at hSw); go_simp) <;> with_reducible rfl
        try simp only [putU]
        refine wpAnyH_take (i := 9) (v := ?_) rfl (by kernel_rfl) (by kernel_rfl) (by kernel_rfl) (fun _ _ _ h => h) (Or.inl ⟨by rfl, ?_⟩) (HQ11.out _ _ HS.out) ?_
        rotate_left
        ·(intro w hSw; (try dsimp only at hSw); go_simp) <;> with_reducible rfl
        try simp only [putU]
        refine wpAnyH_take (i := 10) (v := ?_) rfl (by kernel_rfl) (by kernel_rfl) (by kernel_rfl) (fun _ _ _ h => h) (Or.inl ⟨by rfl, ?_⟩) (HQ11.out _ _ HS.out) ?_
        rotate_left
        ·(intro w hSw; (try dsimp only at hSw); go_simp) <;> with_reducible rfl
        try simp only [putU]
        refine wpAnyH_take (i := 11) (v := ?_) rfl (by kernel_rfl) (by kernel_rfl) (by kernel_rfl) (fun _ _ _ h => h) (Or.inl ⟨by rfl, ?_⟩) (HQ11.out _ _ HS.out) ?_
        rotate_left
        ·(intro w hSw; (try dsimp only at hSw); go_simp) <;> with_reducible rfl
        try simp only [putU]
        refine wpAnyH_take (i := 12) (v := ?_) rfl (by kernel_rfl) (by kernel_rfl) (by kernel_rfl) (fun _ _ _ h => h) (Or.inl ⟨by rfl, ?_⟩) (HQ11.out _ _ HS.out) ?_
        rotate_left
        ·(intro w hSw; (try dsimp only at hSw); go_simp) <;> with_reducible rfl
        try simp only [putU]
        refine wpAnyH_take (i := 13) (v := ?_) rfl (by kernel_rfl) (by kernel_rfl) (by kernel_rfl) (fun _ _ _ h => h) (Or.inl ⟨by rfl, ?_⟩) (HQ11.out _ _ HS.out) ?_
        rotate_left
        ·(intro w hSw; (try dsimp only at hSw); go_simp) <;> with_reducible rfl
        try simp only [putU]
        refine wpAnyH_take (i := 14) (v := ?_) rfl (by kernel_rfl) (by kernel_rfl) (by kernel_rfl) (fun _ _ _ h => h) (Or.inl ⟨by rfl, ?_⟩) (HQ11.out _ _ HS.out) ?_
        rotate_left
        ·(intro w hSw; (try dsimp only at hSw); go_simp) <;> with_reducible rfl
        try simp only [putU]
        refine wpAnyH_take (i := 15) (v := ?_) rfl (by kernel_rfl) (by kernel_rfl) (by kernel_rfl) (fun _ _ _ h => h) (Or.inl ⟨by rfl, ?_⟩) (HQ11.out _ _ HS.out) ?_
        rotate_left
        ·(intro w hSw; (try dsimp only at hSw); go_simp) <;> with_reducible rfl
        try simp only [putU]
        refine wpAnyH_take (i := 16) (v := ?_) rfl (by kernel_rfl) (by kernel_rfl) (by kernel_rfl) (fun _ _ _ h => h) (Or.inl ⟨by rfl, ?_⟩) (HQ11.out _ _ HS.out) ?_
        rotate_left
        ·(intro w hSw; (try dsimp only at hSw); go_simp) <;> with_reducible rfl
        try simp only [putU]
        refine wpAnyH_take (i := 17) (v := ?_) rfl (by kernel_rfl) (by kernel_rfl) (by kernel_rfl) (fun _ _ _ h => h) (Or.inl ⟨by rfl, ?_⟩) (HQ11.out _ _ HS.out) ?_
        rotate_left
        ·(intro w hSw; (try dsimp only at hSw); go_simp) <;> with_reducible rfl
        try simp only [putU]
        refine wpAnyH_take (i := 18) (v := ?_) rfl (by kernel_rfl) (by kernel_rfl) (by kernel_rfl) (fun _ _ _ h => h) (Or.inl ⟨by rfl, ?_⟩) (HQ11.out _ _ HS.out) ?_
        rotate_left
        ·(intro w hSw; (try dsimp only at hSw); go_simp) <;> with_reducible rfl
        try simp only [putU]
        refine wpAnyH_take (i := 19) (v := ?_) rfl (by kernel_rfl) (by kernel_rfl) (by kernel_rfl) (fun _ _ _ h => h) (Or.inl ⟨by rfl, ?_⟩) (HQ11.out _ _ HS.out) ?_
        rotate_left
        ·(intro w hSw; (try dsimp only at hSw); go_simp) <;> with_reducible rfl
        try simp only [putU]
        refine wpAnyH_take (i := 20) (v := ?_) rfl (by kernel_rfl) (by kernel_rfl) (by kernel_rfl) (fun _ _ _ h => h) (Or.inl ⟨by rfl, ?_⟩) (HQ11.out _ _ HS.out) ?_
        rotate_left
        ·(intro w hSw; (try dsimp only at hSw); go_simp) <;> with_reducible rfl
        try simp only [putU]
        refine wpAnyH_take (i := 21) (v := ?_) rfl (by kernel_rfl) (by kernel_rfl) (by kernel_rfl) (fun _ _ _ h => h) (Or.inl ⟨by rfl, ?_⟩) (HQ11.out _ _ HS.out) ?_
        rotate_left
        ·(intro w hSw; (try dsimp only at hSw); go_simp) <;> with_reducible rfl
        try simp only [putU]
        refine wpAnyH_take (i := 22) (v := ?_) rfl (by kernel_rfl) (by kernel_rfl) (by kernel_rfl) (fun _ _ _ h => h) (Or.inl ⟨by rfl, ?_⟩) (HQ11.out _ _ HS.out) ?_
        rotate_left
        ·(intro w hSw; (try dsimp only at hSw); go_simp) <;> with_reducible rfl
        try simp only [putU]
        refine wpAnyH_take (i := 23) (v := ?_) rfl (by kernel_rfl) (by kernel_rfl) (by kernel_rfl) (fun _ _ _ h => h) (Or.inl ⟨by rfl, ?_⟩) (HQ11.out _ _ HS.out) ?_
        rotate_left
        ·(intro w hSw; (try dsimp only at hSw); go_simp) <;> with_reducible rfl
        try simp only [putU]
        refine wpAnyH_take (i := 24) (v := ?_) rfl (by kernel_rfl) (by kernel_rfl) (by kernel_rfl) (fun _ _ _ h => h) (Or.inl ⟨by rfl, ?_⟩) (HQ11.out _ _ HS.out) ?_
        rotate_left
        ·(intro w hSw; (try dsimp only at hSw); go_simp) <;> with_reducible rfl
        try simp only [putU]
        refine wpAnyH_take (i := 25) (v := ?_) rfl (by kernel_rfl) (by kernel_rfl) (by kernel_rfl) (fun _ _ _ h => h) (Or.inl ⟨by rfl, ?_⟩) (HQ11.out _ _ HS.out) ?_
        rotate_left
        ·(intro w hSw; (try dsimp only at hSw); go_simp) <;> with_reducible rfl
        try simp only [putU]
        refine wpAnyH_take (i := 26) (v := ?_) rfl (by kernel_rfl) (by kernel_rfl) (by kernel_rfl) (fun _ _ _ h => h) (Or.inl ⟨by rfl, ?_⟩) (HQ11.out _ _ HS.out) ?_
        rotate_left
        ·(intro w hSw; (try dsimp only at hSw); go_simp) <;> with_reducible rfl
        try simp only [putU]
        refine wpAnyH_take (i := 27) (v := undef) rfl (by kernel_rfl) (by kernel_rfl) (by kernel_rfl) (fun _ _ _ h => h) (Or.inr ⟨by rfl, rfl⟩) (HQ11.out _ _ HS.out) ?_
        try simp only [putU]
        refine wpAnyH_take (i := 28) (v := undef) rfl (by kernel_rfl) (by kernel_rfl) (by kernel_rfl) (fun _ _ _ h => h) (Or.inr ⟨by rfl, rfl⟩) (HQ11.out _ _ HS.out) ?_
        try simp only [putU]
        refine wpAnyH_take (i := 29) (v := undef) rfl (by kernel_rfl) (by kernel_rfl) (by kernel_rfl) (fun _ _ _ h => h) (Or.inr ⟨by rfl, rfl⟩) (HQ11.out _ _ HS.out) ?_
        try simp only [putU]
        refine wpAnyH_take (i := 30) (v := undef) rfl (by kernel_rfl) (by kernel_rfl) (by kernel_rfl) (fun _ _ _ h => h) (Or.inr ⟨by rfl, rfl⟩) (HQ11.out _ _ HS.out) ?_
        try simp only [putU]
        refine wpAnyH_take (i := 31) (v := undef) rfl (by kernel_rfl) (by kernel_rfl) (by kernel_rfl) (fun _ _ _ h => h) (Or.inr ⟨by rfl, rfl⟩) (HQ11.out _ _ HS.out) ?_
        try simp only [putU]
        refine wpAnyH_take (i := 32) (v := undef) rfl (by kernel_rfl) (by kernel_rfl) (by kernel_rfl) (fun _ _ _ h => h) (Or.inr ⟨by rfl, rfl⟩) (HQ11.out _ _ HS.out) ?_
        try simp only [putU]
        refine wpAnyH_take (i := 33) (v := undef) rfl (by kernel_rfl) (by kernel_rfl) (by kernel_rfl) (fun _ _ _ h => h) (Or.inr ⟨by rfl, rfl⟩) (HQ11.out _ _ HS.out) ?_
        try simp only [putU]
        refine wpAnyH_take (i := 34) (v := ?_) rfl (by kernel_rfl) (by kernel_rfl) (by kernel_rfl) (fun _ _ _ h => h) (Or.inl ⟨by rfl, ?_⟩) (HQ11.out _ _ HS.out) ?_
        rotate_left
        ·(intro w hSw; (try dsimp only at hSw); go_simp) <;> with_reducible rfl
        try simp only [putU]
        refine wpAnyH_done (by kernel_rfl) ?_ _
        go_wp2_with fail
        go_meet
        exact ⟨by rw [HSK.out] <;> rfl, HS.out⟩
       exact AllReadyH.nil
      ·have HSK : Hid (skips e1 i key m = !sk) := hid (by rw [HSK0.out]; simp [h4, hmi])
       have hb4 : decide (enj < bgi) = false := decide_eq_false h4
       clear HSK0 hmi h4
       refine wp_region_held_drew (S := fun w' => (binOp .eql 120 (.pointer (some ⟨blkOf bs m, 0, none⟩)) (.pointer (some ⟨blkOf bs i, 0, none⟩))).run Tryz.prog w' = .ok (.bool false) w' ∧ w'.cell? ⟨blkOf bs m, 1, none⟩ = some (.int .i64 2) ∧ w'.cell? ⟨blkOf bs m, 4, none⟩ = some (.int .i64 enj) ∧ w'.cell? ⟨blkOf bs i, 3, none⟩ = some (.int .i64 bgi) ∧ w'.cell? ⟨blkOf bs m, 5, none⟩ = some rvj) (by kernel_rfl) (HQ11.out _ _ HR0.out.drew) (fun hHeld => ?_)
       refine wpAnyH_take (i := 0) (v := ?_) rfl (by kernel_rfl) (by kernel_rfl) (by kernel_rfl) (fun _ _ _ h => h) (Or.inl ⟨by rfl, ?_⟩) hHeld ?_
       rotate_left
       ·(intro w hSw; (try dsimp only at hSw); go_simp) <;> with_reducible rfl
       try simp only [putU]
       refine wpAnyH_take (i := 1) (v := ?_) rfl (by kernel_rfl) (by kernel_rfl) (by kernel_rfl) (fun _ _ _ h => h) (Or.inl ⟨by rfl, ?_⟩) hHeld ?_
       rotate_left
       ·(intro w hSw; (try dsimp only at hSw); go_simp) <;> with_reducible rfl
       try simp only [putU]
       refine wpAnyH_take (i := 2) (v := ?_) rfl (by kernel_rfl) (by kernel_rfl) (by kernel_rfl) (fun _ _ _ h => h) (Or.inl ⟨by rfl, ?_⟩) hHeld ?_
       rotate_left
       ·(intro w hSw; (try dsimp only at hSw); go_simp) <;> with_reducible rfl
       try simp only [putU]
       refine wpAnyH_take (i := 3) (v := ?_) rfl (by kernel_rfl) (by kernel_rfl) (by kernel_rfl) (fun _ _ _ h => h) (Or.inl ⟨by rfl, ?_⟩) hHeld ?_
       rotate_left
       ·(intro w hSw; (try dsimp only at hSw); go_simp) <;> with_reducible rfl
       try simp only [putU]
       refine wpAnyH_take (i := 4) (v := ?_) rfl (by kernel_rfl) (by kernel_rfl) (by kernel_rfl) (fun _ _ _ h => h) (Or.inl ⟨by rfl, ?_⟩) hHeld ?_
       rotate_left
       ·(intro w hSw; (try dsimp only at hSw); go_simp) <;> with_reducible rfl
       try simp only [putU]
       have HS := hid HR0.out.drew
       clear hHeld
       refine anyH_world (fun w => Hid (S w0 w _)) HS (fun w1 HS => ?_)
       refine wpAnyH_ready (rs := [5]) (by kernel_rfl) (by simp) ?_
       refine AllReadyH.cons rfl (fun K hK => ?_) ?_
       ·go_simp
        go_wp2_with (go_at_call 82; with_reducible refine (HSTR.out _ HS.out).mono ?_; rintro r w' ⟨rfl, rfl⟩)
        refine hK.out _ _ (HQ11.out _ _ HS.out) (fun _ => ?_)
        clear hK K
        refine wpAnyH_take (i := 6) (v := ?_) rfl (by kernel_rfl) (by kernel_rfl) (by kernel_rfl) (fun _ _ _ h => h) (Or.inl ⟨by rfl, ?_⟩) (HQ11.out _ _ HS.out) ?_
        rotate_left
        ·(intro w hSw; (try dsimp only at hSw); go_simp) <;> with_reducible rfl
        try simp only [putU]
        refine wpAnyH_take (i := 7) (v := ?_) rfl (by kernel_rfl) (by kernel_rfl) (by kernel_rfl) (fun _ _ _ h => h) (Or.inl ⟨by rfl, ?_⟩) (HQ11.out _ _ HS.out) ?_
        rotate_left
        ·(intro w hSw; (try dsimp only at hSw); go_simp) <;> with_reducible rfl
        try simp only [putU]
        refine wpAnyH_take (i := 8) (v := ?_) rfl (by kernel_rfl) (by kernel_rfl) (by kernel_rfl) (fun _ _ _ h => h) (Or.inl ⟨by rfl, ?_⟩) (HQ11.out _ _ HS.out) ?_
        rotate_left
        ·(intro w hSw; (try dsimp only at hSw); go_simp) <;> with_reducible rfl
        try simp only [putU]
        refine wpAnyH_take (i := 9) (v := ?_) rfl (by kernel_rfl) (by kernel_rfl) (by kernel_rfl) (fun _ _ _ h => h) (Or.inl ⟨by rfl, ?_⟩) (HQ11.out _ _ HS.out) ?_
        rotate_left
        ·(intro w hSw; (try dsimp only at hSw); go_simp) <;> with_reducible rfl
        try simp only [putU]
        refine wpAnyH_take (i := 10) (v := ?_) rfl (by kernel_rfl) (by kernel_rfl) (by kernel_rfl) (fun _ _ _ h => h) (Or.inl ⟨by rfl, ?_⟩) (HQ11.out _ _ HS.out) ?_
        rotate_left
        ·(intro w hSw; (try dsimp only at hSw); go_simp) <;> with_reducible rfl
        try simp only [putU]
        refine wpAnyH_take (i := 11) (v := ?_) rfl (by kernel_rfl) (by kernel_rfl) (by kernel_rfl) (fun _ _ _ h => h) (Or.inl ⟨by rfl, ?_⟩) (HQ11.out _ _ HS.out) ?_
        rotate_left
        ·(intro w hSw; (try dsimp only at hSw); go_simp) <;> with_reducible rfl
        try simp only [putU]
        refine wpAnyH_take (i := 12) (v := ?_) rfl (by kernel_rfl) (by kernel_rfl) (by kernel_rfl) (fun _ _ _ h => h) (Or.inl ⟨by rfl, ?_⟩) (HQ11.out _ _ HS.out) ?_
        rotate_left
        ·(intro w hSw; (try dsimp only at hSw); go_simp) <;> with_reducible rfl
        try simp only [putU]
        refine wpAnyH_take (i := 13) (v := ?_) rfl (by kernel_rfl) (by kernel_rfl) (by kernel_rfl) (fun _ _ _ h => h) (Or.inl ⟨by rfl, ?_⟩) (HQ11.out _ _ HS.out) ?_
        rotate_left
        ·(intro w hSw; (try dsimp only at hSw); go_simp) <;> with_reducible rfl
        try simp only [putU]
        refine wpAnyH_take (i := 14) (v := ?_) rfl (by kernel_rfl) (by kernel_rfl) (by kernel_rfl) (fun _ _ _ h => h) (Or.inl ⟨by rfl, ?_⟩) (HQ11.out _ _ HS.out) ?_
        rotate_left
        ·(intro w hSw; (try dsimp only at hSw); go_simp) <;> with_reducible rfl
        try simp only [putU]
        refine wpAnyH_take (i := 15) (v := ?_) rfl (by kernel_rfl) (by kernel_rfl) (by kernel_rfl) (fun _ _ _ h => h) (Or.inl ⟨by rfl, ?_⟩) (HQ11.out _ _ HS.out) ?_
        rotate_left
        ·(intro w hSw; (try dsimp only at hSw); go_simp) <;> with_reducible rfl
        try simp only [putU]
        refine wpAnyH_take (i := 16) (v := ?_) rfl (by kernel_rfl) (by kernel_rfl) (by kernel_rfl) (fun _ _ _ h => h) (Or.inl ⟨by rfl, ?_⟩) (HQ11.out _ _ HS.out) ?_
        rotate_left
        ·(intro w hSw; (try dsimp only at hSw); go_simp) <;> with_reducible rfl
        try simp only [putU]
        refine wpAnyH_take (i := 17) (v := ?_) rfl (by kernel_rfl) (by kernel_rfl) (by kernel_rfl) (fun _ _ _ h => h) (Or.inl ⟨by rfl, ?_⟩) (HQ11.out _ _ HS.out) ?_
        rotate_left
        ·(intro w hSw; (try dsimp only at hSw); go_simp) <;> with_reducible rfl
        try simp only [putU]
        refine wpAnyH_take (i := 18) (v := ?_) rfl (by kernel_rfl) (by kernel_rfl) (by kernel_rfl) (fun _ _ _ h => h) (Or.inl ⟨by rfl, ?_⟩) (HQ11.out _ _ HS.out) ?_
        rotate_left
        ·(intro w hSw; (try dsimp only at hSw); go_simp) <;> with_reducible rfl
        try simp only [putU]
        refine wpAnyH_take (i := 19) (v := ?_) rfl (by kernel_rfl) (by kernel_rfl) (by kernel_rfl) (fun _ _ _ h => h) (Or.inl ⟨by rfl, ?_⟩) (HQ11.out _ _ HS.out) ?_
        rotate_left
        ·(intro w hSw; (try dsimp only at hSw); go_simp) <;> with_reducible rfl
        try simp only [putU]
        refine wpAnyH_take (i := 20) (v := ?_) rfl (by kernel_rfl) (by kernel_rfl) (by kernel_rfl) (fun _ _ _ h => h) (Or.inl ⟨by rfl, ?_⟩) (HQ11.out _ _ HS.out) ?_
        rotate_left
        ·(intro w hSw; (try dsimp only at hSw); go_simp) <;> with_reducible rfl
        try simp only [putU]
        refine wpAnyH_take (i := 21) (v := ?_) rfl (by kernel_rfl) (by kernel_rfl) (by kernel_rfl) (fun _ _ _ h => h) (Or.inl ⟨by rfl, ?_⟩) (HQ11.out _ _ HS.out) ?_
        rotate_left
        ·(intro w hSw; (try dsimp only at hSw); go_simp) <;> with_reducible rfl
        try simp only [putU]
        refine wpAnyH_take (i := 22) (v := ?_) rfl (by kernel_rfl) (by kernel_rfl) (by kernel_rfl) (fun _ _ _ h => h) (Or.inl ⟨by rfl, ?_⟩) (HQ11.out _ _ HS.out) ?_
        rotate_left
        ·(intro w hSw; (try dsimp only at hSw); go_simp) <;> with_reducible rfl
        try simp only [putU]
        refine wpAnyH_take (i := 23) (v := ?_) rfl (by kernel_rfl) (by kernel_rfl) (by kernel_rfl) (fun _ _ _ h => h) (Or.inl ⟨by rfl, ?_⟩) (HQ11.out _ _ HS.out) ?_
        rotate_left
        ·(intro w hSw; (try dsimp only at hSw); go_simp) <;> with_reducible rfl
        try simp only [putU]
        refine wpAnyH_take (i := 24) (v := ?_) rfl (by kernel_rfl) (by kernel_rfl) (by kernel_rfl) (fun _ _ _ h => h) (Or.inl ⟨by rfl, ?_⟩) (HQ11.out _ _ HS.out) ?_
        rotate_left
        ·(intro w hSw; (try dsimp only at hSw); go_simp) <;> with_reducible rfl
        try simp only [putU]
        refine wpAnyH_take (i := 25) (v := ?_) rfl (by kernel_rfl) (by kernel_rfl) (by kernel_rfl) (fun _ _ _ h => h) (Or.inl ⟨by rfl, ?_⟩) (HQ11.out _ _ HS.out) ?_
        rotate_left
        ·(intro w hSw; (try dsimp only at hSw); go_simp) <;> with_reducible rfl
        try simp only [putU]
        refine wpAnyH_take (i := 26) (v := ?_) rfl (by kernel_rfl) (by kernel_rfl) (by kernel_rfl) (fun _ _ _ h => h) (Or.inl ⟨by rfl, ?_⟩) (HQ11.out _ _ HS.out) ?_
        rotate_left
        ·(intro w hSw; (try dsimp only at hSw); go_simp) <;> with_reducible rfl
        try simp only [putU]
        refine wpAnyH_take (i := 27) (v := ?_) rfl (by kernel_rfl) (by kernel_rfl) (by kernel_rfl) (fun _ _ _ h => h) (Or.inl ⟨by rfl, ?_⟩) (HQ11.out _ _ HS.out) ?_
        rotate_left
        ·(intro w hSw; (try dsimp only at hSw); go_simp) <;> with_reducible rfl
        try simp only [putU]
        refine wpAnyH_take (i := 28) (v := ?_) rfl (by kernel_rfl) (by kernel_rfl) (by kernel_rfl) (fun _ _ _ h => h) (Or.inl ⟨by rfl, ?_⟩) (HQ11.out _ _ HS.out) ?_
        rotate_left
        ·(intro w hSw; (try dsimp only at hSw); go_simp) <;> with_reducible rfl
        try simp only [putU]
        refine wpAnyH_take (i := 29) (v := ?_) rfl (by kernel_rfl) (by kernel_rfl) (by kernel_rfl) (fun _ _ _ h => h) (Or.inl ⟨by rfl, ?_⟩) (HQ11.out _ _ HS.out) ?_
        rotate_left
        ·(intro w hSw; (try dsimp only at hSw); go_simp) <;> with_reducible rfl
        try simp only [putU]
        refine wpAnyH_take (i := 30) (v := ?_) rfl (by kernel_rfl) (by kernel_rfl) (by kernel_rfl) (fun _ _ _ h => h) (Or.inl ⟨by rfl, ?_⟩) (HQ11.out _ _ HS.out) ?_
        rotate_left
        ·(intro w hSw; (try dsimp only at hSw); go_simp) <;> with_reducible rfl
        try simp only [putU]
        refine wpAnyH_take (i := 31) (v := ?_) rfl (by kernel_rfl) (by kernel_rfl) (by kernel_rfl) (fun _ _ _ h => h) (Or.inl ⟨by rfl, ?_⟩) (HQ11.out _ _ HS.out) ?_
        rotate_left
        ·(intro w hSw; (try dsimp only at hSw); go_simp) <;> with_reducible rfl
        try simp only [putU]
        refine wpAnyH_ready (rs := [32]) (by kernel_rfl) (by simp) ?_
        refine AllReadyH.cons rfl (fun K hK => ?_) ?_
        ·go_simp
         go_wp2_with (go_at_call 85; with_reducible refine (HCON.out _ HS.out).mono ?_; rintro r w9 ⟨rfl, hs9⟩; replace HS := hid hs9; clear hs9)
         refine hK.out _ _ (HQ11.out _ _ HS.out) (fun _ => ?_)
         clear hK K
         refine wpAnyH_take (i := 33) (v := ?_) rfl (by kernel_rfl) (by kernel_rfl) (by kernel_rfl) (fun _ _ _ h => h) (Or.inl ⟨by rfl, ?_⟩) (HQ11.out _ _ HS.out) ?_
         rotate_left
         ·(intro w hSw; (try dsimp only at hSw); go_simp) <;> with_reducible rfl
         try simp only [putU]
         refine wpAnyH_take (i := 34) (v := ?_) rfl (by kernel_rfl) (by kernel_rfl) (by kernel_rfl) (fun _ _ _ h => h) (Or.inl ⟨by rfl, ?_⟩) (HQ11.out _ _ HS.out) ?_
         rotate_left
         ·(intro w hSw; (try dsimp only at hSw); go_simp) <;> with_reducible rfl
         try simp only [putU]
         refine wpAnyH_done (by kernel_rfl) ?_ _
         go_wp2_with fail
         go_meet
         exact ⟨by rw [HSK.out] <;> rfl, HS.out⟩
        exact AllReadyH.nil
       exact AllReadyH.nil
     ·have HSK : Hid (skips e1 i key m = !sk) := hid (by rw [HSK0.out]; simp [h3, hmi])
      have hb3 : (stj == 2) = false := by simpa using h3
      clear HSK0 hmi h3
      refine wp_region_held_drew (S := fun w' => (binOp .eql 120 (.pointer (some ⟨blkOf bs m, 0, none⟩)) (.pointer (some ⟨blkOf bs i, 0, none⟩))).run Tryz.prog w' = .ok (.bool false) w' ∧ w'.cell? ⟨blkOf bs m, 1, none⟩ = some (.int .i64 stj) ∧ w'.cell? ⟨blkOf bs m, 4, none⟩ = some (.int .i64 enj) ∧ w'.cell? ⟨blkOf bs i, 3, none⟩ = some (.int .i64 bgi) ∧ w'.cell? ⟨blkOf bs m, 5, none⟩ = some rvj) (by kernel_rfl) (HQ11.out _ _ HR0.out.drew) (fun hHeld => ?_)
      refine wpAnyH_take (i := 0) (v := ?_) rfl (by kernel_rfl) (by kernel_rfl) (by kernel_rfl) (fun _ _ _ h => h) (Or.inl ⟨by rfl, ?_⟩) hHeld ?_
      rotate_left
      ·(intro w hSw; (try dsimp only at hSw); go_simp) <;> with_reducible rfl
      try simp only [putU]
      refine wpAnyH_take (i := 1) (v := ?_) rfl (by kernel_rfl) (by kernel_rfl) (by kernel_rfl) (fun _ _ _ h => h) (Or.inl ⟨by rfl, ?_⟩) hHeld ?_
      rotate_left
      ·(intro w hSw; (try dsimp only at hSw); go_simp) <;> with_reducible rfl
      try simp only [putU]
      refine wpAnyH_take (i := 2) (v := ?_) rfl (by kernel_rfl) (by kernel_rfl) (by kernel_rfl) (fun _ _ _ h => h) (Or.inl ⟨by rfl, ?_⟩) hHeld ?_
      rotate_left
      ·(intro w hSw; (try dsimp only at hSw); go_simp) <;> with_reducible rfl
      try simp only [putU]
      refine wpAnyH_take (i := 3) (v := ?_) rfl (by kernel_rfl) (by kernel_rfl) (by kernel_rfl) (fun _ _ _ h => h) (Or.inl ⟨by rfl, ?_⟩) hHeld ?_
      rotate_left
      ·(intro w hSw; (try dsimp only at hSw); go_simp) <;> with_reducible rfl
      try simp only [putU]
      refine wpAnyH_take (i := 4) (v := ?_) rfl (by kernel_rfl) (by kernel_rfl) (by kernel_rfl) (fun _ _ _ h => h) (Or.inl ⟨by rfl, ?_⟩) hHeld ?_
      rotate_left
      ·(intro w hSw; (try dsimp only at hSw); go_simp) <;> with_reducible rfl
      try simp only [putU]
      have HS := hid HR0.out.drew
      clear hHeld
      refine anyH_world (fun w => Hid (S w0 w _)) HS (fun w1 HS => ?_)
      refine wpAnyH_ready (rs := [5]) (by kernel_rfl) (by simp) ?_
      refine AllReadyH.cons rfl (fun K hK => ?_) ?_
      ·go_simp
       go_wp2_with (go_at_call 82; with_reducible refine (HSTR.out _ HS.out).mono ?_; rintro r w' ⟨rfl, rfl⟩)
       refine hK.out _ _ (HQ11.out _ _ HS.out) (fun _ => ?_)
       clear hK K
       refine wpAnyH_take (i := 6) (v := ?_) rfl (by kernel_rfl) (by kernel_rfl) (by kernel_rfl) (fun _ _ _ h => h) (Or.inl ⟨by rfl, ?_⟩) (HQ11.out _ _ HS.out) ?_
       rotate_left
       ·(intro w hSw; (try dsimp only at hSw); go_simp) <;> with_reducible rfl
       try simp only [putU]
       refine wpAnyH_take (i := 7) (v := ?_) rfl (by kernel_rfl) (by kernel_rfl) (by kernel_rfl) (fun _ _ _ h => h) (Or.inl ⟨by rfl, ?_⟩) (HQ11.out _ _ HS.out) ?_
       rotate_left
       ·(intro w hSw; (try dsimp only at hSw); go_simp) <;> with_reducible rfl
       try simp only [putU]
       refine wpAnyH_take (i := 8) (v := ?_) rfl (by kernel_rfl) (by kernel_rfl) (by kernel_rfl) (fun _ _ _ h => h) (Or.inl ⟨by rfl, ?_⟩) (HQ11.out _ _ HS.out) ?_
       rotate_left
       ·(intro w hSw; (try dsimp only at hSw); go_simp) <;> with_reducible rfl
       try simp only [putU]
       refine wpAnyH_take (i := 9) (v := ?_) rfl (by kernel_rfl) (by kernel_rfl) (by kernel_rfl) (fun _ _ _ h => h) (Or.inl ⟨by rfl, ?_⟩) (HQ11.out _ _ HS.out) ?_
       rotate_left
       ·(intro w hSw; (try dsimp only at hSw); go_simp) <;> with_reducible rfl
       try simp only [putU]
       refine wpAnyH_take (i := 10) (v := ?_) rfl (by kernel_rfl) (by kernel_rfl) (by kernel_rfl) (fun _ _ _ h => h) (Or.inl ⟨by rfl, ?_⟩) (HQ11.out _ _ HS.out) ?_
       rotate_left
       ·(intro w hSw; (try dsimp only at hSw); go_simp) <;> with_reducible rfl
       try simp only [putU]
       refine wpAnyH_take (i := 11) (v := ?_) rfl (by kernel_rfl) (by kernel_rfl) (by kernel_rfl) (fun _ _ _ h => h) (Or.inl ⟨by rfl, ?_⟩) (HQ11.out _ _ HS.out) ?_
       rotate_left
       ·(intro w hSw; (try dsimp only at hSw); go_simp) <;> with_reducible rfl
       try simp only [putU]
       refine wpAnyH_take (i := 12) (v := ?_) rfl (by kernel_rfl) (by kernel_rfl) (by kernel_rfl) (fun _ _ _ h => h) (Or.inl ⟨by rfl, ?_⟩) (HQ11.out _ _ HS.out) ?_
       rotate_left
       ·(intro w hSw; (try dsimp only at hSw); go_simp) <;> with_reducible rfl
       try simp only [putU]
       refine wpAnyH_take (i := 13) (v := ?_) rfl (by kernel_rfl) (by kernel_rfl) (by kernel_rfl) (fun _ _ _ h => h) (Or.inl ⟨by rfl, ?_⟩) (HQ11.out _ _ HS.out) ?_
       rotate_left
       ·(intro w hSw; (try dsimp only at hSw); go_simp) <;> with_reducible rfl
       try simp only [putU]
       refine wpAnyH_take (i := 14) (v := ?_) rfl (by kernel_rfl) (by kernel_rfl) (by kernel_rfl) (fun _ _ _ h => h) (Or.inl ⟨by rfl, ?_⟩) (HQ11.out _ _ HS.out) ?_
       rotate_left
       ·(intro w hSw; (try dsimp only at hSw); go_simp) <;> with_reducible rfl
       try simp only [putU]
       refine wpAnyH_take (i := 15) (v := undef) rfl (by kernel_rfl) (by kernel_rfl) (by kernel_rfl) (fun _ _ _ h => h) (Or.inr ⟨by rfl, rfl⟩) (HQ11.out _ _ HS.out) ?_
       try simp only [putU]
       refine wpAnyH_take (i := 16) (v := undef) rfl (by kernel_rfl) (by kernel_rfl) (by kernel_rfl) (fun _ _ _ h => h) (Or.inr ⟨by rfl, rfl⟩) (HQ11.out _ _ HS.out) ?_
       try simp only [putU]
       refine wpAnyH_take (i := 17) (v := undef) rfl (by kernel_rfl) (by kernel_rfl) (by kernel_rfl) (fun _ _ _ h => h) (Or.inr ⟨by rfl, rfl⟩) (HQ11.out _ _ HS.out) ?_
       try simp only [putU]
       refine wpAnyH_take (i := 18) (v := undef) rfl (by kernel_rfl) (by kernel_rfl) (by kernel_rfl) (fun _ _ _ h => h) (Or.inr ⟨by rfl, rfl⟩) (HQ11.out _ _ HS.out) ?_
       try simp only [putU]
       refine wpAnyH_take (i := 19) (v := undef) rfl (by kernel_rfl) (by kernel_rfl) (by kernel_rfl) (fun _ _ _ h => h) (Or.inr ⟨by rfl, rfl⟩) (HQ11.out _ _ HS.out) ?_
       try simp only [putU]
       refine wpAnyH_take (i := 20) (v := undef) rfl (by kernel_rfl) (by kernel_rfl) (by kernel_rfl) (fun _ _ _ h => h) (Or.inr ⟨by rfl, rfl⟩) (HQ11.out _ _ HS.out) ?_
       try simp only [putU]
       refine wpAnyH_take (i := 21) (v := undef) rfl (by kernel_rfl) (by kernel_rfl) (by kernel_rfl) (fun _ _ _ h => h) (Or.inr ⟨by rfl, rfl⟩) (HQ11.out _ _ HS.out) ?_
       try simp only [putU]
       refine wpAnyH_take (i := 22) (v := undef) rfl (by kernel_rfl) (by kernel_rfl) (by kernel_rfl) (fun _ _ _ h => h) (Or.inr ⟨by rfl, rfl⟩) (HQ11.out _ _ HS.out) ?_
       try simp only [putU]
       refine wpAnyH_take (i := 23) (v := undef) rfl (by kernel_rfl) (by kernel_rfl) (by kernel_rfl) (fun _ _ _ h => h) (Or.inr ⟨by rfl, rfl⟩) (HQ11.out _ _ HS.out) ?_
       try simp only [putU]
       refine wpAnyH_take (i := 24) (v := ?_) rfl (by kernel_rfl) (by kernel_rfl) (by kernel_rfl) (fun _ _ _ h => h) (Or.inl ⟨by rfl, ?_⟩) (HQ11.out _ _ HS.out) ?_
       rotate_left
       ·(intro w hSw; (try dsimp only at hSw); go_simp) <;> with_reducible rfl
       try simp only [putU]
       refine wpAnyH_take (i := 25) (v := ?_) rfl (by kernel_rfl) (by kernel_rfl) (by kernel_rfl) (fun _ _ _ h => h) (Or.inl ⟨by rfl, ?_⟩) (HQ11.out _ _ HS.out) ?_
       rotate_left
       ·(intro w hSw; (try dsimp only at hSw); go_simp) <;> with_reducible rfl
       try simp only [putU]
       refine wpAnyH_take (i := 26) (v := ?_) rfl (by kernel_rfl) (by kernel_rfl) (by kernel_rfl) (fun _ _ _ h => h) (Or.inl ⟨by rfl, ?_⟩) (HQ11.out _ _ HS.out) ?_
       rotate_left
       ·(intro w hSw; (try dsimp only at hSw); go_simp) <;> with_reducible rfl
       try simp only [putU]
       refine wpAnyH_take (i := 27) (v := ?_) rfl (by kernel_rfl) (by kernel_rfl) (by kernel_rfl) (fun _ _ _ h => h) (Or.inl ⟨by rfl, ?_⟩) (HQ11.out _ _ HS.out) ?_
       rotate_left
       ·(intro w hSw; (try dsimp only at hSw); go_simp) <;> with_reducible rfl
       try simp only [putU]
       refine wpAnyH_take (i := 28) (v := ?_) rfl (by kernel_rfl) (by kernel_rfl) (by kernel_rfl) (fun _ _ _ h => h) (Or.inl ⟨by rfl, ?_⟩) (HQ11.out _ _ HS.out) ?_
       rotate_left
       ·(intro w hSw; (try dsimp only at hSw); go_simp) <;> with_reducible rfl
       try simp only [putU]
       refine wpAnyH_take (i := 29) (v := ?_) rfl (by kernel_rfl) (by kernel_rfl) (by kernel_rfl) (fun _ _ _ h => h) (Or.inl ⟨by rfl, ?_⟩) (HQ11.out _ _ HS.out) ?_
       rotate_left
       ·(intro w hSw; (try dsimp only at hSw); go_simp) <;> with_reducible rfl
       try simp only [putU]
       refine wpAnyH_take (i := 30) (v := ?_) rfl (by kernel_rfl) (by kernel_rfl) (by kernel_rfl) (fun _ _ _ h => h) (Or.inl ⟨by rfl, ?_⟩) (HQ11.out _ _ HS.out) ?_
       rotate_left
       ·(intro w hSw; (try dsimp only at hSw); go_simp) <;> with_reducible rfl
       try simp only [putU]
       refine wpAnyH_take (i := 31) (v := ?_) rfl (by kernel_rfl) (by kernel_rfl) (by kernel_rfl) (fun _ _ _ h => h) (Or.inl ⟨by rfl, ?_⟩) (HQ11.out _ _ HS.out) ?_
       rotate_left
       ·(intro w hSw; (try dsimp only at hSw); go_simp) <;> with_reducible rfl
       try simp only [putU]
       refine wpAnyH_ready (rs := [32]) (by kernel_rfl) (by simp) ?_
       refine AllReadyH.cons rfl (fun K hK => ?_) ?_
       ·go_simp
        go_wp2_with (go_at_call 85; with_reducible refine (HCON.out _ HS.out).mono ?_; rintro r w9 ⟨rfl, hs9⟩; replace HS := hid hs9; clear hs9)
        refine hK.out _ _ (HQ11.out _ _ HS.out) (fun _ => ?_)
        clear hK K
        refine wpAnyH_take (i := 33) (v := ?_) rfl (by kernel_rfl) (by kernel_rfl) (by kernel_rfl) (fun _ _ _ h => h) (Or.inl ⟨by rfl, ?_⟩) (HQ11.out _ _ HS.out) ?_
        rotate_left
        ·(intro w hSw; (try dsimp only at hSw); go_simp) <;> with_reducible rfl
        try simp only [putU]
        refine wpAnyH_take (i := 34) (v := ?_) rfl (by kernel_rfl) (by kernel_rfl) (by kernel_rfl) (fun _ _ _ h => h) (Or.inl ⟨by rfl, ?_⟩) (HQ11.out _ _ HS.out) ?_
        rotate_left
        ·(intro w hSw; (try dsimp only at hSw); go_simp) <;> with_reducible rfl
        try simp only [putU]
        refine wpAnyH_done (by kernel_rfl) ?_ _
        go_wp2_with fail
        go_meet
        exact ⟨by rw [HSK.out] <;> rfl, HS.out⟩
       exact AllReadyH.nil
      exact AllReadyH.nil
   case rest =>
   rename World => wy
   obtain ⟨rfl, hs10⟩ := hcut
   have H10 := hid hs10
   clear hs10 HR0 HQ10 HCON HSTR0 HSK0 HBNE
   cases hsk : skips e1 i key m with
   | true =>
    have hf3 : putsG (goesN n) e i (key, val) = putsL (goesN n) i key ((List.range e.txs.length).drop (m + 1)) e1 := by rw [HFM.out, putsL, if_pos hsk]
    have HF3 := hid hf3; have HOK3 := hid HOKM.out.skipped
    clear hf3 hsk HFM
    go_wp2_with fail
    go_roundw
    case rel => exact ⟨m + 1, e1, k1, by omega, by go_num, hk1, HOK3, ho1, hn1, HF3, H10.out⟩
    case measure => simp [intOf]; omega
   | false =>
    have hmi : m ≠ i := by
     intro h; subst h
     unfold skips at hsk; simp at hsk
    have hbnd : ∀ j, j < e1.txs.length → (e1.tx j).aft.length + 1 ≤ 1000000000000 ∧ (e1.tx j).fore.length + 1 ≤ 1000000000000 := fun j hj => by have := HOKM.out.fits _ (Eng.tx_mem hj); omega
    have hcall := noted_any w0 _ b bs k1 e1 m i (blk w.heap.size 101 [.int .i64 key, .int .i64 val] :: storeP 107 b 0 e1.V e1.last :: tabP 3 b 11 e1.t :: L) (H10.out.conv (by simp only [all]; ac_rfl)) HJ.out HI1.out hmi (hbnd m HJ.out).1 (hbnd i HI1.out).2 (fun x hx => (HOKM.out.txs x hx).refs)
    unfold ptr at hcall
    have HC := hid hcall
    have hsk' := hsk
    have hnt := HOKM.out.noted
    have HNT := hid hnt; have HSKF := hid hsk'
    have hno := Eng.note_open e1 m i
    have hnl := Eng.note_len e1 m i
    have HNO := hid hno; have HNL := hid hnl
    clear hcall hsk hsk' hbnd hmi hnt hno hnl
    cases hbad : (e1.note m i).bad m i with
    | true =>
     have hf3 : putsG (goesN n) e i (key, val) = goesN n (e1.note m i) i 13 := by rw [HFM.out, putsL, if_neg (by rw [HSKF.out]; simp)]; simp [hbad]
     have hk3 := HNT.out.ok _ (List.mem_cons_self ..)
     have hst3 := (hk3.ask i key _ rfl).1
     have hcg := fun W (hW : S w0 W (engP b bs (e1.note m i) :: L)) => HG.out w0 W b bs (e1.note m i) i 13 L N U (HNT.out.tail (by simp)) hk3.lt (by simp [Tx.alive, hst3]) HNT.out.who_ne (by rw [HNO.out]; exact ho1.out) hN hW
     have HF3 := hid hf3; have HCG := hid hcg
     clear hf3 hk3 hst3 hcg HFM
     rw [hbad] at HC
     clear hbad
     go_wp2_with fail
     with_reducible refine HC.out.mono ?_
     rintro r w' ⟨k2, hk2, rfl, hs2⟩
     have hs3 : S w0 w' (engP b bs (e1.note m i) :: L) := (hs2.conv (M := blk w.heap.size 101 [.int .i64 key, .int .i64 val] :: storeP 107 b 0 e1.V e1.last :: tabP 3 b 11 e1.t :: engO b bs k2 (e1.note m i) :: L) (by simp only [all]; ac_rfl)).tail.eng_shut
     have hcc := HCG.out _ hs3
     have HCC := hid hcc
     clear hs2 hs3 hcc hk2
     go_wp2_with fail
     with_reducible refine HCC.out.mono ?_
     rintro r w2 ⟨rfl, hs4⟩
     have H4 := hid hs4
     clear hs4
     go_wp2_with fail
     refine bodyPost_ret (v := .tuple #[]) (by simp [results, Tryz.results62, go_sem]) rfl ?_
     exact ⟨rfl, by rw [HF3.out]; exact H4.out⟩
    | false =>
     have hf3 : putsG (goesN n) e i (key, val) = putsL (goesN n) i key ((List.range e.txs.length).drop (m + 1)) (e1.note m i) := by rw [HFM.out, putsL, if_neg (by rw [HSKF.out]; simp)]; simp [hbad]
     have HF3 := hid hf3
     clear hf3 HFM
     rw [hbad] at HC
     clear hbad
     go_wp2_with fail
     with_reducible refine HC.out.mono ?_
     rintro r w' ⟨k2, hk2, rfl, hs2⟩
     have hs3 : S w0 w' (blk w.heap.size 101 [.int .i64 key, .int .i64 val] :: storeP 107 b 0 (e1.note m i).V (e1.note m i).last :: tabP 3 b 11 (e1.note m i).t :: engO b bs k2 (e1.note m i) :: L) := hs2.conv (by simp only [all]; show sep _ (sep _ (sep (storeP _ b 0 e1.V e1.last) (sep (tabP _ b 11 e1.t) _))) = sep _ (sep (storeP _ b 0 e1.V e1.last) (sep (tabP _ b 11 e1.t) _)); ac_rfl)
     have H3 := hid hs3; have HK2 := hid hk2
     clear hs2 hs3 hk2
     go_wp2_with fail
     go_roundw
     case rel => exact ⟨m + 1, e1.note m i, k2, by omega, by go_num, hid (HK2.out.trans hk1.out), HNT, hid (by rw [HNO.out]; exact ho1.out), hid (by rw [HNL.out]; exact hn1.out), HF3, H3.out⟩
     case measure => simp [intOf]; omega
  ·have hd : (List.range e.txs.length).drop m = [] := List.drop_eq_nil_iff.2 (by simp; omega)
   have hf2 := hf1.out
   rw [hd] at hf2
   have HF2 := hid hf2; have HSR := hid hsr
   clear hd hf2 hsr hf1 hok1 HROW
   go_wp2_with fail
   go_end0
   exact ⟨rfl, by rw [HF2.out]; exact HSR.out.tail.eng_shut⟩
end Go.Proofs.YtmfngjclccehaaaGreatDoor
namespace Go.Proofs.YtmfngjclccehaaaGreatDoor
open Go Go.RowKit Go.Sep
variable {e : Eng} {i j : Nat} {N M : Nat} {U : List Task}
theorem TxOk.mono {n m : Nat} {x : Tx} (h : TxOk n x) (hn : n ≤ m) : TxOk m x := ⟨h.state, fun j hj => Nat.lt_of_lt_of_le (h.refs j hj) hn, h.want, h.own, h.keys⟩
def Eng.grown (e : Eng) (x : Tx) : Eng := { e with count := e.count + 1, txs := e.txs ++ [x] }
theorem Eng.grown_tx {x : Tx} (hj : j < e.txs.length) : (e.grown x).tx j = e.tx j := by unfold Eng.grown Eng.tx; simp [List.getElem?_append_left hj]
theorem Eng.grown_last (x : Tx) : (e.grown x).tx e.txs.length = x := by unfold Eng.grown Eng.tx; simp
theorem Eng.grown_len (x : Tx) : (e.grown x).txs.length = e.txs.length + 1 := by simp [Eng.grown]
theorem OkT.few_waits (h : OkT N e U) : 200 * e.many Tx.waits + slacks U ≤ N ∨ (e.many Tx.waits = 0 ∧ e.txs = []) := by
 cases ht : e.txs with
 | nil => right; exact ⟨by simp [Eng.many, ht], rfl⟩
 | cons x l => left; have := (h.fits x (by rw [ht]; simp)).1; omega
theorem OkT.grown (h : OkT N e []) {x : Tx} (h1 : e.txs.length < 200) (h2 : e.open_ < 6) (hs : x.state = 0) (hr : x.reads = []) (hw : x.writes = []) (hwant : x.want = (0, 0)) (hf : x.fore = []) (ha : x.aft = []) : OkT N (e.grown x) [] := by
 obtain ⟨Q, hQ⟩ := h.tab
 have hlen := Eng.grown_len (e := e) x
 have hal : x.alive = true := by simp [Tx.alive, hs]
 have hop : (e.grown x).open_ = e.open_ + 1 := by simp [Eng.open_, Eng.grown, List.countP_append, hal]
 have hwt : (e.grown x).many Tx.waits = e.many Tx.waits := by simp [Eng.many, Eng.grown, List.countP_append, Tx.waits, hs]
 have hcnt := h.cnt
 have htx : ∀ k, ∀ y ∈ Q k, (e.grown x).tx (y.toNat - 1) = e.tx (y.toNat - 1) := fun k y hy => by
  have := hQ.key k y hy
  exact Eng.grown_tx (by omega)
 refine ⟨by omega, h.v10, ?_, fun k v hk => ?_, ⟨Q, hQ.tab, hQ.rk, hQ.hold, fun k y hy => ?_, fun k y hy => by rw [htx k y hy]; exact hQ.alive k y hy, fun k y hy => by rw [htx k y (List.mem_of_mem_tail hy)]; exact hQ.waits k y hy⟩, fun j hj hs' => ?_, by omega, ?_, fun vs hv => ?_, ?_, h.last, ?_, ?_, ?_, by simp, by simp⟩
 ·intro y hy
  rw [hlen]
  rcases List.mem_append.1 hy with hy | hy
  ·exact (h.txs y hy).mono (by omega)
  ·simp only [List.mem_singleton] at hy; subst hy
   exact ⟨by omega, by simp [hf, ha], by rw [hwant]; decide, by simp [hw], by simp [hw]⟩
 ·obtain ⟨g1, g2, g3⟩ := h.wr k v hk
  rw [hlen, Eng.grown_tx (by omega)]
  exact ⟨g1, by omega, g3⟩
 ·rw [hlen]; have := hQ.key k y hy; exact ⟨this.1, this.2.1, by omega⟩
 ·rw [hlen] at hj
  rcases Nat.lt_or_ge j e.txs.length with hl | hl
  ·rw [Eng.grown_tx hl] at hs'
   exact h.all j hl hs'
  ·obtain rfl : j = e.txs.length := by omega
   rw [Eng.grown_last, hs] at hs'; cases hs'
 ·have : (e.grown x).count = e.count + 1 := rfl
  rw [hlen, this]; omega
 ·have := h.rows vs hv
  show _ ≤ e.count + 1 + 1; omega
 ·show _ ≤ e.count + 1; exact Int.le_trans h.wrs (by omega)
 ·have := h.hist
  show _ ≤ (e.count + 1) * ((N : Int) + 10)
  refine Int.le_trans this ?_
  rw [Int.add_mul]; omega
 ·intro y hy
  rcases List.mem_append.1 hy with hy | hy
  ·exact h.reads y hy
  ·simp only [List.mem_singleton] at hy; subst hy; simp [hr]
 ·intro y hy
  rw [hwt]
  rcases List.mem_append.1 hy with hy | hy
  ·exact h.fits y hy
  ·simp only [List.mem_singleton] at hy; subst hy
   rcases h.few_waits with g | ⟨g, _⟩
   ·simp only [hf, ha, List.length_nil]; omega
   ·simp [hf, ha, g, slacks]
theorem OkT.begun (h : OkT N e []) (level : Int) : OkT N (e.begin_ level).1 [] := by
 unfold Eng.begin_
 split
 ·exact h
 split
 ·exact h
 split
 ·exact h
 ·rename_i h1 h2 h3
  exact h.grown (by omega) (by omega) rfl rfl rfl rfl rfl rfl
theorem OkT.field (h : OkT N e U) (hM : N ≤ M) (f : Tx → Tx) (hs : ∀ x, (f x).state = x.state) (hl : ∀ x, (f x).level = x.level) (hf : ∀ x, (f x).fore = x.fore) (ha : ∀ x, (f x).aft = x.aft) (hw : ∀ x, (f x).writes = x.writes)
  (hwant : keyOk (f (e.tx i)).want.1 ∧ valOk (f (e.tx i)).want.2) (hr : (f (e.tx i)).reads.length ≤ M) : OkT M (e.upd i f) U := by
 obtain ⟨Q, hQ⟩ := h.tab
 have hlen : (e.upd i f).txs.length = e.txs.length := Eng.upd_len ..
 have hal : ∀ x, (f x).alive = x.alive := fun x => by simp [Tx.alive, hs]
 have hwa : ∀ x, (f x).waits = x.waits := fun x => by simp [Tx.waits, hs]
 have hop : (e.upd i f).open_ = e.open_ := Eng.many_keep Tx.alive _ hal
 have hwt : (e.upd i f).many Tx.waits = e.many Tx.waits := Eng.many_keep Tx.waits _ hwa
 have hst : ∀ j, ((e.upd i f).tx j).state = (e.tx j).state := Eng.upd_keep (·.state) _ hs
 have hlv : ∀ j, ((e.upd i f).tx j).level = (e.tx j).level := Eng.upd_keep (·.level) _ hl
 refine ⟨by rw [hlen]; exact h.few, h.v10, ?_, fun k v hk => by rw [hlen, hst]; exact h.wr k v hk, ⟨Q, hQ.upd _ (fun k x hx e1 => by have := hQ.alive k x hx; rw [e1] at this; rw [hal]; exact this) (fun k x hx e1 => by have := hQ.waits k x hx; rw [e1] at this; rw [hs]; exact this)⟩, fun j hj hs' => by rw [hst] at hs'; rw [hlen] at hj; exact h.all j hj hs', by rw [hop]; exact h.six, by rw [hop, hlen]; exact h.cnt, h.rows, h.wrs, h.last, ?_, ?_, ?_, fun t ht => ?_, h.apart⟩
 ·rw [hlen]
  refine Eng.upd_all h.txs fun hi => ?_
  have := h.at hi
  exact ⟨by rw [hs]; exact this.state, by rw [hf, ha]; exact this.refs, hwant, by rw [hw]; exact this.own, by rw [hw]; exact this.keys⟩
 ·exact Int.le_trans h.hist (Int.mul_le_mul_of_nonneg_left (by omega) h.cnt.1)
 ·exact Eng.upd_all (p := fun x => x.reads.length ≤ M) (fun x hx => Nat.le_trans (h.reads x hx) hM) fun _ => hr
 ·rw [hwt]
  have : ∀ x ∈ e.txs, x.fore.length + 200 * e.many Tx.waits + slacks U ≤ M ∧ x.aft.length + 200 * e.many Tx.waits + slacks U ≤ M := fun x hx => by have := h.fits x hx; omega
  exact Eng.upd_all (p := fun x => x.fore.length + 200 * e.many Tx.waits + slacks U ≤ M ∧ x.aft.length + 200 * e.many Tx.waits + slacks U ≤ M) this fun hi => by rw [hf, ha]; exact this (e.tx i) (Eng.tx_mem hi)
 ·have ht' := h.ok t ht
  refine ⟨by rw [hlen]; exact ht'.lt, fun w hw => ?_, fun i' w hw => ?_, fun i' key l hw => ?_⟩
  ·rw [hst]; exact ht'.hand w hw
  ·rw [hst]; exact ht'.put i' w hw
  ·rw [hst, hlv, hlen]; exact ht'.ask i' key l hw
theorem Eng.tx_far (h : ¬ j < e.txs.length) : e.tx j = .zero := by unfold Eng.tx; rw [List.getElem?_eq_none (by omega)]; rfl
theorem strict_lt (h : (e.tx j).strict = true) : j < e.txs.length := by
 apply Classical.byContradiction
 intro hj
 rw [Eng.tx_far hj] at h
 simp [Tx.strict, Tx.zero] at h
theorem Eng.note_state (e : Eng) (a b k : Nat) : ((e.note a b).tx k).state = (e.tx k).state := Eng.note_keep (·.state) (fun _ _ => rfl) (fun _ _ => rfl) a b k
theorem sawNew_ok : ∀ (l : List Int) (N : Nat) (e : Eng), OkT N e U → i < e.txs.length → OkT (N + l.length) (sawNew i l e).1 U ∧ (sawNew i l e).1.txs.length = e.txs.length ∧ (∀ k, ((sawNew i l e).1.tx k).state = (e.tx k).state) ∧ (sawNew i l e).1.open_ = e.open_
 | [], N, e, h, hi => ⟨h, rfl, fun _ => rfl, rfl⟩
 | a :: l, N, e, h, hi => by
  unfold sawNew
  simp only
  by_cases hc : 0 < (mget e.wr a).getD 0 ∧ (e.tx (((mget e.wr a).getD 0).toNat - 1)).strict = true
  ·rw [if_pos hc]
   have hj := strict_lt hc.2
   have h1 := h.note1 hi hj
   have e1 := Eng.note_len e i (((mget e.wr a).getD 0).toNat - 1)
   have e2 := Eng.note_state e i (((mget e.wr a).getD 0).toNat - 1)
   have e3 := Eng.note_open e i (((mget e.wr a).getD 0).toNat - 1)
   generalize e.note i (((mget e.wr a).getD 0).toNat - 1) = e' at *
   split
   ·exact ⟨h1.mono (by simp only [List.length_cons]; omega), e1, e2, e3⟩
   ·obtain ⟨g1, g2, g3, g4⟩ := sawNew_ok l (N + 1) e' h1 (by omega)
    exact ⟨g1.mono (by simp only [List.length_cons]; omega), by rw [g2, e1], fun k => by rw [g3, e2], by rw [g4, e3]⟩
  ·rw [if_neg hc]
   obtain ⟨g1, g2, g3, g4⟩ := sawNew_ok l N e h hi
   exact ⟨g1.mono (by simp only [List.length_cons]; omega), g2, g3, g4⟩
theorem sawOpen_ok {key : Int} : ∀ (l : List Nat) (N : Nat) (e : Eng), OkT N e U → i < e.txs.length → OkT (N + l.length) (sawOpen i key l e) U ∧ (sawOpen i key l e).txs.length = e.txs.length ∧ (∀ k, ((sawOpen i key l e).tx k).state = (e.tx k).state) ∧ (sawOpen i key l e).open_ = e.open_
 | [], N, e, h, hi => ⟨h, rfl, fun _ => rfl, rfl⟩
 | a :: l, N, e, h, hi => by
  unfold sawOpen
  by_cases hc : ((e.tx a).wrote key && decide (a ≠ i) && (e.tx a).strict && (e.tx a).alive) = true
  ·rw [if_pos hc]
   simp only [Bool.and_eq_true] at hc
   have hj := strict_lt hc.1.2
   have h1 := h.note1 hi hj
   have e1 := Eng.note_len e i a
   have e2 := Eng.note_state e i a
   have e3 := Eng.note_open e i a
   generalize e.note i a = e' at *
   obtain ⟨g1, g2, g3, g4⟩ := sawOpen_ok (key := key) l (N + 1) e' h1 (by omega)
   exact ⟨g1.mono (by simp only [List.length_cons]; omega), by rw [g2, e1], fun k => by rw [g3, e2], by rw [g4, e3]⟩
  ·rw [if_neg hc]
   obtain ⟨g1, g2, g3, g4⟩ := sawOpen_ok (key := key) l N e h hi
   exact ⟨g1.mono (by simp only [List.length_cons]; omega), g2, g3, g4⟩
theorem OkT.row_len (h : OkT N e U) (k : Int) : (e.row k).length ≤ 401 := by
 unfold Eng.row
 cases hg : e.V[k.toNat]? with
 | none => simp
 | some vs => exact h.row_le vs (List.mem_of_getElem? hg)
theorem sees_ok (h : OkT N e U) (hi : i < e.txs.length) (key : Int) : OkT (N + 601) (e.sees i key).1 U ∧ (e.sees i key).1.txs.length = e.txs.length ∧ (∀ k, ((e.sees i key).1.tx k).state = (e.tx k).state) ∧ (e.sees i key).1.open_ = e.open_ := by
 obtain ⟨g1, g2, g3, g4⟩ := sawNew_ok (newerL (e.row key) (e.tx i).start) N e h hi
 have hn := newerL_le (e.row key) (e.tx i).start
 have hr := h.row_len key
 have hf := h.few
 unfold Eng.sees
 simp only
 split
 ·obtain ⟨k1, k2, k3, k4⟩ := sawOpen_ok (key := key) (List.range (sawNew i (newerL (e.row key) (e.tx i).start) e).1.txs.length) _ _ g1 (by rw [g2]; exact hi)
  rw [List.length_range] at k1
  have k5 : OkT (N + 601) _ U := k1.mono (by omega)
  exact ⟨k5, by rw [k2, g2], fun k => by rw [k3, g3], by rw [k4, g4]⟩
 ·have k5 : OkT (N + 601) _ U := g1.mono (by omega)
  exact ⟨k5, g2, g3, g4⟩
theorem goes_kept (h : OkT N e []) (hi : i < e.txs.length) (ha : (e.tx i).alive = true) (why : Int) : OkT N (e.goes i why) [] :=
 (goesOk e.open_ N e i why [] h hi ha (by simp) (Nat.le_refl _)).1
theorem OkT.reads_in (h : OkT N e U) (hi : i < e.txs.length) (r : Int × Int) : OkT (N + 1) (e.upd i fun x => { x with reads := x.reads ++ [r] }) U :=
 h.field (by omega) _ (fun _ => rfl) (fun _ => rfl) (fun _ => rfl) (fun _ => rfl) (fun _ => rfl) (h.at hi).want (by have := h.reads _ (Eng.tx_mem hi); simp only [List.length_append, List.length_singleton]; omega)
theorem err_num {n : Int} {op : Bool} (h : e.err n op = 0) : ∃ i : Nat, n = (i : Int) + 1 ∧ i < e.txs.length ∧ (op = true → (e.tx i).state = 0) := by
 rcases e.err_cases n op with ⟨h1, _⟩ | ⟨j, hj, hlt, ⟨h1, _⟩ | ⟨_, h2⟩⟩
 ·omega
 ·omega
 ·exact ⟨j, hj, hlt, h2⟩
theorem OkT.red (h : OkT N e []) (n key : Int) : OkT (N + 1000) (e.read n key).1 [] := by
 have hm := h.mono (M := N + 1000) (by omega)
 unfold Eng.read
 split
 ·exact hm
 ·rename_i herr
  obtain ⟨i, rfl, hi, hst⟩ := err_num (Decidable.not_not.1 herr)
  have hi2 : ((i : Int) + 1).toNat - 1 = i := by omega
  simp only [hi2]
  cases mget (e.tx i).writes key with
  | some v => exact hm
  | none =>
   simp only
   split
   ·exact hm
   ·have h1 := h.reads_in hi (key, (mget e.wr (((readV (e.row key) (e.asOf i)).map (·.1)).getD 0)).getD 0)
    have hlen := Eng.upd_len e i fun x => { x with reads := x.reads ++ [(key, (mget e.wr (((readV (e.row key) (e.asOf i)).map (·.1)).getD 0)).getD 0)] }
    have hs1 := Eng.upd_keep (e := e) (i := i) (·.state) (fun x => { x with reads := x.reads ++ [(key, (mget e.wr (((readV (e.row key) (e.asOf i)).map (·.1)).getD 0)).getD 0)] }) (fun _ => rfl) i
    generalize (e.upd i fun x => { x with reads := x.reads ++ [(key, (mget e.wr (((readV (e.row key) (e.asOf i)).map (·.1)).getD 0)).getD 0)] }) = e1 at *
    have hi1 : i < e1.txs.length := by omega
    split
    ·obtain ⟨g1, g2, g3, _⟩ := sees_ok h1 hi1 key
     split
     ·exact g1.mono (by omega)
     ·exact (goes_kept g1 (by omega) (by simp only [Tx.alive, decide_eq_true_eq]; rw [g3, hs1, hst rfl]; decide) 13).mono (by omega)
    ·exact h1.mono (by omega)
theorem OkT.wait_none (h : OkT N e U) (hs : (e.tx i).state ≠ 1) : mget e.t.wait ((i : Int) + 1) = none := by
 obtain ⟨Q, hQ⟩ := h.tab
 exact hQ.not_wait (by rw [show ((i : Int) + 1).toNat - 1 = i by omega]; exact hs)
theorem OkT.got (h : OkT N e []) (hi : i < e.txs.length) (hs : (e.tx i).state = 0) {key : Int} (hk : keyOk key) (hh : mget e.t.hold key = none) : OkT N { e with t := { e.t with hold := mput e.t.hold key ((i : Int) + 1) } } [] := by
 obtain ⟨Q, hQ⟩ := h.tab
 obtain ⟨r, hr⟩ := hQ.rk
 have hq : Q key = [] := by
  have := hQ.tab.hold key
  rw [hh] at this
  cases hq : Q key with
  | nil => rfl
  | cons a l => rw [hq] at this; cases this
 have hat : ∀ k, askQ Q ((i : Int) + 1) key k = if k = key then Q key ++ [(i : Int) + 1] else Q k := fun k => by unfold askQ updQ; rfl
 have hmem : ∀ k, ∀ x ∈ askQ Q ((i : Int) + 1) key k, x ∈ Q k ∨ (k = key ∧ x = (i : Int) + 1) := fun k x hx => by
  rw [hat] at hx
  split at hx
  ·rename_i hk'; subst hk'
   rcases List.mem_append.1 hx with g | g
   ·exact .inl g
   ·exact .inr ⟨rfl, by simpa using g⟩
  ·exact .inl hx
 have htail : ∀ k, ∀ x ∈ (askQ Q ((i : Int) + 1) key k).tail, x ∈ (Q k).tail := fun k x hx => by
  rw [hat] at hx
  split at hx
  ·rw [hq] at hx; simp at hx
  ·exact hx
 refine ⟨h.few, h.v10, h.txs, h.wr, ⟨askQ Q ((i : Int) + 1) key, hQ.tab.ask_free hh, ⟨r, hr.free hq⟩, keys_put_nodup hQ.hold _ _, fun k x hx => ?_, fun k x hx => ?_, fun k x hx => hQ.waits k x (htail k x hx)⟩, h.all, h.six, h.cnt, h.rows, h.wrs, h.last, h.hist, h.reads, h.fits, by simp, by simp⟩
 ·rcases hmem k x hx with g | ⟨rfl, rfl⟩
  ·exact hQ.key k x g
  ·refine ⟨hk, by omega, ?_⟩
   show (i : Int) + 1 ≤ e.txs.length; omega
 ·rcases hmem k x hx with g | ⟨rfl, rfl⟩
  ·exact hQ.alive k x g
  ·rw [show ((i : Int) + 1).toNat - 1 = i by omega]
   show (e.tx i).alive = true
   simp [Tx.alive, hs]
theorem OkT.stands (h : OkT N e []) (hi : i < e.txs.length) (hs : (e.tx i).state = 0) {key a : Int} {n : Nat} (hk : keyOk key) (hh : mget e.t.hold key = some a) (ha : a ≠ (i : Int) + 1) (hc : chase e.t ((i : Int) + 1) n a = some false) :
  OkT (N + 200) ({ e with t := { e.t with wait := mput e.t.wait ((i : Int) + 1) key, line := mput e.t.line key (lineAt e.t key ++ [(i : Int) + 1]) } }.upd i fun x => { x with state := 1 }) [] := by
 obtain ⟨Q, hQ⟩ := h.tab
 obtain ⟨r, hr⟩ := hQ.rk
 have hw := h.wait_none (i := i) (by omega)
 have hq0 : ∀ k, ((i : Int) + 1) ∉ (Q k).tail := hQ.tab.none_wait.1 hw
 have hat : ∀ k, askQ Q ((i : Int) + 1) key k = if k = key then Q key ++ [(i : Int) + 1] else Q k := fun k => by unfold askQ updQ; rfl
 have hmem : ∀ k, ∀ x ∈ askQ Q ((i : Int) + 1) key k, x ∈ Q k ∨ (k = key ∧ x = (i : Int) + 1) := fun k x hx => by
  rw [hat] at hx
  split at hx
  ·rename_i hk'; subst hk'
   rcases List.mem_append.1 hx with g | g
   ·exact .inl g
   ·exact .inr ⟨rfl, by simpa using g⟩
  ·exact .inl hx
 have htail : ∀ k, ∀ x ∈ (askQ Q ((i : Int) + 1) key k).tail, x ∈ (Q k).tail ∨ x = (i : Int) + 1 := fun k x hx => by
  rw [hat] at hx
  split at hx
  ·rename_i hk'; subst hk'
   cases hq : Q k with
   | nil => rw [hq] at hx; simp at hx
   | cons b l =>
    rw [hq] at hx
    simp only [List.cons_append, List.tail_cons, List.mem_append, List.mem_singleton] at hx
    exact hx
  ·exact .inl hx
 generalize he1 : ({ e with t := { e.t with wait := mput e.t.wait ((i : Int) + 1) key, line := mput e.t.line key (lineAt e.t key ++ [(i : Int) + 1]) } } : Eng) = e1
 have htab : TabOk e1 (askQ Q ((i : Int) + 1) key) → TabOk e1 (askQ Q ((i : Int) + 1) key) := id
 have hlen : (e1.upd i fun x => { x with state := 1 }).txs.length = e.txs.length := by rw [Eng.upd_len, ← he1]
 have hi1 : i < e1.txs.length := by rw [← he1]; exact hi
 have htxe : ∀ j, e1.tx j = e.tx j := fun j => by rw [← he1]; rfl
 have hne : ∀ j, j ≠ i → (e1.upd i fun x => { x with state := 1 }).tx j = e.tx j := fun j hj => by rw [Eng.upd_ne (Ne.symm hj), htxe]
 have hself : (e1.upd i fun x => { x with state := 1 }).tx i = { e.tx i with state := 1 } := by rw [Eng.upd_self hi1, htxe]
 have hm1 := Eng.many_upd hi1 Tx.alive (fun x => { x with state := 1 })
 have hm2 := Eng.many_upd hi1 Tx.waits (fun x => { x with state := 1 })
 rw [if_pos (by rw [htxe]; simp [Tx.alive, hs]), if_pos (by simp [Tx.alive])] at hm1
 rw [if_neg (by rw [htxe]; simp [Tx.waits, hs]), if_pos (by simp [Tx.waits])] at hm2
 have hop : (e1.upd i fun x => { x with state := 1 }).open_ = e.open_ := by
  have : e1.many Tx.alive = e.open_ := by rw [← he1]; rfl
  unfold Eng.many at hm1 this; unfold Eng.open_ at *; omega
 have hwt : (e1.upd i fun x => { x with state := 1 }).many Tx.waits = e.many Tx.waits + 1 := by
  have : e1.many Tx.waits = e.many Tx.waits := by rw [← he1]; rfl
  omega
 have hx1 : ∀ x, 1 ≤ x → x ≠ (i : Int) + 1 → x.toNat - 1 ≠ i := fun x _ _ => by omega
 refine ⟨by rw [hlen]; exact h.few, by rw [← he1]; exact h.v10, ?_, fun k v hk => ?_, ⟨askQ Q ((i : Int) + 1) key, ?_, ?_, ?_, fun k x hx => ?_, fun k x hx => ?_, fun k x hx => ?_⟩, fun j hj hs' => ?_, by rw [hop]; exact h.six, ?_, by rw [← he1]; exact h.rows, by rw [← he1]; exact h.wrs, by rw [← he1]; exact h.last, ?_, ?_, ?_, by simp, by simp⟩
 ·rw [hlen]
  refine Eng.upd_all (by rw [← he1]; exact h.txs) fun _ => ?_
  have := h.at hi
  rw [htxe]
  exact ⟨by simp, this.refs, this.want, this.own, this.keys⟩
 ·have hk' : mget e.wr k = some v := by rw [← he1] at hk; exact hk
  obtain ⟨g1, g2, g3⟩ := h.wr k v hk'
  rw [hlen, hne]
  ·exact ⟨g1, g2, g3⟩
  ·intro e2; rw [e2] at g3; omega
 ·rw [← he1]; exact hQ.tab.ask_line hw hh ha
 ·exact Rk.ask hQ.tab hr hw hh hc
 ·rw [← he1]; exact hQ.hold
 ·rw [hlen]
  rcases hmem k x hx with g | ⟨rfl, rfl⟩
  ·exact hQ.key k x g
  ·exact ⟨hk, by omega, by omega⟩
 ·rcases hmem k x hx with g | ⟨rfl, rfl⟩
  ·by_cases hxi : x = (i : Int) + 1
   ·rw [hxi, show ((i : Int) + 1).toNat - 1 = i by omega, hself]; simp [Tx.alive]
   ·rw [hne _ (hx1 x (hQ.key k x g).2.1 hxi)]; exact hQ.alive k x g
  ·rw [show ((i : Int) + 1).toNat - 1 = i by omega, hself]; simp [Tx.alive]
 ·rcases htail k x hx with g | rfl
  ·by_cases hxi : x = (i : Int) + 1
   ·rw [hxi, show ((i : Int) + 1).toNat - 1 = i by omega, hself]
   ·rw [hne _ (hx1 x (hQ.key k x (List.mem_of_mem_tail g)).2.1 hxi)]; exact hQ.waits k x g
  ·rw [show ((i : Int) + 1).toNat - 1 = i by omega, hself]
 ·left
  have hwe : (e1.upd i fun x => { x with state := 1 }).t.wait = mput e.t.wait ((i : Int) + 1) key := by rw [← he1]; rfl
  rw [hwe, mget_put]
  split
  ·simp
  ·rename_i hji
   have hji' : j ≠ i := fun e2 => hji (by rw [e2])
   rw [hne j hji'] at hs'
   rw [hlen] at hj
   rcases h.all j hj hs' with g | ⟨w, g, _⟩
   ·exact g
   ·cases g
 ·rw [hop, hlen, ← he1]; exact h.cnt
 ·rw [← he1]
  exact Int.le_trans h.hist (Int.mul_le_mul_of_nonneg_left (by omega) h.cnt.1)
 ·refine Eng.upd_all (p := fun x => x.reads.length ≤ N + 200) (fun x hx => ?_) fun _ => ?_
  ·have : x ∈ e.txs := by rw [← he1] at hx; exact hx
   have := h.reads x this; omega
  ·rw [htxe]; have := h.reads _ (Eng.tx_mem hi); simp only; omega
 ·rw [hwt]
  have : ∀ x ∈ e.txs, x.fore.length + 200 * (e.many Tx.waits + 1) + slacks [] ≤ N + 200 ∧ x.aft.length + 200 * (e.many Tx.waits + 1) + slacks [] ≤ N + 200 := fun x hx => by
   have := h.fits x hx; omega
  refine Eng.upd_all (p := fun x => x.fore.length + 200 * (e.many Tx.waits + 1) + slacks [] ≤ N + 200 ∧ x.aft.length + 200 * (e.many Tx.waits + 1) + slacks [] ≤ N + 200) (fun x hx => this x (by rw [← he1] at hx; exact hx)) fun _ => ?_
  rw [htxe]; exact this (e.tx i) (Eng.tx_mem hi)
theorem OkT.to_put (h : OkT N e []) (hi : i < e.txs.length) (hs : (e.tx i).state = 0) {w : Int × Int} (hk : keyOk w.1) (hv : valOk w.2) : OkT (N + 200) e [.put i w] := by
 have h' := h.mono (M := N + 200) (by omega)
 refine ⟨h'.few, h'.v10, h'.txs, h'.wr, h'.tab, fun j hj hs' => ?_, h'.six, h'.cnt, h'.rows, h'.wrs, h'.last, h'.hist, h'.reads, fun x hx => ?_, fun t ht => ?_, by simp⟩
 ·rcases h'.all j hj hs' with g | ⟨w, g, _⟩
  ·exact .inl g
  ·cases g
 ·have := h.fits x hx
  simp only [slacks, List.map_cons, List.map_nil, List.sum_cons, List.sum_nil, slack] at this ⊢; omega
 ·simp only [List.mem_singleton] at ht; subst ht
  refine ⟨hi, by simp, fun i' w' e1 => ?_, by simp⟩
  simp only [Task.put.injEq] at e1
  obtain ⟨rfl, rfl⟩ := e1
  exact ⟨hs, hk, hv, h.wait_none (by omega)⟩
end Go.Proofs.YtmfngjclccehaaaGreatDoor
