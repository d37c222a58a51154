/- The program's engine: one that is gone, who comes next, and what that one writes. -/
import Derived.Test.YtaghjcdlghcjeaaGreatDoorZ6
import Derived.Deep.DeepCutAuto
import Derived.Deep.CutBlock
import Derived.Deep.RegionHeldLaw
import Derived.LaidEqlPtr
namespace Go.Proofs.YtaghjcdlghcjeaaGreatDoor
open Go Go.RowKit Go.Sep

def GoesAny (n : Nat) : Prop := ∀ (w0 w : World) (b : Nat) (bs : List Nat) (e : Eng) (i : Nat) (why : Int) (L : List HProp) (N : Nat) (U : List Task), OkT N e U → i < e.txs.length → (e.tx i).alive = true → (∀ u ∈ U, u.who ≠ i) → e.open_ ≤ n → N ≤ 100000000 → S w0 w (engP b bs e :: L) →
  Calls Tryz.prog 29 #[.pointer (some ⟨b, 0, none⟩), .int .i64 ((i : Int) + 1), .int .i64 why] w fun r w' => r = .returned (.tuple #[]) ∧ S w0 w' (engP b bs (goesN n e i why) :: L)
theorem OkT.row_le {N : Nat} {e : Eng} {U : List Task} (h : OkT N e U) : ∀ vs ∈ e.V, vs.length ≤ 401 := by
  intro vs hv
  have h1 := h.rows vs hv
  have h2 := h.cnt
  have h3 := h.few
  have : (0 : Int) ≤ e.open_ := by omega
  omega
/-- The times of a key's later versions. -/
theorem enewer_any (w0 w : World) (b : Nat) (e : Eng) (key at_ : Int) (L : List HProp) (N : Nat) (U : List Task) (h : OkT N e U) (hk : keyOk key) (hs : S w0 w (storeP 84 b 0 e.V e.last :: L)) :
    Calls Tryz.prog 44 #[.pointer (some ⟨b, 0, none⟩), .int .i64 key, .int .i64 at_] w (fun r w' => ∃ a c, r = .returned (.tuple #[.slice a (newerL (e.row key) at_).length c, .nilIface]) ∧ (newerL (e.row key) at_).length ≤ c ∧ c ≤ maxLen ∧ S w0 w' (sl 3 1 (.slice a (newerL (e.row key) at_).length c) (newerL (e.row key) at_).length (icells (newerL (e.row key) at_)) :: storeP 84 b 0 e.V e.last :: L)) := by
  obtain ⟨k, rfl⟩ : ∃ k : Nat, key = k := ⟨key.toNat, by have := hk.1; omega⟩
  have hk2 : k < 10 := by have := hk.2; omega
  have hV : e.V[k]? = some (e.row k) := by
    unfold Eng.row
    have : k < e.V.length := by rw [h.v10]; exact hk2
    simp [this]
  have hle := h.row_le _ (List.mem_of_getElem? hV)
  refine (newer_any w0 w b 0 e.V e.last at_ k (e.row k) L hk2 hs hV (by omega)).mono fun r w' hp => ?_
  obtain ⟨v, h1, h2⟩ := hp
  obtain ⟨a, c, rfl, h3, h4, _⟩ := h2.sl_val
  exact ⟨a, c, h1, h3, h4, h2⟩
/-- A key's value is stored in a transaction's map. -/
theorem eng_wput {w0 w : World} {b : Nat} {bs : List Nat} {k : EngV} {e : Eng} {i : Nat} {L : List HProp} (h : S w0 w (engO b bs k e :: L)) (hi : i < e.txs.length) (key val : Int) :
    ∃ w', (Instr.mapUpdate 36 (.map (some (k.v i).mb)) (.int .i64 key) (.int .i64 val)).run Tryz.prog w = .ok () w' ∧ S w0 w' (engO b bs k (e.wput i (key, val)) :: L) := by
  have hp := h.sep_elim.pur_elim.1
  have h1 : S w0 w (mp encI (fun _ => True) (k.v i).mb (ienc (e.tx i).writes) :: blk (blkOf bs i) 80 (txF (k.v i) (e.tx i)) :: sl 89 2 (k.v i).rv (e.tx i).reads.length (pcells (e.tx i).reads) :: sl 77 1 (k.v i).fv (e.tx i).fore.length (ptrs bs (e.tx i).fore) :: sl 77 1 (k.v i).av (e.tx i).aft.length (ptrs bs (e.tx i).aft) :: engX b bs k e i :: L) :=
    (h.eng_tx hi).conv (by rw [all, txK_parts]; simp only [all]; ac_rfl)
  obtain ⟨w', hr, h2⟩ := h1.put Tryz.keyInt Tryz.underlying36 key trivial (.int .i64 val)
  refine ⟨w', hr, ?_⟩
  have e1 : mput (ienc (e.tx i).writes) key (.int .i64 val) = ienc (mput (e.tx i).writes key val) := ienc_put _ _ _
  rw [e1] at h2
  have h3 : S w0 w' (txK bs (blkOf bs i) (k.v i) { e.tx i with writes := mput (e.tx i).writes key val } :: engX b bs k e i :: L) := by
    refine h2.conv ?_
    rw [txK_parts]
    show _ = sep (sep (blk (blkOf bs i) _ (txF (k.v i) (e.tx i))) (sep (sl _ 2 (k.v i).rv (e.tx i).reads.length (pcells (e.tx i).reads)) (sep _ (sep (sl _ 1 (k.v i).fv (e.tx i).fore.length (ptrs bs (e.tx i).fore)) (sl _ 1 (k.v i).av (e.tx i).aft.length (ptrs bs (e.tx i).aft)))))) _
    simp only [all]; ac_rfl
  have h4 := S.eng_back hi h3
  have e2 : k.set i (k.v i) = k := by
    unfold EngV.set EngV.v
    have : k.tv.set i ((k.tv[i]?).getD .none) = k.tv := by simp [show i < k.tv.length by omega]
    rw [this]
  rw [e2] at h4
  have e3 : { e with txs := e.txs.set i { e.tx i with writes := mput (e.tx i).writes key val } } = e.wput i (key, val) := by
    have := Eng.upd_set hi (fun x => { x with writes := mput x.writes key val })
    unfold Eng.wput Eng.upd at this ⊢
    simp only at this
    rw [this]
  rwa [e3] at h4
theorem tx_size : (Tryz.prog.info? 80).map (·.size) = some 12 := by kernel_rfl
theorem eqlT_same (w : World) (p : Nat) : (binOp .eql 77 (.pointer (some ⟨p, 0, none⟩)) (.pointer (some ⟨p, 0, none⟩))).run Tryz.prog w = .ok (.bool true) w := by
  obtain ⟨j, hj, _⟩ := Option.map_eq_some_iff.1 tx_size
  exact run_eql_ptr_same w ⟨p, 0, none⟩ Tryz.underlying77 hj
theorem eqlT_other {w0 w : World} {b : Nat} {bs : List Nat} {k : EngV} {e : Eng} {i m : Nat} {L : List HProp} (hs : S w0 w (engO b bs k e :: L)) (hi : i < e.txs.length) (hm : m < e.txs.length) (hne : blkOf bs m ≠ blkOf bs i) :
    (binOp .eql 77 (.pointer (some ⟨blkOf bs m, 0, none⟩)) (.pointer (some ⟨blkOf bs i, 0, none⟩))).run Tryz.prog w = .ok (.bool false) w := by
  obtain ⟨j, hj, hsz⟩ := Option.map_eq_some_iff.1 tx_size
  exact run_eql_ptr_other w Tryz.underlying77 hj (by rw [hsz]; decide) (fun e1 => hne (congrArg Addr.block e1)) (hs.eng_tx hm).sep_elim.blk_heap (hs.eng_tx hi).sep_elim.blk_heap
set_option linter.unusedSimpArgs false in
set_option maxRecDepth 100000 in
set_option maxHeartbeats 20000000 in
theorem writes_any (n : Nat) (hg : GoesAny n) (w0 w : World) (b : Nat) (bs : List Nat) (e : Eng) (i : Nat) (key val : Int) (L : List HProp) (N : Nat) (U : List Task) (hok : OkT N e (.put i (key, val) :: U)) (ho : e.open_ ≤ n) (hN : N ≤ 100000000) (hs : S w0 w (engP b bs e :: L)) :
    Calls Tryz.prog 31 #[.pointer (some ⟨b, 0, none⟩), .int .i64 ((i : Int) + 1), .agg #[.int .i64 key, .int .i64 val]] w fun r w' => r = .returned (.tuple #[]) ∧ S w0 w' (engP b bs (putsG (goesN n) e i (key, val)) :: L) := by
  have hk0 := hok.ok _ (List.mem_cons_self ..)
  obtain ⟨hst, hkey, hval, _⟩ := hk0.put i (key, val) rfl
  have hi : i < e.txs.length := hk0.lt
  obtain ⟨k, hs⟩ := hs.eng_open
  have h1 := hs.alloc #[.int .i64 key, .int .i64 val] 51
  have hO : ∀ W M, S w0 W (M ++ (storeP 84 b 0 e.V e.last :: tabP 3 b 11 e.t :: engO b bs k e :: L)) → S w0 W (engO b bs k e :: L) := fun W M h => (h.rest).tail.tail
  have hc := (hO _ [_] h1).eng_c.2
  have c14 := hc.txs
  obtain ⟨a, cap, hv, hle, hcap, hrow⟩ := hc.row
  obtain ⟨g, o, rfl, ci⟩ := hrow i hi
  rw [hv] at c14
  unfold maxLen at hcap
  unfold ptr at ci
  have HS := hid h1; have HO := hid hO; have HOK := hid hok; have HG := hid hg; have HV := hid hv
  have hq : ∀ W M, S w0 W (blk w.heap.size 51 [.int .i64 key, .int .i64 val] :: storeP 84 b 0 e.V e.last :: tabP 3 b 11 e.t :: engO b bs k e :: M) → W.cell? ⟨w.heap.size, 0, none⟩ = some (.int .i64 key) ∧ W.cell? ⟨blkOf bs i, 2, none⟩ = some (.int .i64 (e.tx i).start) := fun W M h =>
    ⟨h.blk_cell 0 rfl, (h.tail.tail.tail.eng_txc hi).2.start⟩
  have HQ := hid hq
  have q0 := hq _ _ h1.drew
  have HHI := hid hi
  clear h1 hO hc hrow hok hg hq hs hk0 hv
  go_enter Tryz.func31, Tryz.ntmps31
  go_wp2_with fail
  go_region_held_law (fun w' => w'.cell? ⟨w.heap.size, 0, none⟩ = some (.int .i64 key) ∧ w'.cell? ⟨blkOf bs i, 2, none⟩ = some (.int .i64 (e.tx i).start)) (first | (with_reducible assumption) | (with_reducible exact q0) | (with_reducible exact q1))
    ((go_at_call 44; with_reducible refine (enewer_any w0 _ b e key _ _ N _ HOK.out hkey (HS.out.drew.swap)).mono ?_; rintro r w2 ⟨an, cn, rfl, hcn, hcn2, hs2⟩; have q1 := HQ.out _ _ (hs2.tail.swap); have G2 := hid hs2; clear hs2))
  have hs3 := G2.out.tail.swap
  have c0 := (hs3.tail.tail.tail.eng_txc HHI.out).2.level
  unfold maxLen at hcn2
  have HLT : Hid (e.late i key ↔ (e.tx i).level ≠ 0 ∧ newerL (e.row key) (e.tx i).start ≠ []) := hid Iff.rfl
  have HM : Hid (newerL (e.row key) (e.tx i).start ≠ [] ↔ 0 < (newerL (e.row key) (e.tx i).start).length) := hid (by rw [List.length_pos_iff])
  have hml : (newerL (e.row key) (e.tx i).start).length ≤ 9223372036854775807 := by omega
  generalize (newerL (e.row key) (e.tx i).start).length = m at *
  have H3 := hid hs3
  clear hs3 q0 G2 HS
  by_cases hl : e.late i key
  · obtain ⟨hl0, hl1⟩ := HLT.out.1 hl
    have hm0 := HM.out.1 hl1
    have hb0 : ((e.tx i).level != 0) = true := by simpa using hl0
    have hlv : putsG (goesN n) e i (key, val) = goesN n e i 10 := if_pos hl
    have HF := hid hlv
    have hcall := HG.out w0 _ b bs e i 10 L N U (HOK.out.tail (by simp)) HHI.out (by simp [Tx.alive, hst]) (HOK.out.who_ne) ho hN H3.out.tail.eng_shut
    have HC := hid hcall
    clear hl hl0 hl1 hlv hcall HLT HM
    go_wp2_with fail
    with_reducible refine HC.out.mono ?_
    rintro r w' ⟨rfl, hs'⟩
    have H4 := hid hs'
    clear hs'
    go_wp2_with fail
    refine bodyPost_ret (v := .tuple #[]) (by simp [results, Tryz.results31, go_sem]) rfl ?_
    exact ⟨rfl, by rw [HF.out]; exact H4.out⟩
  have hw := HOK.out.wput
  have HW := hid hw
  have hup : ∀ W, S w0 W (blk w.heap.size 51 [.int .i64 key, .int .i64 val] :: storeP 84 b 0 e.V e.last :: tabP 3 b 11 e.t :: engO b bs k e :: L) → ∃ w', (Instr.mapUpdate 36 (.map (some (k.v i).mb)) (.int .i64 key) (.int .i64 val)).run Tryz.prog W = .ok () w' ∧ S w0 w' (blk w.heap.size 51 [.int .i64 key, .int .i64 val] :: storeP 84 b 0 (e.wput i (key, val)).V (e.wput i (key, val)).last :: tabP 3 b 11 (e.wput i (key, val)).t :: engO b bs k (e.wput i (key, val)) :: L) := by
    intro W hW
    obtain ⟨w', hr, h⟩ := eng_wput (hW.conv (M := engO b bs k e :: blk w.heap.size 51 [.int .i64 key, .int .i64 val] :: storeP 84 b 0 e.V e.last :: tabP 3 b 11 e.t :: L) (by simp only [all]; ac_rfl)) HHI.out key val
    exact ⟨w', hr, h.conv (by simp only [all]; show sep _ (sep _ (sep (storeP _ b 0 e.V e.last) (sep (tabP _ b 11 e.t) _))) = sep _ (sep (storeP _ b 0 e.V e.last) (sep (tabP _ b 11 e.t) _)); ac_rfl)⟩
  have hq5 : ∀ W M, S w0 W (blk w.heap.size 51 [.int .i64 key, .int .i64 val] :: storeP 84 b 0 e.V e.last :: tabP 3 b 11 e.t :: engO b bs k e :: M) → W.cell? ⟨blkOf bs i, 6, none⟩ = some (.map (some (k.v i).mb)) ∧ W.cell? ⟨w.heap.size, 0, none⟩ = some (.int .i64 key) ∧ W.cell? ⟨w.heap.size, 1, none⟩ = some (.int .i64 val) := fun W M h =>
    ⟨(h.tail.tail.tail.eng_txc HHI.out).2.writes, h.blk_cell 0 rfl, h.blk_cell 1 rfl⟩
  have HUP := hid hup; have HQ5 := hid hq5
  clear hup hq5 hw
  go_upto_region 3 with fail
  go_cut [41] (fun c wx => c = .bool false ∧ S w0 wx (blk w.heap.size 51 [.int .i64 key, .int .i64 val] :: storeP 84 b 0 e.V e.last :: tabP 3 b 11 e.t :: engO b bs k e :: L))
  case first =>
    by_cases h0 : (e.tx i).level = 0
    · have hb : ((e.tx i).level != 0) = false := by simp [h0]
      clear hl h0 HLT HM
      go_wp2_with fail
      go_meet
      exact ⟨rfl, H3.out⟩
    · have hb : ((e.tx i).level != 0) = true := by simpa using h0
      obtain rfl : m = 0 := by
        rcases Nat.eq_zero_or_pos m with h1 | h1
        · exact h1
        · exact absurd (HLT.out.2 ⟨h0, HM.out.2 h1⟩) hl
      clear hl h0 HLT HM
      go_wp2_with fail
      go_meet
      exact ⟨rfl, H3.out⟩
  case rest =>
  rename World => w3
  obtain ⟨rfl, hs4⟩ := hcut
  have H4 := hid hs4
  clear hs4 c0 H3 HLT HM
  go_upto_region 5 with fail
  go_cut [] (fun wx => S w0 wx (blk w.heap.size 51 [.int .i64 key, .int .i64 val] :: storeP 84 b 0 (e.wput i (key, val)).V (e.wput i (key, val)).last :: tabP 3 b 11 (e.wput i (key, val)).t :: engO b bs k (e.wput i (key, val)) :: L))
  case first =>
    refine region_U (S := fun w' => w'.cell? ⟨blkOf bs i, 6, none⟩ = some (.map (some (k.v i).mb)) ∧ w'.cell? ⟨w.heap.size, 0, none⟩ = some (.int .i64 key) ∧ w'.cell? ⟨w.heap.size, 1, none⟩ = some (.int .i64 val)) (u := 8) (by kernel_rfl) (HQ5.out _ _ H4.out.drew) (fun hHeld => ?_)
    refine anyU_take (i := 0) (v := ?_) rfl (by kernel_rfl) (fun _ _ _ h => h) (Or.inl ⟨by rfl, ?_⟩) hHeld ?_
    rotate_left
    · (intro w hSw; (try dsimp only at hSw); go_simp) <;> with_reducible rfl
    try simp only [Act.put, List.setIfInBounds_toArray, List.getElem_toArray, List.getElem_cons_zero, List.getElem_cons_succ, List.set_cons_zero, List.set_cons_succ]
    refine anyU_take (i := 1) (v := ?_) rfl (by kernel_rfl) (fun _ _ _ h => h) (Or.inl ⟨by rfl, ?_⟩) hHeld ?_
    rotate_left
    · (intro w hSw; (try dsimp only at hSw); go_simp) <;> with_reducible rfl
    try simp only [Act.put, List.setIfInBounds_toArray, List.getElem_toArray, List.getElem_cons_zero, List.getElem_cons_succ, List.set_cons_zero, List.set_cons_succ]
    refine anyU_take (i := 2) (v := ?_) rfl (by kernel_rfl) (fun _ _ _ h => h) (Or.inl ⟨by rfl, ?_⟩) hHeld ?_
    rotate_left
    · (intro w hSw; (try dsimp only at hSw); go_simp) <;> with_reducible rfl
    try simp only [Act.put, List.setIfInBounds_toArray, List.getElem_toArray, List.getElem_cons_zero, List.getElem_cons_succ, List.set_cons_zero, List.set_cons_succ]
    refine anyU_take (i := 3) (v := ?_) rfl (by kernel_rfl) (fun _ _ _ h => h) (Or.inl ⟨by rfl, ?_⟩) hHeld ?_
    rotate_left
    · (intro w hSw; (try dsimp only at hSw); go_simp) <;> with_reducible rfl
    try simp only [Act.put, List.setIfInBounds_toArray, List.getElem_toArray, List.getElem_cons_zero, List.getElem_cons_succ, List.set_cons_zero, List.set_cons_succ]
    refine anyU_take (i := 4) (v := ?_) rfl (by kernel_rfl) (fun _ _ _ h => h) (Or.inl ⟨by rfl, ?_⟩) hHeld ?_
    rotate_left
    · (intro w hSw; (try dsimp only at hSw); go_simp) <;> with_reducible rfl
    try simp only [Act.put, List.setIfInBounds_toArray, List.getElem_toArray, List.getElem_cons_zero, List.getElem_cons_succ, List.set_cons_zero, List.set_cons_succ]
    refine anyU_take (i := 5) (v := ?_) rfl (by kernel_rfl) (fun _ _ _ h => h) (Or.inl ⟨by rfl, ?_⟩) hHeld ?_
    rotate_left
    · (intro w hSw; (try dsimp only at hSw); go_simp) <;> with_reducible rfl
    try simp only [Act.put, List.setIfInBounds_toArray, List.getElem_toArray, List.getElem_cons_zero, List.getElem_cons_succ, List.set_cons_zero, List.set_cons_succ]
    refine anyU_take (i := 6) (v := ?_) rfl (by kernel_rfl) (fun _ _ _ h => h) (Or.inl ⟨by rfl, ?_⟩) hHeld ?_
    rotate_left
    · (intro w hSw; (try dsimp only at hSw); go_simp) <;> with_reducible rfl
    try simp only [Act.put, List.setIfInBounds_toArray, List.getElem_toArray, List.getElem_cons_zero, List.getElem_cons_succ, List.set_cons_zero, List.set_cons_succ]
    refine anyU_take (i := 7) (v := ?_) rfl (by kernel_rfl) (fun _ _ _ h => h) (Or.inl ⟨by rfl, ?_⟩) hHeld ?_
    rotate_left
    · (intro w hSw; (try dsimp only at hSw); go_simp) <;> with_reducible rfl
    try simp only [Act.put, List.setIfInBounds_toArray, List.getElem_toArray, List.getElem_cons_zero, List.getElem_cons_succ, List.set_cons_zero, List.set_cons_succ]
    have HS := hid H4.out.drew
    clear hHeld
    refine anyU_world (fun w => Hid (S w0 w _)) HS (fun w1 HS => ?_)
    refine anyU_next (rs := [8]) (by kernel_rfl) (by simp) ?_
    refine NextU.cons rfl (fun K hK => ?_) ?_
    · refine step_mapuE rfl 36 (.tmp 48) (.tmp 50) (.tmp 52) rfl (by rfl) (by rfl) (by rfl) (HUP.out _ HS.out) ?_
      intro w2 hs2
      have H6 := hid hs2
      clear hs2
      refine hK.out _ _ (fun h => Bool.noConfusion (show true = false from h)) ?_
      clear hK K
      try simp only [Act.put, List.setIfInBounds_toArray, List.getElem_toArray, List.getElem_cons_zero, List.getElem_cons_succ, List.set_cons_zero, List.set_cons_succ]
      refine anyU_done (by kernel_rfl) ?_ _
      go_wp2_with fail
      go_meet
      exact H6.out
    exact NextU.nil
  case rest =>
  rename World => w4
  have H5 := hid hcut
  clear hcut H4 HUP HQ5 HQ HO
  have hlv : ((e.wput i (key, val)).tx i).level = (e.tx i).level := Eng.upd_keep (·.level) (fun x => { x with writes := mput x.writes key val }) (fun _ => rfl) i
  have hln : (e.wput i (key, val)).txs.length = e.txs.length := Eng.upd_len ..
  have hop : (e.wput i (key, val)).open_ = e.open_ := Eng.many_keep Tx.alive _ fun _ => rfl
  have HHI2 : i < (e.wput i (key, val)).txs.length := by rw [hln]; exact HHI.out
  have c0 := (H5.out.tail.tail.tail.eng_txc HHI2).2.level
  rw [hlv] at c0
  have HLV := hid hlv; have HLN := hid hln; have HOP := hid hop
  clear hlv hln hop
  by_cases h2 : (e.tx i).level ≠ 2
  · have hb2 : ((e.tx i).level != 2) = true := by simpa using h2
    have hpv : putsG (goesN n) e i (key, val) = e.wput i (key, val) := by unfold putsG; rw [if_neg hl, if_neg h2]
    have HF := hid hpv
    clear hl h2 hpv HHI2
    go_wp2_with fail
    refine bodyPost_ret (v := .tuple #[]) (by simp [results, Tryz.results31, go_sem]) rfl ?_
    exact ⟨rfl, by rw [HF.out]; exact H5.out.tail.eng_shut⟩
  have h2 := Decidable.not_not.1 h2
  have hb2 : ((e.tx i).level != 2) = false := by simp [h2]
  have hpv : putsG (goesN n) e i (key, val) = putsL (goesN n) i key (List.range e.txs.length) (e.wput i (key, val)) := by unfold putsG; rw [if_neg hl, if_pos h2]
  have hok2 := HW.out.2 h2
  have HF := hid hpv; have HOK2 := hid hok2
  have hc4 := H5.out.tail.tail.tail.eng_c.2.txs
  rw [HV.out] at hc4
  have hrow : ∀ (W : World) (k1 : EngV) (e1 : Eng) (M : List HProp), k1.txv = k.txv → e1.txs.length = e.txs.length → S w0 W (engO b bs k1 e1 :: M) → ∀ j, j < e.txs.length → W.cell? ⟨g, o + j, none⟩ = some (ptr bs j) := by
    intro W k1 e1 M h1 h2 h3 j hj
    obtain ⟨a', cap', h4, _, _, h5⟩ := h3.eng_c.2.row
    obtain ⟨g', o', h6, h7⟩ := h5 j (by omega)
    rw [h1, HV.out, h6] at h4
    simp only [Value.slice.injEq, Option.some.injEq, Addr.mk.injEq] at h4
    obtain ⟨⟨rfl, rfl, _⟩, _, _⟩ := h4
    exact h7
  have HROW := hid hrow
  have hfew := HOK.out.few
  have HO2 : Hid ((e.wput i (key, val)).open_ ≤ n) := hid (by rw [HOP.out]; exact ho)
  clear hl h2 hpv hok2 hrow HHI2 HW HOP
  go_wp2_with fail
  go_loopw [63] (fun c wr => ∃ (m : Nat) (e1 : Eng) (k1 : EngV), m ≤ e.txs.length ∧ c = .int .i64 m ∧ Hid (k1.txv = k.txv) ∧ Hid (OkT N e1 (.ask i key ((List.range e.txs.length).drop m) :: U)) ∧ Hid (e1.open_ ≤ n) ∧ Hid (e1.txs.length = e.txs.length) ∧ Hid (putsG (goesN n) e i (key, val) = putsL (goesN n) i key ((List.range e.txs.length).drop m) e1) ∧ S w0 wr (blk w.heap.size 51 [.int .i64 key, .int .i64 val] :: storeP 84 b 0 e1.V e1.last :: tabP 3 b 11 e1.t :: engO b bs k1 e1 :: L)) (fun c _ => e.txs.length - (intOf c).toNat)
  case atStart => exact ⟨0, e.wput i (key, val), k, Nat.zero_le _, rfl, hid rfl, HOK2, HO2, HLN, HF, H5.out⟩
  case round =>
    rename World => wr
    obtain ⟨m, e1, k1, hm, rfl, hk1, hok1, ho1, hn1, hf1, hsr⟩ := hrel
    clear H5 HF HOK2 HO2 HLN HLV HOK hc4 c0
    by_cases hlt : m < e.txs.length
    · have hd : (List.range e.txs.length).drop m = m :: (List.range e.txs.length).drop (m + 1) := by rw [List.drop_eq_getElem_cons (by simpa using hlt)]; simp
      have hok2 := hok1.out
      have hf2 := hf1.out
      rw [hd] at hok2 hf2
      have hj : m < e1.txs.length := by rw [hn1.out]; exact hlt
      have hi1 : i < e1.txs.length := by rw [hn1.out]; exact HHI.out
      have cm := HROW.out wr k1 e1 _ hk1.out hn1.out hsr.tail.tail.tail m hlt
      unfold ptr at cm
      have hq10 : ∀ W M, S w0 W (blk w.heap.size 51 [.int .i64 key, .int .i64 val] :: storeP 84 b 0 e1.V e1.last :: tabP 3 b 11 e1.t :: engO b bs k1 e1 :: M) → W.cell? ⟨blkOf bs m, 1, none⟩ = some (.int .i64 (e1.tx m).state) ∧ W.cell? ⟨blkOf bs m, 4, none⟩ = some (.int .i64 (e1.tx m).ended) ∧ W.cell? ⟨blkOf bs i, 3, none⟩ = some (.int .i64 (e1.tx i).begun) ∧ W.cell? ⟨blkOf bs m, 5, none⟩ = some (k1.v m).rv := fun W M h =>
        ⟨(h.tail.tail.tail.eng_txc hj).2.state, (h.tail.tail.tail.eng_txc hj).2.ended, (h.tail.tail.tail.eng_txc hi1).2.begun, (h.tail.tail.tail.eng_txc hj).2.reads⟩
      have hstr : ∀ W, S w0 W (blk w.heap.size 51 [.int .i64 key, .int .i64 val] :: storeP 84 b 0 e1.V e1.last :: tabP 3 b 11 e1.t :: engO b bs k1 e1 :: L) → Calls Tryz.prog 45 #[.pointer (some ⟨blkOf bs m, 0, none⟩)] W fun r w' => r = .returned (.bool (e1.tx m).strict) ∧ W = w' := fun W h => strict_eng w0 W b bs k1 e1 m _ h.tail.tail.tail hj
      have hcon : ∀ W, S w0 W (blk w.heap.size 51 [.int .i64 key, .int .i64 val] :: storeP 84 b 0 e1.V e1.last :: tabP 3 b 11 e1.t :: engO b bs k1 e1 :: L) → Calls Tryz.prog 49 #[(k1.v m).rv, sawF w.heap.size] W fun r w' => r = .returned (.bool ((e1.tx m).saw key)) ∧ S w0 w' (blk w.heap.size 51 [.int .i64 key, .int .i64 val] :: storeP 84 b 0 e1.V e1.last :: tabP 3 b 11 e1.t :: engO b bs k1 e1 :: L) := fun W h =>
        (containsR_any w0 W b bs k1 e1 m w.heap.size key val (storeP 84 b 0 e1.V e1.last :: tabP 3 b 11 e1.t :: L) (h.conv (by simp only [all]; ac_rfl)) hj).mono fun r w' h => ⟨h.1, h.2.conv (by simp only [all]; ac_rfl)⟩
      have hsk : skips e1 i key m = (decide (m = i) || !(e1.tx m).strict || (decide ((e1.tx m).state = 2) && decide ((e1.tx m).ended < (e1.tx i).begun)) || !(e1.tx m).saw key) := rfl
      have hbne : m ≠ i → blkOf bs m ≠ blkOf bs i := fun h => blk_ne hsr.tail.tail.tail.eng_c.2 hj hi1 h
      have HR0 := hid hsr; have HQ10 := hid hq10; have HCON := hid hcon; have HOKM := hid hok2; have HFM := hid hf2; have HSTR0 := hid hstr; have HSK0 := hid hsk; have HBNE := hid hbne; have HJ := hid hj; have HI1 := hid hi1
      clear hd hok2 hf2 hj hi1 hq10 hstr hcon hsk hsr hok1 hf1 hbne
      go_upto_region 10 with fail
      go_cut [101] (fun s101 wx => s101 = .bool (skips e1 i key m) ∧ S w0 wx (blk w.heap.size 51 [.int .i64 key, .int .i64 val] :: storeP 84 b 0 e1.V e1.last :: tabP 3 b 11 e1.t :: engO b bs k1 e1 :: L))
      case first =>
        generalize (e1.tx m).state = stj at *
        generalize (e1.tx m).ended = enj at *
        generalize (e1.tx i).begun = bgi at *
        generalize hrv : (k1.v m).rv = rvj at *
        clear hrv
        generalize (e1.tx m).saw key = sk at *
        generalize (e1.tx m).strict = st at *
        have HSTR := HSTR0
        clear HSTR0
        by_cases hmi : m = i
        · subst hmi
          have HSK : Hid (skips e1 m key m = true) := hid (by rw [HSK0.out]; simp)
          have heqs := fun w => eqlT_same w (blkOf bs m)
          clear HSK0 HBNE
          refine wp_region_held_drew (S := fun w' => w'.cell? ⟨blkOf bs m, 1, none⟩ = some (.int .i64 stj) ∧ w'.cell? ⟨blkOf bs m, 4, none⟩ = some (.int .i64 enj) ∧ w'.cell? ⟨blkOf bs m, 3, none⟩ = some (.int .i64 bgi) ∧ w'.cell? ⟨blkOf bs m, 5, none⟩ = some rvj) (by kernel_rfl) (HQ10.out _ _ HR0.out.drew) (fun hHeld => ?_)
          refine wpAnyH_take (i := 0) (v := ?_) rfl (by kernel_rfl) (by kernel_rfl) (by kernel_rfl) (fun _ _ _ h => h) (Or.inl ⟨by rfl, ?_⟩) hHeld ?_
          rotate_left
          · (intro w hSw; (try dsimp only at hSw); go_simp) <;> with_reducible rfl
          try simp only [Act.put, List.setIfInBounds_toArray, List.getElem_toArray, List.getElem_cons_zero, List.getElem_cons_succ, List.set_cons_zero, List.set_cons_succ]
          refine wpAnyH_take (i := 1) (v := ?_) rfl (by kernel_rfl) (by kernel_rfl) (by kernel_rfl) (fun _ _ _ h => h) (Or.inl ⟨by rfl, ?_⟩) hHeld ?_
          rotate_left
          · (intro w hSw; (try dsimp only at hSw); go_simp) <;> with_reducible rfl
          try simp only [Act.put, List.setIfInBounds_toArray, List.getElem_toArray, List.getElem_cons_zero, List.getElem_cons_succ, List.set_cons_zero, List.set_cons_succ]
          refine wpAnyH_take (i := 2) (v := ?_) rfl (by kernel_rfl) (by kernel_rfl) (by kernel_rfl) (fun _ _ _ h => h) (Or.inl ⟨by rfl, ?_⟩) hHeld ?_
          rotate_left
          · (intro w hSw; (try dsimp only at hSw); go_simp) <;> with_reducible rfl
          try simp only [Act.put, List.setIfInBounds_toArray, List.getElem_toArray, List.getElem_cons_zero, List.getElem_cons_succ, List.set_cons_zero, List.set_cons_succ]
          refine wpAnyH_take (i := 3) (v := ?_) rfl (by kernel_rfl) (by kernel_rfl) (by kernel_rfl) (fun _ _ _ h => h) (Or.inl ⟨by rfl, ?_⟩) hHeld ?_
          rotate_left
          · (intro w hSw; (try dsimp only at hSw); go_simp) <;> with_reducible rfl
          try simp only [Act.put, List.setIfInBounds_toArray, List.getElem_toArray, List.getElem_cons_zero, List.getElem_cons_succ, List.set_cons_zero, List.set_cons_succ]
          refine wpAnyH_take (i := 4) (v := undef) rfl (by kernel_rfl) (by kernel_rfl) (by kernel_rfl) (fun _ _ _ h => h) (Or.inr ⟨by rfl, rfl⟩) hHeld ?_
          try simp only [Act.put, List.setIfInBounds_toArray, List.getElem_toArray, List.getElem_cons_zero, List.getElem_cons_succ, List.set_cons_zero, List.set_cons_succ]
          refine wpAnyH_take (i := 5) (v := undef) rfl (by kernel_rfl) (by kernel_rfl) (by kernel_rfl) (fun _ _ _ h => h) (Or.inr ⟨by rfl, rfl⟩) hHeld ?_
          try simp only [Act.put, List.setIfInBounds_toArray, List.getElem_toArray, List.getElem_cons_zero, List.getElem_cons_succ, List.set_cons_zero, List.set_cons_succ]
          refine wpAnyH_take (i := 6) (v := undef) rfl (by kernel_rfl) (by kernel_rfl) (by kernel_rfl) (fun _ _ _ h => h) (Or.inr ⟨by rfl, rfl⟩) hHeld ?_
          try simp only [Act.put, List.setIfInBounds_toArray, List.getElem_toArray, List.getElem_cons_zero, List.getElem_cons_succ, List.set_cons_zero, List.set_cons_succ]
          refine wpAnyH_take (i := 7) (v := ?_) rfl (by kernel_rfl) (by kernel_rfl) (by kernel_rfl) (fun _ _ _ h => h) (Or.inl ⟨by rfl, ?_⟩) hHeld ?_
          rotate_left
          · (intro w hSw; (try dsimp only at hSw); go_simp) <;> with_reducible rfl
          try simp only [Act.put, List.setIfInBounds_toArray, List.getElem_toArray, List.getElem_cons_zero, List.getElem_cons_succ, List.set_cons_zero, List.set_cons_succ]
          refine wpAnyH_take (i := 8) (v := ?_) rfl (by kernel_rfl) (by kernel_rfl) (by kernel_rfl) (fun _ _ _ h => h) (Or.inl ⟨by rfl, ?_⟩) hHeld ?_
          rotate_left
          · (intro w hSw; (try dsimp only at hSw); go_simp) <;> with_reducible rfl
          try simp only [Act.put, List.setIfInBounds_toArray, List.getElem_toArray, List.getElem_cons_zero, List.getElem_cons_succ, List.set_cons_zero, List.set_cons_succ]
          refine wpAnyH_take (i := 9) (v := undef) rfl (by kernel_rfl) (by kernel_rfl) (by kernel_rfl) (fun _ _ _ h => h) (Or.inr ⟨by rfl, rfl⟩) hHeld ?_
          try simp only [Act.put, List.setIfInBounds_toArray, List.getElem_toArray, List.getElem_cons_zero, List.getElem_cons_succ, List.set_cons_zero, List.set_cons_succ]
          refine wpAnyH_take (i := 10) (v := undef) rfl (by kernel_rfl) (by kernel_rfl) (by kernel_rfl) (fun _ _ _ h => h) (Or.inr ⟨by rfl, rfl⟩) hHeld ?_
          try simp only [Act.put, List.setIfInBounds_toArray, List.getElem_toArray, List.getElem_cons_zero, List.getElem_cons_succ, List.set_cons_zero, List.set_cons_succ]
          refine wpAnyH_take (i := 11) (v := undef) rfl (by kernel_rfl) (by kernel_rfl) (by kernel_rfl) (fun _ _ _ h => h) (Or.inr ⟨by rfl, rfl⟩) hHeld ?_
          try simp only [Act.put, List.setIfInBounds_toArray, List.getElem_toArray, List.getElem_cons_zero, List.getElem_cons_succ, List.set_cons_zero, List.set_cons_succ]
          refine wpAnyH_take (i := 12) (v := undef) rfl (by kernel_rfl) (by kernel_rfl) (by kernel_rfl) (fun _ _ _ h => h) (Or.inr ⟨by rfl, rfl⟩) hHeld ?_
          try simp only [Act.put, List.setIfInBounds_toArray, List.getElem_toArray, List.getElem_cons_zero, List.getElem_cons_succ, List.set_cons_zero, List.set_cons_succ]
          refine wpAnyH_take (i := 13) (v := undef) rfl (by kernel_rfl) (by kernel_rfl) (by kernel_rfl) (fun _ _ _ h => h) (Or.inr ⟨by rfl, rfl⟩) hHeld ?_
          try simp only [Act.put, List.setIfInBounds_toArray, List.getElem_toArray, List.getElem_cons_zero, List.getElem_cons_succ, List.set_cons_zero, List.set_cons_succ]
          refine wpAnyH_take (i := 14) (v := undef) rfl (by kernel_rfl) (by kernel_rfl) (by kernel_rfl) (fun _ _ _ h => h) (Or.inr ⟨by rfl, rfl⟩) hHeld ?_
          try simp only [Act.put, List.setIfInBounds_toArray, List.getElem_toArray, List.getElem_cons_zero, List.getElem_cons_succ, List.set_cons_zero, List.set_cons_succ]
          refine wpAnyH_take (i := 15) (v := undef) rfl (by kernel_rfl) (by kernel_rfl) (by kernel_rfl) (fun _ _ _ h => h) (Or.inr ⟨by rfl, rfl⟩) hHeld ?_
          try simp only [Act.put, List.setIfInBounds_toArray, List.getElem_toArray, List.getElem_cons_zero, List.getElem_cons_succ, List.set_cons_zero, List.set_cons_succ]
          refine wpAnyH_take (i := 16) (v := undef) rfl (by kernel_rfl) (by kernel_rfl) (by kernel_rfl) (fun _ _ _ h => h) (Or.inr ⟨by rfl, rfl⟩) hHeld ?_
          try simp only [Act.put, List.setIfInBounds_toArray, List.getElem_toArray, List.getElem_cons_zero, List.getElem_cons_succ, List.set_cons_zero, List.set_cons_succ]
          refine wpAnyH_take (i := 17) (v := undef) rfl (by kernel_rfl) (by kernel_rfl) (by kernel_rfl) (fun _ _ _ h => h) (Or.inr ⟨by rfl, rfl⟩) hHeld ?_
          try simp only [Act.put, List.setIfInBounds_toArray, List.getElem_toArray, List.getElem_cons_zero, List.getElem_cons_succ, List.set_cons_zero, List.set_cons_succ]
          refine wpAnyH_take (i := 18) (v := undef) rfl (by kernel_rfl) (by kernel_rfl) (by kernel_rfl) (fun _ _ _ h => h) (Or.inr ⟨by rfl, rfl⟩) hHeld ?_
          try simp only [Act.put, List.setIfInBounds_toArray, List.getElem_toArray, List.getElem_cons_zero, List.getElem_cons_succ, List.set_cons_zero, List.set_cons_succ]
          refine wpAnyH_take (i := 19) (v := undef) rfl (by kernel_rfl) (by kernel_rfl) (by kernel_rfl) (fun _ _ _ h => h) (Or.inr ⟨by rfl, rfl⟩) hHeld ?_
          try simp only [Act.put, List.setIfInBounds_toArray, List.getElem_toArray, List.getElem_cons_zero, List.getElem_cons_succ, List.set_cons_zero, List.set_cons_succ]
          refine wpAnyH_take (i := 20) (v := undef) rfl (by kernel_rfl) (by kernel_rfl) (by kernel_rfl) (fun _ _ _ h => h) (Or.inr ⟨by rfl, rfl⟩) hHeld ?_
          try simp only [Act.put, List.setIfInBounds_toArray, List.getElem_toArray, List.getElem_cons_zero, List.getElem_cons_succ, List.set_cons_zero, List.set_cons_succ]
          refine wpAnyH_take (i := 21) (v := undef) rfl (by kernel_rfl) (by kernel_rfl) (by kernel_rfl) (fun _ _ _ h => h) (Or.inr ⟨by rfl, rfl⟩) hHeld ?_
          try simp only [Act.put, List.setIfInBounds_toArray, List.getElem_toArray, List.getElem_cons_zero, List.getElem_cons_succ, List.set_cons_zero, List.set_cons_succ]
          refine wpAnyH_take (i := 22) (v := undef) rfl (by kernel_rfl) (by kernel_rfl) (by kernel_rfl) (fun _ _ _ h => h) (Or.inr ⟨by rfl, rfl⟩) hHeld ?_
          try simp only [Act.put, List.setIfInBounds_toArray, List.getElem_toArray, List.getElem_cons_zero, List.getElem_cons_succ, List.set_cons_zero, List.set_cons_succ]
          refine wpAnyH_take (i := 23) (v := undef) rfl (by kernel_rfl) (by kernel_rfl) (by kernel_rfl) (fun _ _ _ h => h) (Or.inr ⟨by rfl, rfl⟩) hHeld ?_
          try simp only [Act.put, List.setIfInBounds_toArray, List.getElem_toArray, List.getElem_cons_zero, List.getElem_cons_succ, List.set_cons_zero, List.set_cons_succ]
          refine wpAnyH_take (i := 24) (v := undef) rfl (by kernel_rfl) (by kernel_rfl) (by kernel_rfl) (fun _ _ _ h => h) (Or.inr ⟨by rfl, rfl⟩) hHeld ?_
          try simp only [Act.put, List.setIfInBounds_toArray, List.getElem_toArray, List.getElem_cons_zero, List.getElem_cons_succ, List.set_cons_zero, List.set_cons_succ]
          refine wpAnyH_take (i := 25) (v := ?_) rfl (by kernel_rfl) (by kernel_rfl) (by kernel_rfl) (fun _ _ _ h => h) (Or.inl ⟨by rfl, ?_⟩) hHeld ?_
          rotate_left
          · (intro w hSw; (try dsimp only at hSw); go_simp) <;> with_reducible rfl
          try simp only [Act.put, List.setIfInBounds_toArray, List.getElem_toArray, List.getElem_cons_zero, List.getElem_cons_succ, List.set_cons_zero, List.set_cons_succ]
          refine wpAnyH_take (i := 26) (v := ?_) rfl (by kernel_rfl) (by kernel_rfl) (by kernel_rfl) (fun _ _ _ h => h) (Or.inl ⟨by rfl, ?_⟩) hHeld ?_
          rotate_left
          · (intro w hSw; (try dsimp only at hSw); go_simp) <;> with_reducible rfl
          try simp only [Act.put, List.setIfInBounds_toArray, List.getElem_toArray, List.getElem_cons_zero, List.getElem_cons_succ, List.set_cons_zero, List.set_cons_succ]
          refine wpAnyH_take (i := 27) (v := undef) rfl (by kernel_rfl) (by kernel_rfl) (by kernel_rfl) (fun _ _ _ h => h) (Or.inr ⟨by rfl, rfl⟩) hHeld ?_
          try simp only [Act.put, List.setIfInBounds_toArray, List.getElem_toArray, List.getElem_cons_zero, List.getElem_cons_succ, List.set_cons_zero, List.set_cons_succ]
          refine wpAnyH_take (i := 28) (v := undef) rfl (by kernel_rfl) (by kernel_rfl) (by kernel_rfl) (fun _ _ _ h => h) (Or.inr ⟨by rfl, rfl⟩) hHeld ?_
          try simp only [Act.put, List.setIfInBounds_toArray, List.getElem_toArray, List.getElem_cons_zero, List.getElem_cons_succ, List.set_cons_zero, List.set_cons_succ]
          refine wpAnyH_take (i := 29) (v := undef) rfl (by kernel_rfl) (by kernel_rfl) (by kernel_rfl) (fun _ _ _ h => h) (Or.inr ⟨by rfl, rfl⟩) hHeld ?_
          try simp only [Act.put, List.setIfInBounds_toArray, List.getElem_toArray, List.getElem_cons_zero, List.getElem_cons_succ, List.set_cons_zero, List.set_cons_succ]
          refine wpAnyH_take (i := 30) (v := undef) rfl (by kernel_rfl) (by kernel_rfl) (by kernel_rfl) (fun _ _ _ h => h) (Or.inr ⟨by rfl, rfl⟩) hHeld ?_
          try simp only [Act.put, List.setIfInBounds_toArray, List.getElem_toArray, List.getElem_cons_zero, List.getElem_cons_succ, List.set_cons_zero, List.set_cons_succ]
          refine wpAnyH_take (i := 31) (v := undef) rfl (by kernel_rfl) (by kernel_rfl) (by kernel_rfl) (fun _ _ _ h => h) (Or.inr ⟨by rfl, rfl⟩) hHeld ?_
          try simp only [Act.put, List.setIfInBounds_toArray, List.getElem_toArray, List.getElem_cons_zero, List.getElem_cons_succ, List.set_cons_zero, List.set_cons_succ]
          refine wpAnyH_take (i := 32) (v := undef) rfl (by kernel_rfl) (by kernel_rfl) (by kernel_rfl) (fun _ _ _ h => h) (Or.inr ⟨by rfl, rfl⟩) hHeld ?_
          try simp only [Act.put, List.setIfInBounds_toArray, List.getElem_toArray, List.getElem_cons_zero, List.getElem_cons_succ, List.set_cons_zero, List.set_cons_succ]
          refine wpAnyH_take (i := 33) (v := undef) rfl (by kernel_rfl) (by kernel_rfl) (by kernel_rfl) (fun _ _ _ h => h) (Or.inr ⟨by rfl, rfl⟩) hHeld ?_
          try simp only [Act.put, List.setIfInBounds_toArray, List.getElem_toArray, List.getElem_cons_zero, List.getElem_cons_succ, List.set_cons_zero, List.set_cons_succ]
          refine wpAnyH_take (i := 34) (v := ?_) rfl (by kernel_rfl) (by kernel_rfl) (by kernel_rfl) (fun _ _ _ h => h) (Or.inl ⟨by rfl, ?_⟩) hHeld ?_
          rotate_left
          · (intro w hSw; (try dsimp only at hSw); go_simp) <;> with_reducible rfl
          try simp only [Act.put, List.setIfInBounds_toArray, List.getElem_toArray, List.getElem_cons_zero, List.getElem_cons_succ, List.set_cons_zero, List.set_cons_succ]
          have HS := hid HR0.out.drew
          clear hHeld
          refine anyH_world (fun w => Hid (S w0 w _)) HS (fun w1 HS => ?_)
          refine wpAnyH_done (by kernel_rfl) ?_ _
          go_wp2_with fail
          go_meet
          exact ⟨by rw [HSK.out] <;> rfl, HS.out⟩
        have hne := HBNE.out hmi
        have hq11 := fun W M h => And.intro (eqlT_other (S.tail (S.tail (S.tail h))) HI1.out HJ.out hne) (HQ10.out W M h)
        have HQ11 := hid hq11
        clear HBNE hne hq11 HQ10
        cases st with
        | false =>
          have HSK : Hid (skips e1 i key m = true) := hid (by rw [HSK0.out]; simp)
          clear HSK0 hmi
          refine wp_region_held_drew (S := fun w' => (binOp .eql 77 (.pointer (some ⟨blkOf bs m, 0, none⟩)) (.pointer (some ⟨blkOf bs i, 0, none⟩))).run Tryz.prog w' = .ok (.bool false) w' ∧ w'.cell? ⟨blkOf bs m, 1, none⟩ = some (.int .i64 stj) ∧ w'.cell? ⟨blkOf bs m, 4, none⟩ = some (.int .i64 enj) ∧ w'.cell? ⟨blkOf bs i, 3, none⟩ = some (.int .i64 bgi) ∧ w'.cell? ⟨blkOf bs m, 5, none⟩ = some rvj) (by kernel_rfl) (HQ11.out _ _ HR0.out.drew) (fun hHeld => ?_)
          refine wpAnyH_take (i := 0) (v := ?_) rfl (by kernel_rfl) (by kernel_rfl) (by kernel_rfl) (fun _ _ _ h => h) (Or.inl ⟨by rfl, ?_⟩) hHeld ?_
          rotate_left
          · (intro w hSw; (try dsimp only at hSw); go_simp) <;> with_reducible rfl
          try simp only [Act.put, List.setIfInBounds_toArray, List.getElem_toArray, List.getElem_cons_zero, List.getElem_cons_succ, List.set_cons_zero, List.set_cons_succ]
          refine wpAnyH_take (i := 1) (v := ?_) rfl (by kernel_rfl) (by kernel_rfl) (by kernel_rfl) (fun _ _ _ h => h) (Or.inl ⟨by rfl, ?_⟩) hHeld ?_
          rotate_left
          · (intro w hSw; (try dsimp only at hSw); go_simp) <;> with_reducible rfl
          try simp only [Act.put, List.setIfInBounds_toArray, List.getElem_toArray, List.getElem_cons_zero, List.getElem_cons_succ, List.set_cons_zero, List.set_cons_succ]
          refine wpAnyH_take (i := 2) (v := ?_) rfl (by kernel_rfl) (by kernel_rfl) (by kernel_rfl) (fun _ _ _ h => h) (Or.inl ⟨by rfl, ?_⟩) hHeld ?_
          rotate_left
          · (intro w hSw; (try dsimp only at hSw); go_simp) <;> with_reducible rfl
          try simp only [Act.put, List.setIfInBounds_toArray, List.getElem_toArray, List.getElem_cons_zero, List.getElem_cons_succ, List.set_cons_zero, List.set_cons_succ]
          refine wpAnyH_take (i := 3) (v := ?_) rfl (by kernel_rfl) (by kernel_rfl) (by kernel_rfl) (fun _ _ _ h => h) (Or.inl ⟨by rfl, ?_⟩) hHeld ?_
          rotate_left
          · (intro w hSw; (try dsimp only at hSw); go_simp) <;> with_reducible rfl
          try simp only [Act.put, List.setIfInBounds_toArray, List.getElem_toArray, List.getElem_cons_zero, List.getElem_cons_succ, List.set_cons_zero, List.set_cons_succ]
          refine wpAnyH_take (i := 4) (v := ?_) rfl (by kernel_rfl) (by kernel_rfl) (by kernel_rfl) (fun _ _ _ h => h) (Or.inl ⟨by rfl, ?_⟩) hHeld ?_
          rotate_left
          · (intro w hSw; (try dsimp only at hSw); go_simp) <;> with_reducible rfl
          try simp only [Act.put, List.setIfInBounds_toArray, List.getElem_toArray, List.getElem_cons_zero, List.getElem_cons_succ, List.set_cons_zero, List.set_cons_succ]
          have HS := hid HR0.out.drew
          clear hHeld
          refine anyH_world (fun w => Hid (S w0 w _)) HS (fun w1 HS => ?_)
          refine wpAnyH_ready (rs := [5]) (by kernel_rfl) (by simp) ?_
          refine AllReadyH.cons rfl (fun K hK => ?_) ?_
          · go_simp
            go_wp2_with (go_at_call 45; with_reducible refine (HSTR.out _ HS.out).mono ?_; rintro r w' ⟨rfl, rfl⟩)
            refine hK.out _ _ (HQ11.out _ _ HS.out) (fun _ => ?_)
            clear hK K
            refine wpAnyH_take (i := 6) (v := ?_) rfl (by kernel_rfl) (by kernel_rfl) (by kernel_rfl) (fun _ _ _ h => h) (Or.inl ⟨by rfl, ?_⟩) (HQ11.out _ _ HS.out) ?_
            rotate_left
            · (intro w hSw; (try dsimp only at hSw); go_simp) <;> with_reducible rfl
            try simp only [Act.put, List.setIfInBounds_toArray, List.getElem_toArray, List.getElem_cons_zero, List.getElem_cons_succ, List.set_cons_zero, List.set_cons_succ]
            refine wpAnyH_take (i := 7) (v := ?_) rfl (by kernel_rfl) (by kernel_rfl) (by kernel_rfl) (fun _ _ _ h => h) (Or.inl ⟨by rfl, ?_⟩) (HQ11.out _ _ HS.out) ?_
            rotate_left
            · (intro w hSw; (try dsimp only at hSw); go_simp) <;> with_reducible rfl
            try simp only [Act.put, List.setIfInBounds_toArray, List.getElem_toArray, List.getElem_cons_zero, List.getElem_cons_succ, List.set_cons_zero, List.set_cons_succ]
            refine wpAnyH_take (i := 8) (v := ?_) rfl (by kernel_rfl) (by kernel_rfl) (by kernel_rfl) (fun _ _ _ h => h) (Or.inl ⟨by rfl, ?_⟩) (HQ11.out _ _ HS.out) ?_
            rotate_left
            · (intro w hSw; (try dsimp only at hSw); go_simp) <;> with_reducible rfl
            try simp only [Act.put, List.setIfInBounds_toArray, List.getElem_toArray, List.getElem_cons_zero, List.getElem_cons_succ, List.set_cons_zero, List.set_cons_succ]
            refine wpAnyH_take (i := 9) (v := undef) rfl (by kernel_rfl) (by kernel_rfl) (by kernel_rfl) (fun _ _ _ h => h) (Or.inr ⟨by rfl, rfl⟩) (HQ11.out _ _ HS.out) ?_
            try simp only [Act.put, List.setIfInBounds_toArray, List.getElem_toArray, List.getElem_cons_zero, List.getElem_cons_succ, List.set_cons_zero, List.set_cons_succ]
            refine wpAnyH_take (i := 10) (v := undef) rfl (by kernel_rfl) (by kernel_rfl) (by kernel_rfl) (fun _ _ _ h => h) (Or.inr ⟨by rfl, rfl⟩) (HQ11.out _ _ HS.out) ?_
            try simp only [Act.put, List.setIfInBounds_toArray, List.getElem_toArray, List.getElem_cons_zero, List.getElem_cons_succ, List.set_cons_zero, List.set_cons_succ]
            refine wpAnyH_take (i := 11) (v := undef) rfl (by kernel_rfl) (by kernel_rfl) (by kernel_rfl) (fun _ _ _ h => h) (Or.inr ⟨by rfl, rfl⟩) (HQ11.out _ _ HS.out) ?_
            try simp only [Act.put, List.setIfInBounds_toArray, List.getElem_toArray, List.getElem_cons_zero, List.getElem_cons_succ, List.set_cons_zero, List.set_cons_succ]
            refine wpAnyH_take (i := 12) (v := undef) rfl (by kernel_rfl) (by kernel_rfl) (by kernel_rfl) (fun _ _ _ h => h) (Or.inr ⟨by rfl, rfl⟩) (HQ11.out _ _ HS.out) ?_
            try simp only [Act.put, List.setIfInBounds_toArray, List.getElem_toArray, List.getElem_cons_zero, List.getElem_cons_succ, List.set_cons_zero, List.set_cons_succ]
            refine wpAnyH_take (i := 13) (v := undef) rfl (by kernel_rfl) (by kernel_rfl) (by kernel_rfl) (fun _ _ _ h => h) (Or.inr ⟨by rfl, rfl⟩) (HQ11.out _ _ HS.out) ?_
            try simp only [Act.put, List.setIfInBounds_toArray, List.getElem_toArray, List.getElem_cons_zero, List.getElem_cons_succ, List.set_cons_zero, List.set_cons_succ]
            refine wpAnyH_take (i := 14) (v := undef) rfl (by kernel_rfl) (by kernel_rfl) (by kernel_rfl) (fun _ _ _ h => h) (Or.inr ⟨by rfl, rfl⟩) (HQ11.out _ _ HS.out) ?_
            try simp only [Act.put, List.setIfInBounds_toArray, List.getElem_toArray, List.getElem_cons_zero, List.getElem_cons_succ, List.set_cons_zero, List.set_cons_succ]
            refine wpAnyH_take (i := 15) (v := undef) rfl (by kernel_rfl) (by kernel_rfl) (by kernel_rfl) (fun _ _ _ h => h) (Or.inr ⟨by rfl, rfl⟩) (HQ11.out _ _ HS.out) ?_
            try simp only [Act.put, List.setIfInBounds_toArray, List.getElem_toArray, List.getElem_cons_zero, List.getElem_cons_succ, List.set_cons_zero, List.set_cons_succ]
            refine wpAnyH_take (i := 16) (v := undef) rfl (by kernel_rfl) (by kernel_rfl) (by kernel_rfl) (fun _ _ _ h => h) (Or.inr ⟨by rfl, rfl⟩) (HQ11.out _ _ HS.out) ?_
            try simp only [Act.put, List.setIfInBounds_toArray, List.getElem_toArray, List.getElem_cons_zero, List.getElem_cons_succ, List.set_cons_zero, List.set_cons_succ]
            refine wpAnyH_take (i := 17) (v := undef) rfl (by kernel_rfl) (by kernel_rfl) (by kernel_rfl) (fun _ _ _ h => h) (Or.inr ⟨by rfl, rfl⟩) (HQ11.out _ _ HS.out) ?_
            try simp only [Act.put, List.setIfInBounds_toArray, List.getElem_toArray, List.getElem_cons_zero, List.getElem_cons_succ, List.set_cons_zero, List.set_cons_succ]
            refine wpAnyH_take (i := 18) (v := undef) rfl (by kernel_rfl) (by kernel_rfl) (by kernel_rfl) (fun _ _ _ h => h) (Or.inr ⟨by rfl, rfl⟩) (HQ11.out _ _ HS.out) ?_
            try simp only [Act.put, List.setIfInBounds_toArray, List.getElem_toArray, List.getElem_cons_zero, List.getElem_cons_succ, List.set_cons_zero, List.set_cons_succ]
            refine wpAnyH_take (i := 19) (v := undef) rfl (by kernel_rfl) (by kernel_rfl) (by kernel_rfl) (fun _ _ _ h => h) (Or.inr ⟨by rfl, rfl⟩) (HQ11.out _ _ HS.out) ?_
            try simp only [Act.put, List.setIfInBounds_toArray, List.getElem_toArray, List.getElem_cons_zero, List.getElem_cons_succ, List.set_cons_zero, List.set_cons_succ]
            refine wpAnyH_take (i := 20) (v := undef) rfl (by kernel_rfl) (by kernel_rfl) (by kernel_rfl) (fun _ _ _ h => h) (Or.inr ⟨by rfl, rfl⟩) (HQ11.out _ _ HS.out) ?_
            try simp only [Act.put, List.setIfInBounds_toArray, List.getElem_toArray, List.getElem_cons_zero, List.getElem_cons_succ, List.set_cons_zero, List.set_cons_succ]
            refine wpAnyH_take (i := 21) (v := undef) rfl (by kernel_rfl) (by kernel_rfl) (by kernel_rfl) (fun _ _ _ h => h) (Or.inr ⟨by rfl, rfl⟩) (HQ11.out _ _ HS.out) ?_
            try simp only [Act.put, List.setIfInBounds_toArray, List.getElem_toArray, List.getElem_cons_zero, List.getElem_cons_succ, List.set_cons_zero, List.set_cons_succ]
            refine wpAnyH_take (i := 22) (v := undef) rfl (by kernel_rfl) (by kernel_rfl) (by kernel_rfl) (fun _ _ _ h => h) (Or.inr ⟨by rfl, rfl⟩) (HQ11.out _ _ HS.out) ?_
            try simp only [Act.put, List.setIfInBounds_toArray, List.getElem_toArray, List.getElem_cons_zero, List.getElem_cons_succ, List.set_cons_zero, List.set_cons_succ]
            refine wpAnyH_take (i := 23) (v := undef) rfl (by kernel_rfl) (by kernel_rfl) (by kernel_rfl) (fun _ _ _ h => h) (Or.inr ⟨by rfl, rfl⟩) (HQ11.out _ _ HS.out) ?_
            try simp only [Act.put, List.setIfInBounds_toArray, List.getElem_toArray, List.getElem_cons_zero, List.getElem_cons_succ, List.set_cons_zero, List.set_cons_succ]
            refine wpAnyH_take (i := 24) (v := undef) rfl (by kernel_rfl) (by kernel_rfl) (by kernel_rfl) (fun _ _ _ h => h) (Or.inr ⟨by rfl, rfl⟩) (HQ11.out _ _ HS.out) ?_
            try simp only [Act.put, List.setIfInBounds_toArray, List.getElem_toArray, List.getElem_cons_zero, List.getElem_cons_succ, List.set_cons_zero, List.set_cons_succ]
            refine wpAnyH_take (i := 25) (v := ?_) rfl (by kernel_rfl) (by kernel_rfl) (by kernel_rfl) (fun _ _ _ h => h) (Or.inl ⟨by rfl, ?_⟩) (HQ11.out _ _ HS.out) ?_
            rotate_left
            · (intro w hSw; (try dsimp only at hSw); go_simp) <;> with_reducible rfl
            try simp only [Act.put, List.setIfInBounds_toArray, List.getElem_toArray, List.getElem_cons_zero, List.getElem_cons_succ, List.set_cons_zero, List.set_cons_succ]
            refine wpAnyH_take (i := 26) (v := ?_) rfl (by kernel_rfl) (by kernel_rfl) (by kernel_rfl) (fun _ _ _ h => h) (Or.inl ⟨by rfl, ?_⟩) (HQ11.out _ _ HS.out) ?_
            rotate_left
            · (intro w hSw; (try dsimp only at hSw); go_simp) <;> with_reducible rfl
            try simp only [Act.put, List.setIfInBounds_toArray, List.getElem_toArray, List.getElem_cons_zero, List.getElem_cons_succ, List.set_cons_zero, List.set_cons_succ]
            refine wpAnyH_take (i := 27) (v := undef) rfl (by kernel_rfl) (by kernel_rfl) (by kernel_rfl) (fun _ _ _ h => h) (Or.inr ⟨by rfl, rfl⟩) (HQ11.out _ _ HS.out) ?_
            try simp only [Act.put, List.setIfInBounds_toArray, List.getElem_toArray, List.getElem_cons_zero, List.getElem_cons_succ, List.set_cons_zero, List.set_cons_succ]
            refine wpAnyH_take (i := 28) (v := undef) rfl (by kernel_rfl) (by kernel_rfl) (by kernel_rfl) (fun _ _ _ h => h) (Or.inr ⟨by rfl, rfl⟩) (HQ11.out _ _ HS.out) ?_
            try simp only [Act.put, List.setIfInBounds_toArray, List.getElem_toArray, List.getElem_cons_zero, List.getElem_cons_succ, List.set_cons_zero, List.set_cons_succ]
            refine wpAnyH_take (i := 29) (v := undef) rfl (by kernel_rfl) (by kernel_rfl) (by kernel_rfl) (fun _ _ _ h => h) (Or.inr ⟨by rfl, rfl⟩) (HQ11.out _ _ HS.out) ?_
            try simp only [Act.put, List.setIfInBounds_toArray, List.getElem_toArray, List.getElem_cons_zero, List.getElem_cons_succ, List.set_cons_zero, List.set_cons_succ]
            refine wpAnyH_take (i := 30) (v := undef) rfl (by kernel_rfl) (by kernel_rfl) (by kernel_rfl) (fun _ _ _ h => h) (Or.inr ⟨by rfl, rfl⟩) (HQ11.out _ _ HS.out) ?_
            try simp only [Act.put, List.setIfInBounds_toArray, List.getElem_toArray, List.getElem_cons_zero, List.getElem_cons_succ, List.set_cons_zero, List.set_cons_succ]
            refine wpAnyH_take (i := 31) (v := undef) rfl (by kernel_rfl) (by kernel_rfl) (by kernel_rfl) (fun _ _ _ h => h) (Or.inr ⟨by rfl, rfl⟩) (HQ11.out _ _ HS.out) ?_
            try simp only [Act.put, List.setIfInBounds_toArray, List.getElem_toArray, List.getElem_cons_zero, List.getElem_cons_succ, List.set_cons_zero, List.set_cons_succ]
            refine wpAnyH_take (i := 32) (v := undef) rfl (by kernel_rfl) (by kernel_rfl) (by kernel_rfl) (fun _ _ _ h => h) (Or.inr ⟨by rfl, rfl⟩) (HQ11.out _ _ HS.out) ?_
            try simp only [Act.put, List.setIfInBounds_toArray, List.getElem_toArray, List.getElem_cons_zero, List.getElem_cons_succ, List.set_cons_zero, List.set_cons_succ]
            refine wpAnyH_take (i := 33) (v := undef) rfl (by kernel_rfl) (by kernel_rfl) (by kernel_rfl) (fun _ _ _ h => h) (Or.inr ⟨by rfl, rfl⟩) (HQ11.out _ _ HS.out) ?_
            try simp only [Act.put, List.setIfInBounds_toArray, List.getElem_toArray, List.getElem_cons_zero, List.getElem_cons_succ, List.set_cons_zero, List.set_cons_succ]
            refine wpAnyH_take (i := 34) (v := ?_) rfl (by kernel_rfl) (by kernel_rfl) (by kernel_rfl) (fun _ _ _ h => h) (Or.inl ⟨by rfl, ?_⟩) (HQ11.out _ _ HS.out) ?_
            rotate_left
            · (intro w hSw; (try dsimp only at hSw); go_simp) <;> with_reducible rfl
            try simp only [Act.put, List.setIfInBounds_toArray, List.getElem_toArray, List.getElem_cons_zero, List.getElem_cons_succ, List.set_cons_zero, List.set_cons_succ]
            refine wpAnyH_done (by kernel_rfl) ?_ _
            go_wp2_with fail
            go_meet
            exact ⟨by rw [HSK.out] <;> rfl, HS.out⟩
          exact AllReadyH.nil
        | true =>
          by_cases h3 : stj = 2
          · subst h3
            by_cases h4 : enj < bgi
            · have HSK : Hid (skips e1 i key m = true) := hid (by rw [HSK0.out]; simp [h4])
              have hb4 : decide (enj < bgi) = true := decide_eq_true h4
              clear HSK0 hmi h4
              refine wp_region_held_drew (S := fun w' => (binOp .eql 77 (.pointer (some ⟨blkOf bs m, 0, none⟩)) (.pointer (some ⟨blkOf bs i, 0, none⟩))).run Tryz.prog w' = .ok (.bool false) w' ∧ w'.cell? ⟨blkOf bs m, 1, none⟩ = some (.int .i64 2) ∧ w'.cell? ⟨blkOf bs m, 4, none⟩ = some (.int .i64 enj) ∧ w'.cell? ⟨blkOf bs i, 3, none⟩ = some (.int .i64 bgi) ∧ w'.cell? ⟨blkOf bs m, 5, none⟩ = some rvj) (by kernel_rfl) (HQ11.out _ _ HR0.out.drew) (fun hHeld => ?_)
              refine wpAnyH_take (i := 0) (v := ?_) rfl (by kernel_rfl) (by kernel_rfl) (by kernel_rfl) (fun _ _ _ h => h) (Or.inl ⟨by rfl, ?_⟩) hHeld ?_
              rotate_left
              · (intro w hSw; (try dsimp only at hSw); go_simp) <;> with_reducible rfl
              try simp only [Act.put, List.setIfInBounds_toArray, List.getElem_toArray, List.getElem_cons_zero, List.getElem_cons_succ, List.set_cons_zero, List.set_cons_succ]
              refine wpAnyH_take (i := 1) (v := ?_) rfl (by kernel_rfl) (by kernel_rfl) (by kernel_rfl) (fun _ _ _ h => h) (Or.inl ⟨by rfl, ?_⟩) hHeld ?_
              rotate_left
              · (intro w hSw; (try dsimp only at hSw); go_simp) <;> with_reducible rfl
              try simp only [Act.put, List.setIfInBounds_toArray, List.getElem_toArray, List.getElem_cons_zero, List.getElem_cons_succ, List.set_cons_zero, List.set_cons_succ]
              refine wpAnyH_take (i := 2) (v := ?_) rfl (by kernel_rfl) (by kernel_rfl) (by kernel_rfl) (fun _ _ _ h => h) (Or.inl ⟨by rfl, ?_⟩) hHeld ?_
              rotate_left
              · (intro w hSw; (try dsimp only at hSw); go_simp) <;> with_reducible rfl
              try simp only [Act.put, List.setIfInBounds_toArray, List.getElem_toArray, List.getElem_cons_zero, List.getElem_cons_succ, List.set_cons_zero, List.set_cons_succ]
              refine wpAnyH_take (i := 3) (v := ?_) rfl (by kernel_rfl) (by kernel_rfl) (by kernel_rfl) (fun _ _ _ h => h) (Or.inl ⟨by rfl, ?_⟩) hHeld ?_
              rotate_left
              · (intro w hSw; (try dsimp only at hSw); go_simp) <;> with_reducible rfl
              try simp only [Act.put, List.setIfInBounds_toArray, List.getElem_toArray, List.getElem_cons_zero, List.getElem_cons_succ, List.set_cons_zero, List.set_cons_succ]
              refine wpAnyH_take (i := 4) (v := ?_) rfl (by kernel_rfl) (by kernel_rfl) (by kernel_rfl) (fun _ _ _ h => h) (Or.inl ⟨by rfl, ?_⟩) hHeld ?_
              rotate_left
              · (intro w hSw; (try dsimp only at hSw); go_simp) <;> with_reducible rfl
              try simp only [Act.put, List.setIfInBounds_toArray, List.getElem_toArray, List.getElem_cons_zero, List.getElem_cons_succ, List.set_cons_zero, List.set_cons_succ]
              have HS := hid HR0.out.drew
              clear hHeld
              refine anyH_world (fun w => Hid (S w0 w _)) HS (fun w1 HS => ?_)
              refine wpAnyH_ready (rs := [5]) (by kernel_rfl) (by simp) ?_
              refine AllReadyH.cons rfl (fun K hK => ?_) ?_
              · go_simp
                go_wp2_with (go_at_call 45; with_reducible refine (HSTR.out _ HS.out).mono ?_; rintro r w' ⟨rfl, rfl⟩)
                refine hK.out _ _ (HQ11.out _ _ HS.out) (fun _ => ?_)
                clear hK K
                refine wpAnyH_take (i := 6) (v := ?_) rfl (by kernel_rfl) (by kernel_rfl) (by kernel_rfl) (fun _ _ _ h => h) (Or.inl ⟨by rfl, ?_⟩) (HQ11.out _ _ HS.out) ?_
                rotate_left
                · (intro w hSw; (try dsimp only at hSw); go_simp) <;> with_reducible rfl
                try simp only [Act.put, List.setIfInBounds_toArray, List.getElem_toArray, List.getElem_cons_zero, List.getElem_cons_succ, List.set_cons_zero, List.set_cons_succ]
                refine wpAnyH_take (i := 7) (v := ?_) rfl (by kernel_rfl) (by kernel_rfl) (by kernel_rfl) (fun _ _ _ h => h) (Or.inl ⟨by rfl, ?_⟩) (HQ11.out _ _ HS.out) ?_
                rotate_left
                · (intro w hSw; (try dsimp only at hSw); go_simp) <;> with_reducible rfl
                try simp only [Act.put, List.setIfInBounds_toArray, List.getElem_toArray, List.getElem_cons_zero, List.getElem_cons_succ, List.set_cons_zero, List.set_cons_succ]
                refine wpAnyH_take (i := 8) (v := ?_) rfl (by kernel_rfl) (by kernel_rfl) (by kernel_rfl) (fun _ _ _ h => h) (Or.inl ⟨by rfl, ?_⟩) (HQ11.out _ _ HS.out) ?_
                rotate_left
                · (intro w hSw; (try dsimp only at hSw); go_simp) <;> with_reducible rfl
                try simp only [Act.put, List.setIfInBounds_toArray, List.getElem_toArray, List.getElem_cons_zero, List.getElem_cons_succ, List.set_cons_zero, List.set_cons_succ]
                refine wpAnyH_take (i := 9) (v := ?_) rfl (by kernel_rfl) (by kernel_rfl) (by kernel_rfl) (fun _ _ _ h => h) (Or.inl ⟨by rfl, ?_⟩) (HQ11.out _ _ HS.out) ?_
                rotate_left
                · (intro w hSw; (try dsimp only at hSw); go_simp) <;> with_reducible rfl
                try simp only [Act.put, List.setIfInBounds_toArray, List.getElem_toArray, List.getElem_cons_zero, List.getElem_cons_succ, List.set_cons_zero, List.set_cons_succ]
                refine wpAnyH_take (i := 10) (v := ?_) rfl (by kernel_rfl) (by kernel_rfl) (by kernel_rfl) (fun _ _ _ h => h) (Or.inl ⟨by rfl, ?_⟩) (HQ11.out _ _ HS.out) ?_
                rotate_left
                · (intro w hSw; (try dsimp only at hSw); go_simp) <;> with_reducible rfl
                try simp only [Act.put, List.setIfInBounds_toArray, List.getElem_toArray, List.getElem_cons_zero, List.getElem_cons_succ, List.set_cons_zero, List.set_cons_succ]
                refine wpAnyH_take (i := 11) (v := ?_) rfl (by kernel_rfl) (by kernel_rfl) (by kernel_rfl) (fun _ _ _ h => h) (Or.inl ⟨by rfl, ?_⟩) (HQ11.out _ _ HS.out) ?_
                rotate_left
                · (intro w hSw; (try dsimp only at hSw); go_simp) <;> with_reducible rfl
                try simp only [Act.put, List.setIfInBounds_toArray, List.getElem_toArray, List.getElem_cons_zero, List.getElem_cons_succ, List.set_cons_zero, List.set_cons_succ]
                refine wpAnyH_take (i := 12) (v := ?_) rfl (by kernel_rfl) (by kernel_rfl) (by kernel_rfl) (fun _ _ _ h => h) (Or.inl ⟨by rfl, ?_⟩) (HQ11.out _ _ HS.out) ?_
                rotate_left
                · (intro w hSw; (try dsimp only at hSw); go_simp) <;> with_reducible rfl
                try simp only [Act.put, List.setIfInBounds_toArray, List.getElem_toArray, List.getElem_cons_zero, List.getElem_cons_succ, List.set_cons_zero, List.set_cons_succ]
                refine wpAnyH_take (i := 13) (v := ?_) rfl (by kernel_rfl) (by kernel_rfl) (by kernel_rfl) (fun _ _ _ h => h) (Or.inl ⟨by rfl, ?_⟩) (HQ11.out _ _ HS.out) ?_
                rotate_left
                · (intro w hSw; (try dsimp only at hSw); go_simp) <;> with_reducible rfl
                try simp only [Act.put, List.setIfInBounds_toArray, List.getElem_toArray, List.getElem_cons_zero, List.getElem_cons_succ, List.set_cons_zero, List.set_cons_succ]
                refine wpAnyH_take (i := 14) (v := ?_) rfl (by kernel_rfl) (by kernel_rfl) (by kernel_rfl) (fun _ _ _ h => h) (Or.inl ⟨by rfl, ?_⟩) (HQ11.out _ _ HS.out) ?_
                rotate_left
                · (intro w hSw; (try dsimp only at hSw); go_simp) <;> with_reducible rfl
                try simp only [Act.put, List.setIfInBounds_toArray, List.getElem_toArray, List.getElem_cons_zero, List.getElem_cons_succ, List.set_cons_zero, List.set_cons_succ]
                refine wpAnyH_take (i := 15) (v := ?_) rfl (by kernel_rfl) (by kernel_rfl) (by kernel_rfl) (fun _ _ _ h => h) (Or.inl ⟨by rfl, ?_⟩) (HQ11.out _ _ HS.out) ?_
                rotate_left
                · (intro w hSw; (try dsimp only at hSw); go_simp) <;> with_reducible rfl
                try simp only [Act.put, List.setIfInBounds_toArray, List.getElem_toArray, List.getElem_cons_zero, List.getElem_cons_succ, List.set_cons_zero, List.set_cons_succ]
                refine wpAnyH_take (i := 16) (v := ?_) rfl (by kernel_rfl) (by kernel_rfl) (by kernel_rfl) (fun _ _ _ h => h) (Or.inl ⟨by rfl, ?_⟩) (HQ11.out _ _ HS.out) ?_
                rotate_left
                · (intro w hSw; (try dsimp only at hSw); go_simp) <;> with_reducible rfl
                try simp only [Act.put, List.setIfInBounds_toArray, List.getElem_toArray, List.getElem_cons_zero, List.getElem_cons_succ, List.set_cons_zero, List.set_cons_succ]
                refine wpAnyH_take (i := 17) (v := ?_) rfl (by kernel_rfl) (by kernel_rfl) (by kernel_rfl) (fun _ _ _ h => h) (Or.inl ⟨by rfl, ?_⟩) (HQ11.out _ _ HS.out) ?_
                rotate_left
                · (intro w hSw; (try dsimp only at hSw); go_simp) <;> with_reducible rfl
                try simp only [Act.put, List.setIfInBounds_toArray, List.getElem_toArray, List.getElem_cons_zero, List.getElem_cons_succ, List.set_cons_zero, List.set_cons_succ]
                refine wpAnyH_take (i := 18) (v := ?_) rfl (by kernel_rfl) (by kernel_rfl) (by kernel_rfl) (fun _ _ _ h => h) (Or.inl ⟨by rfl, ?_⟩) (HQ11.out _ _ HS.out) ?_
                rotate_left
                · (intro w hSw; (try dsimp only at hSw); go_simp) <;> with_reducible rfl
                try simp only [Act.put, List.setIfInBounds_toArray, List.getElem_toArray, List.getElem_cons_zero, List.getElem_cons_succ, List.set_cons_zero, List.set_cons_succ]
                refine wpAnyH_take (i := 19) (v := ?_) rfl (by kernel_rfl) (by kernel_rfl) (by kernel_rfl) (fun _ _ _ h => h) (Or.inl ⟨by rfl, ?_⟩) (HQ11.out _ _ HS.out) ?_
                rotate_left
                · (intro w hSw; (try dsimp only at hSw); go_simp) <;> with_reducible rfl
                try simp only [Act.put, List.setIfInBounds_toArray, List.getElem_toArray, List.getElem_cons_zero, List.getElem_cons_succ, List.set_cons_zero, List.set_cons_succ]
                refine wpAnyH_take (i := 20) (v := ?_) rfl (by kernel_rfl) (by kernel_rfl) (by kernel_rfl) (fun _ _ _ h => h) (Or.inl ⟨by rfl, ?_⟩) (HQ11.out _ _ HS.out) ?_
                rotate_left
                · (intro w hSw; (try dsimp only at hSw); go_simp) <;> with_reducible rfl
                try simp only [Act.put, List.setIfInBounds_toArray, List.getElem_toArray, List.getElem_cons_zero, List.getElem_cons_succ, List.set_cons_zero, List.set_cons_succ]
                refine wpAnyH_take (i := 21) (v := ?_) rfl (by kernel_rfl) (by kernel_rfl) (by kernel_rfl) (fun _ _ _ h => h) (Or.inl ⟨by rfl, ?_⟩) (HQ11.out _ _ HS.out) ?_
                rotate_left
                · (intro w hSw; (try dsimp only at hSw); go_simp) <;> with_reducible rfl
                try simp only [Act.put, List.setIfInBounds_toArray, List.getElem_toArray, List.getElem_cons_zero, List.getElem_cons_succ, List.set_cons_zero, List.set_cons_succ]
                refine wpAnyH_take (i := 22) (v := ?_) rfl (by kernel_rfl) (by kernel_rfl) (by kernel_rfl) (fun _ _ _ h => h) (Or.inl ⟨by rfl, ?_⟩) (HQ11.out _ _ HS.out) ?_
                rotate_left
                · (intro w hSw; (try dsimp only at hSw); go_simp) <;> with_reducible rfl
                try simp only [Act.put, List.setIfInBounds_toArray, List.getElem_toArray, List.getElem_cons_zero, List.getElem_cons_succ, List.set_cons_zero, List.set_cons_succ]
                refine wpAnyH_take (i := 23) (v := ?_) rfl (by kernel_rfl) (by kernel_rfl) (by kernel_rfl) (fun _ _ _ h => h) (Or.inl ⟨by rfl, ?_⟩) (HQ11.out _ _ HS.out) ?_
                rotate_left
                · (intro w hSw; (try dsimp only at hSw); go_simp) <;> with_reducible rfl
                try simp only [Act.put, List.setIfInBounds_toArray, List.getElem_toArray, List.getElem_cons_zero, List.getElem_cons_succ, List.set_cons_zero, List.set_cons_succ]
                refine wpAnyH_take (i := 24) (v := ?_) rfl (by kernel_rfl) (by kernel_rfl) (by kernel_rfl) (fun _ _ _ h => h) (Or.inl ⟨by rfl, ?_⟩) (HQ11.out _ _ HS.out) ?_
                rotate_left
                · (intro w hSw; (try dsimp only at hSw); go_simp) <;> with_reducible rfl
                try simp only [Act.put, List.setIfInBounds_toArray, List.getElem_toArray, List.getElem_cons_zero, List.getElem_cons_succ, List.set_cons_zero, List.set_cons_succ]
                refine wpAnyH_take (i := 25) (v := ?_) rfl (by kernel_rfl) (by kernel_rfl) (by kernel_rfl) (fun _ _ _ h => h) (Or.inl ⟨by rfl, ?_⟩) (HQ11.out _ _ HS.out) ?_
                rotate_left
                · (intro w hSw; (try dsimp only at hSw); go_simp) <;> with_reducible rfl
                try simp only [Act.put, List.setIfInBounds_toArray, List.getElem_toArray, List.getElem_cons_zero, List.getElem_cons_succ, List.set_cons_zero, List.set_cons_succ]
                refine wpAnyH_take (i := 26) (v := ?_) rfl (by kernel_rfl) (by kernel_rfl) (by kernel_rfl) (fun _ _ _ h => h) (Or.inl ⟨by rfl, ?_⟩) (HQ11.out _ _ HS.out) ?_
                rotate_left
                · (intro w hSw; (try dsimp only at hSw); go_simp) <;> with_reducible rfl
                try simp only [Act.put, List.setIfInBounds_toArray, List.getElem_toArray, List.getElem_cons_zero, List.getElem_cons_succ, List.set_cons_zero, List.set_cons_succ]
                refine wpAnyH_take (i := 27) (v := undef) rfl (by kernel_rfl) (by kernel_rfl) (by kernel_rfl) (fun _ _ _ h => h) (Or.inr ⟨by rfl, rfl⟩) (HQ11.out _ _ HS.out) ?_
                try simp only [Act.put, List.setIfInBounds_toArray, List.getElem_toArray, List.getElem_cons_zero, List.getElem_cons_succ, List.set_cons_zero, List.set_cons_succ]
                refine wpAnyH_take (i := 28) (v := undef) rfl (by kernel_rfl) (by kernel_rfl) (by kernel_rfl) (fun _ _ _ h => h) (Or.inr ⟨by rfl, rfl⟩) (HQ11.out _ _ HS.out) ?_
                try simp only [Act.put, List.setIfInBounds_toArray, List.getElem_toArray, List.getElem_cons_zero, List.getElem_cons_succ, List.set_cons_zero, List.set_cons_succ]
                refine wpAnyH_take (i := 29) (v := undef) rfl (by kernel_rfl) (by kernel_rfl) (by kernel_rfl) (fun _ _ _ h => h) (Or.inr ⟨by rfl, rfl⟩) (HQ11.out _ _ HS.out) ?_
                try simp only [Act.put, List.setIfInBounds_toArray, List.getElem_toArray, List.getElem_cons_zero, List.getElem_cons_succ, List.set_cons_zero, List.set_cons_succ]
                refine wpAnyH_take (i := 30) (v := undef) rfl (by kernel_rfl) (by kernel_rfl) (by kernel_rfl) (fun _ _ _ h => h) (Or.inr ⟨by rfl, rfl⟩) (HQ11.out _ _ HS.out) ?_
                try simp only [Act.put, List.setIfInBounds_toArray, List.getElem_toArray, List.getElem_cons_zero, List.getElem_cons_succ, List.set_cons_zero, List.set_cons_succ]
                refine wpAnyH_take (i := 31) (v := undef) rfl (by kernel_rfl) (by kernel_rfl) (by kernel_rfl) (fun _ _ _ h => h) (Or.inr ⟨by rfl, rfl⟩) (HQ11.out _ _ HS.out) ?_
                try simp only [Act.put, List.setIfInBounds_toArray, List.getElem_toArray, List.getElem_cons_zero, List.getElem_cons_succ, List.set_cons_zero, List.set_cons_succ]
                refine wpAnyH_take (i := 32) (v := undef) rfl (by kernel_rfl) (by kernel_rfl) (by kernel_rfl) (fun _ _ _ h => h) (Or.inr ⟨by rfl, rfl⟩) (HQ11.out _ _ HS.out) ?_
                try simp only [Act.put, List.setIfInBounds_toArray, List.getElem_toArray, List.getElem_cons_zero, List.getElem_cons_succ, List.set_cons_zero, List.set_cons_succ]
                refine wpAnyH_take (i := 33) (v := undef) rfl (by kernel_rfl) (by kernel_rfl) (by kernel_rfl) (fun _ _ _ h => h) (Or.inr ⟨by rfl, rfl⟩) (HQ11.out _ _ HS.out) ?_
                try simp only [Act.put, List.setIfInBounds_toArray, List.getElem_toArray, List.getElem_cons_zero, List.getElem_cons_succ, List.set_cons_zero, List.set_cons_succ]
                refine wpAnyH_take (i := 34) (v := ?_) rfl (by kernel_rfl) (by kernel_rfl) (by kernel_rfl) (fun _ _ _ h => h) (Or.inl ⟨by rfl, ?_⟩) (HQ11.out _ _ HS.out) ?_
                rotate_left
                · (intro w hSw; (try dsimp only at hSw); go_simp) <;> with_reducible rfl
                try simp only [Act.put, List.setIfInBounds_toArray, List.getElem_toArray, List.getElem_cons_zero, List.getElem_cons_succ, List.set_cons_zero, List.set_cons_succ]
                refine wpAnyH_done (by kernel_rfl) ?_ _
                go_wp2_with fail
                go_meet
                exact ⟨by rw [HSK.out] <;> rfl, HS.out⟩
              exact AllReadyH.nil
            · have HSK : Hid (skips e1 i key m = !sk) := hid (by rw [HSK0.out]; simp [h4, hmi])
              have hb4 : decide (enj < bgi) = false := decide_eq_false h4
              clear HSK0 hmi h4
              refine wp_region_held_drew (S := fun w' => (binOp .eql 77 (.pointer (some ⟨blkOf bs m, 0, none⟩)) (.pointer (some ⟨blkOf bs i, 0, none⟩))).run Tryz.prog w' = .ok (.bool false) w' ∧ w'.cell? ⟨blkOf bs m, 1, none⟩ = some (.int .i64 2) ∧ w'.cell? ⟨blkOf bs m, 4, none⟩ = some (.int .i64 enj) ∧ w'.cell? ⟨blkOf bs i, 3, none⟩ = some (.int .i64 bgi) ∧ w'.cell? ⟨blkOf bs m, 5, none⟩ = some rvj) (by kernel_rfl) (HQ11.out _ _ HR0.out.drew) (fun hHeld => ?_)
              refine wpAnyH_take (i := 0) (v := ?_) rfl (by kernel_rfl) (by kernel_rfl) (by kernel_rfl) (fun _ _ _ h => h) (Or.inl ⟨by rfl, ?_⟩) hHeld ?_
              rotate_left
              · (intro w hSw; (try dsimp only at hSw); go_simp) <;> with_reducible rfl
              try simp only [Act.put, List.setIfInBounds_toArray, List.getElem_toArray, List.getElem_cons_zero, List.getElem_cons_succ, List.set_cons_zero, List.set_cons_succ]
              refine wpAnyH_take (i := 1) (v := ?_) rfl (by kernel_rfl) (by kernel_rfl) (by kernel_rfl) (fun _ _ _ h => h) (Or.inl ⟨by rfl, ?_⟩) hHeld ?_
              rotate_left
              · (intro w hSw; (try dsimp only at hSw); go_simp) <;> with_reducible rfl
              try simp only [Act.put, List.setIfInBounds_toArray, List.getElem_toArray, List.getElem_cons_zero, List.getElem_cons_succ, List.set_cons_zero, List.set_cons_succ]
              refine wpAnyH_take (i := 2) (v := ?_) rfl (by kernel_rfl) (by kernel_rfl) (by kernel_rfl) (fun _ _ _ h => h) (Or.inl ⟨by rfl, ?_⟩) hHeld ?_
              rotate_left
              · (intro w hSw; (try dsimp only at hSw); go_simp) <;> with_reducible rfl
              try simp only [Act.put, List.setIfInBounds_toArray, List.getElem_toArray, List.getElem_cons_zero, List.getElem_cons_succ, List.set_cons_zero, List.set_cons_succ]
              refine wpAnyH_take (i := 3) (v := ?_) rfl (by kernel_rfl) (by kernel_rfl) (by kernel_rfl) (fun _ _ _ h => h) (Or.inl ⟨by rfl, ?_⟩) hHeld ?_
              rotate_left
              · (intro w hSw; (try dsimp only at hSw); go_simp) <;> with_reducible rfl
              try simp only [Act.put, List.setIfInBounds_toArray, List.getElem_toArray, List.getElem_cons_zero, List.getElem_cons_succ, List.set_cons_zero, List.set_cons_succ]
              refine wpAnyH_take (i := 4) (v := ?_) rfl (by kernel_rfl) (by kernel_rfl) (by kernel_rfl) (fun _ _ _ h => h) (Or.inl ⟨by rfl, ?_⟩) hHeld ?_
              rotate_left
              · (intro w hSw; (try dsimp only at hSw); go_simp) <;> with_reducible rfl
              try simp only [Act.put, List.setIfInBounds_toArray, List.getElem_toArray, List.getElem_cons_zero, List.getElem_cons_succ, List.set_cons_zero, List.set_cons_succ]
              have HS := hid HR0.out.drew
              clear hHeld
              refine anyH_world (fun w => Hid (S w0 w _)) HS (fun w1 HS => ?_)
              refine wpAnyH_ready (rs := [5]) (by kernel_rfl) (by simp) ?_
              refine AllReadyH.cons rfl (fun K hK => ?_) ?_
              · go_simp
                go_wp2_with (go_at_call 45; with_reducible refine (HSTR.out _ HS.out).mono ?_; rintro r w' ⟨rfl, rfl⟩)
                refine hK.out _ _ (HQ11.out _ _ HS.out) (fun _ => ?_)
                clear hK K
                refine wpAnyH_take (i := 6) (v := ?_) rfl (by kernel_rfl) (by kernel_rfl) (by kernel_rfl) (fun _ _ _ h => h) (Or.inl ⟨by rfl, ?_⟩) (HQ11.out _ _ HS.out) ?_
                rotate_left
                · (intro w hSw; (try dsimp only at hSw); go_simp) <;> with_reducible rfl
                try simp only [Act.put, List.setIfInBounds_toArray, List.getElem_toArray, List.getElem_cons_zero, List.getElem_cons_succ, List.set_cons_zero, List.set_cons_succ]
                refine wpAnyH_take (i := 7) (v := ?_) rfl (by kernel_rfl) (by kernel_rfl) (by kernel_rfl) (fun _ _ _ h => h) (Or.inl ⟨by rfl, ?_⟩) (HQ11.out _ _ HS.out) ?_
                rotate_left
                · (intro w hSw; (try dsimp only at hSw); go_simp) <;> with_reducible rfl
                try simp only [Act.put, List.setIfInBounds_toArray, List.getElem_toArray, List.getElem_cons_zero, List.getElem_cons_succ, List.set_cons_zero, List.set_cons_succ]
                refine wpAnyH_take (i := 8) (v := ?_) rfl (by kernel_rfl) (by kernel_rfl) (by kernel_rfl) (fun _ _ _ h => h) (Or.inl ⟨by rfl, ?_⟩) (HQ11.out _ _ HS.out) ?_
                rotate_left
                · (intro w hSw; (try dsimp only at hSw); go_simp) <;> with_reducible rfl
                try simp only [Act.put, List.setIfInBounds_toArray, List.getElem_toArray, List.getElem_cons_zero, List.getElem_cons_succ, List.set_cons_zero, List.set_cons_succ]
                refine wpAnyH_take (i := 9) (v := ?_) rfl (by kernel_rfl) (by kernel_rfl) (by kernel_rfl) (fun _ _ _ h => h) (Or.inl ⟨by rfl, ?_⟩) (HQ11.out _ _ HS.out) ?_
                rotate_left
                · (intro w hSw; (try dsimp only at hSw); go_simp) <;> with_reducible rfl
                try simp only [Act.put, List.setIfInBounds_toArray, List.getElem_toArray, List.getElem_cons_zero, List.getElem_cons_succ, List.set_cons_zero, List.set_cons_succ]
                refine wpAnyH_take (i := 10) (v := ?_) rfl (by kernel_rfl) (by kernel_rfl) (by kernel_rfl) (fun _ _ _ h => h) (Or.inl ⟨by rfl, ?_⟩) (HQ11.out _ _ HS.out) ?_
                rotate_left
                · (intro w hSw; (try dsimp only at hSw); go_simp) <;> with_reducible rfl
                try simp only [Act.put, List.setIfInBounds_toArray, List.getElem_toArray, List.getElem_cons_zero, List.getElem_cons_succ, List.set_cons_zero, List.set_cons_succ]
                refine wpAnyH_take (i := 11) (v := ?_) rfl (by kernel_rfl) (by kernel_rfl) (by kernel_rfl) (fun _ _ _ h => h) (Or.inl ⟨by rfl, ?_⟩) (HQ11.out _ _ HS.out) ?_
                rotate_left
                · (intro w hSw; (try dsimp only at hSw); go_simp) <;> with_reducible rfl
                try simp only [Act.put, List.setIfInBounds_toArray, List.getElem_toArray, List.getElem_cons_zero, List.getElem_cons_succ, List.set_cons_zero, List.set_cons_succ]
                refine wpAnyH_take (i := 12) (v := ?_) rfl (by kernel_rfl) (by kernel_rfl) (by kernel_rfl) (fun _ _ _ h => h) (Or.inl ⟨by rfl, ?_⟩) (HQ11.out _ _ HS.out) ?_
                rotate_left
                · (intro w hSw; (try dsimp only at hSw); go_simp) <;> with_reducible rfl
                try simp only [Act.put, List.setIfInBounds_toArray, List.getElem_toArray, List.getElem_cons_zero, List.getElem_cons_succ, List.set_cons_zero, List.set_cons_succ]
                refine wpAnyH_take (i := 13) (v := ?_) rfl (by kernel_rfl) (by kernel_rfl) (by kernel_rfl) (fun _ _ _ h => h) (Or.inl ⟨by rfl, ?_⟩) (HQ11.out _ _ HS.out) ?_
                rotate_left
                · (intro w hSw; (try dsimp only at hSw); go_simp) <;> with_reducible rfl
                try simp only [Act.put, List.setIfInBounds_toArray, List.getElem_toArray, List.getElem_cons_zero, List.getElem_cons_succ, List.set_cons_zero, List.set_cons_succ]
                refine wpAnyH_take (i := 14) (v := ?_) rfl (by kernel_rfl) (by kernel_rfl) (by kernel_rfl) (fun _ _ _ h => h) (Or.inl ⟨by rfl, ?_⟩) (HQ11.out _ _ HS.out) ?_
                rotate_left
                · (intro w hSw; (try dsimp only at hSw); go_simp) <;> with_reducible rfl
                try simp only [Act.put, List.setIfInBounds_toArray, List.getElem_toArray, List.getElem_cons_zero, List.getElem_cons_succ, List.set_cons_zero, List.set_cons_succ]
                refine wpAnyH_take (i := 15) (v := ?_) rfl (by kernel_rfl) (by kernel_rfl) (by kernel_rfl) (fun _ _ _ h => h) (Or.inl ⟨by rfl, ?_⟩) (HQ11.out _ _ HS.out) ?_
                rotate_left
                · (intro w hSw; (try dsimp only at hSw); go_simp) <;> with_reducible rfl
                try simp only [Act.put, List.setIfInBounds_toArray, List.getElem_toArray, List.getElem_cons_zero, List.getElem_cons_succ, List.set_cons_zero, List.set_cons_succ]
                refine wpAnyH_take (i := 16) (v := ?_) rfl (by kernel_rfl) (by kernel_rfl) (by kernel_rfl) (fun _ _ _ h => h) (Or.inl ⟨by rfl, ?_⟩) (HQ11.out _ _ HS.out) ?_
                rotate_left
                · (intro w hSw; (try dsimp only at hSw); go_simp) <;> with_reducible rfl
                try simp only [Act.put, List.setIfInBounds_toArray, List.getElem_toArray, List.getElem_cons_zero, List.getElem_cons_succ, List.set_cons_zero, List.set_cons_succ]
                refine wpAnyH_take (i := 17) (v := ?_) rfl (by kernel_rfl) (by kernel_rfl) (by kernel_rfl) (fun _ _ _ h => h) (Or.inl ⟨by rfl, ?_⟩) (HQ11.out _ _ HS.out) ?_
                rotate_left
                · (intro w hSw; (try dsimp only at hSw); go_simp) <;> with_reducible rfl
                try simp only [Act.put, List.setIfInBounds_toArray, List.getElem_toArray, List.getElem_cons_zero, List.getElem_cons_succ, List.set_cons_zero, List.set_cons_succ]
                refine wpAnyH_take (i := 18) (v := ?_) rfl (by kernel_rfl) (by kernel_rfl) (by kernel_rfl) (fun _ _ _ h => h) (Or.inl ⟨by rfl, ?_⟩) (HQ11.out _ _ HS.out) ?_
                rotate_left
                · (intro w hSw; (try dsimp only at hSw); go_simp) <;> with_reducible rfl
                try simp only [Act.put, List.setIfInBounds_toArray, List.getElem_toArray, List.getElem_cons_zero, List.getElem_cons_succ, List.set_cons_zero, List.set_cons_succ]
                refine wpAnyH_take (i := 19) (v := ?_) rfl (by kernel_rfl) (by kernel_rfl) (by kernel_rfl) (fun _ _ _ h => h) (Or.inl ⟨by rfl, ?_⟩) (HQ11.out _ _ HS.out) ?_
                rotate_left
                · (intro w hSw; (try dsimp only at hSw); go_simp) <;> with_reducible rfl
                try simp only [Act.put, List.setIfInBounds_toArray, List.getElem_toArray, List.getElem_cons_zero, List.getElem_cons_succ, List.set_cons_zero, List.set_cons_succ]
                refine wpAnyH_take (i := 20) (v := ?_) rfl (by kernel_rfl) (by kernel_rfl) (by kernel_rfl) (fun _ _ _ h => h) (Or.inl ⟨by rfl, ?_⟩) (HQ11.out _ _ HS.out) ?_
                rotate_left
                · (intro w hSw; (try dsimp only at hSw); go_simp) <;> with_reducible rfl
                try simp only [Act.put, List.setIfInBounds_toArray, List.getElem_toArray, List.getElem_cons_zero, List.getElem_cons_succ, List.set_cons_zero, List.set_cons_succ]
                refine wpAnyH_take (i := 21) (v := ?_) rfl (by kernel_rfl) (by kernel_rfl) (by kernel_rfl) (fun _ _ _ h => h) (Or.inl ⟨by rfl, ?_⟩) (HQ11.out _ _ HS.out) ?_
                rotate_left
                · (intro w hSw; (try dsimp only at hSw); go_simp) <;> with_reducible rfl
                try simp only [Act.put, List.setIfInBounds_toArray, List.getElem_toArray, List.getElem_cons_zero, List.getElem_cons_succ, List.set_cons_zero, List.set_cons_succ]
                refine wpAnyH_take (i := 22) (v := ?_) rfl (by kernel_rfl) (by kernel_rfl) (by kernel_rfl) (fun _ _ _ h => h) (Or.inl ⟨by rfl, ?_⟩) (HQ11.out _ _ HS.out) ?_
                rotate_left
                · (intro w hSw; (try dsimp only at hSw); go_simp) <;> with_reducible rfl
                try simp only [Act.put, List.setIfInBounds_toArray, List.getElem_toArray, List.getElem_cons_zero, List.getElem_cons_succ, List.set_cons_zero, List.set_cons_succ]
                refine wpAnyH_take (i := 23) (v := ?_) rfl (by kernel_rfl) (by kernel_rfl) (by kernel_rfl) (fun _ _ _ h => h) (Or.inl ⟨by rfl, ?_⟩) (HQ11.out _ _ HS.out) ?_
                rotate_left
                · (intro w hSw; (try dsimp only at hSw); go_simp) <;> with_reducible rfl
                try simp only [Act.put, List.setIfInBounds_toArray, List.getElem_toArray, List.getElem_cons_zero, List.getElem_cons_succ, List.set_cons_zero, List.set_cons_succ]
                refine wpAnyH_take (i := 24) (v := ?_) rfl (by kernel_rfl) (by kernel_rfl) (by kernel_rfl) (fun _ _ _ h => h) (Or.inl ⟨by rfl, ?_⟩) (HQ11.out _ _ HS.out) ?_
                rotate_left
                · (intro w hSw; (try dsimp only at hSw); go_simp) <;> with_reducible rfl
                try simp only [Act.put, List.setIfInBounds_toArray, List.getElem_toArray, List.getElem_cons_zero, List.getElem_cons_succ, List.set_cons_zero, List.set_cons_succ]
                refine wpAnyH_take (i := 25) (v := ?_) rfl (by kernel_rfl) (by kernel_rfl) (by kernel_rfl) (fun _ _ _ h => h) (Or.inl ⟨by rfl, ?_⟩) (HQ11.out _ _ HS.out) ?_
                rotate_left
                · (intro w hSw; (try dsimp only at hSw); go_simp) <;> with_reducible rfl
                try simp only [Act.put, List.setIfInBounds_toArray, List.getElem_toArray, List.getElem_cons_zero, List.getElem_cons_succ, List.set_cons_zero, List.set_cons_succ]
                refine wpAnyH_take (i := 26) (v := ?_) rfl (by kernel_rfl) (by kernel_rfl) (by kernel_rfl) (fun _ _ _ h => h) (Or.inl ⟨by rfl, ?_⟩) (HQ11.out _ _ HS.out) ?_
                rotate_left
                · (intro w hSw; (try dsimp only at hSw); go_simp) <;> with_reducible rfl
                try simp only [Act.put, List.setIfInBounds_toArray, List.getElem_toArray, List.getElem_cons_zero, List.getElem_cons_succ, List.set_cons_zero, List.set_cons_succ]
                refine wpAnyH_take (i := 27) (v := ?_) rfl (by kernel_rfl) (by kernel_rfl) (by kernel_rfl) (fun _ _ _ h => h) (Or.inl ⟨by rfl, ?_⟩) (HQ11.out _ _ HS.out) ?_
                rotate_left
                · (intro w hSw; (try dsimp only at hSw); go_simp) <;> with_reducible rfl
                try simp only [Act.put, List.setIfInBounds_toArray, List.getElem_toArray, List.getElem_cons_zero, List.getElem_cons_succ, List.set_cons_zero, List.set_cons_succ]
                refine wpAnyH_take (i := 28) (v := ?_) rfl (by kernel_rfl) (by kernel_rfl) (by kernel_rfl) (fun _ _ _ h => h) (Or.inl ⟨by rfl, ?_⟩) (HQ11.out _ _ HS.out) ?_
                rotate_left
                · (intro w hSw; (try dsimp only at hSw); go_simp) <;> with_reducible rfl
                try simp only [Act.put, List.setIfInBounds_toArray, List.getElem_toArray, List.getElem_cons_zero, List.getElem_cons_succ, List.set_cons_zero, List.set_cons_succ]
                refine wpAnyH_take (i := 29) (v := ?_) rfl (by kernel_rfl) (by kernel_rfl) (by kernel_rfl) (fun _ _ _ h => h) (Or.inl ⟨by rfl, ?_⟩) (HQ11.out _ _ HS.out) ?_
                rotate_left
                · (intro w hSw; (try dsimp only at hSw); go_simp) <;> with_reducible rfl
                try simp only [Act.put, List.setIfInBounds_toArray, List.getElem_toArray, List.getElem_cons_zero, List.getElem_cons_succ, List.set_cons_zero, List.set_cons_succ]
                refine wpAnyH_take (i := 30) (v := ?_) rfl (by kernel_rfl) (by kernel_rfl) (by kernel_rfl) (fun _ _ _ h => h) (Or.inl ⟨by rfl, ?_⟩) (HQ11.out _ _ HS.out) ?_
                rotate_left
                · (intro w hSw; (try dsimp only at hSw); go_simp) <;> with_reducible rfl
                try simp only [Act.put, List.setIfInBounds_toArray, List.getElem_toArray, List.getElem_cons_zero, List.getElem_cons_succ, List.set_cons_zero, List.set_cons_succ]
                refine wpAnyH_take (i := 31) (v := ?_) rfl (by kernel_rfl) (by kernel_rfl) (by kernel_rfl) (fun _ _ _ h => h) (Or.inl ⟨by rfl, ?_⟩) (HQ11.out _ _ HS.out) ?_
                rotate_left
                · (intro w hSw; (try dsimp only at hSw); go_simp) <;> with_reducible rfl
                try simp only [Act.put, List.setIfInBounds_toArray, List.getElem_toArray, List.getElem_cons_zero, List.getElem_cons_succ, List.set_cons_zero, List.set_cons_succ]
                refine wpAnyH_ready (rs := [32]) (by kernel_rfl) (by simp) ?_
                refine AllReadyH.cons rfl (fun K hK => ?_) ?_
                · go_simp
                  go_wp2_with (go_at_call 49; with_reducible refine (HCON.out _ HS.out).mono ?_; rintro r w9 ⟨rfl, hs9⟩; replace HS := hid hs9; clear hs9)
                  refine hK.out _ _ (HQ11.out _ _ HS.out) (fun _ => ?_)
                  clear hK K
                  refine wpAnyH_take (i := 33) (v := ?_) rfl (by kernel_rfl) (by kernel_rfl) (by kernel_rfl) (fun _ _ _ h => h) (Or.inl ⟨by rfl, ?_⟩) (HQ11.out _ _ HS.out) ?_
                  rotate_left
                  · (intro w hSw; (try dsimp only at hSw); go_simp) <;> with_reducible rfl
                  try simp only [Act.put, List.setIfInBounds_toArray, List.getElem_toArray, List.getElem_cons_zero, List.getElem_cons_succ, List.set_cons_zero, List.set_cons_succ]
                  refine wpAnyH_take (i := 34) (v := ?_) rfl (by kernel_rfl) (by kernel_rfl) (by kernel_rfl) (fun _ _ _ h => h) (Or.inl ⟨by rfl, ?_⟩) (HQ11.out _ _ HS.out) ?_
                  rotate_left
                  · (intro w hSw; (try dsimp only at hSw); go_simp) <;> with_reducible rfl
                  try simp only [Act.put, List.setIfInBounds_toArray, List.getElem_toArray, List.getElem_cons_zero, List.getElem_cons_succ, List.set_cons_zero, List.set_cons_succ]
                  refine wpAnyH_done (by kernel_rfl) ?_ _
                  go_wp2_with fail
                  go_meet
                  exact ⟨by rw [HSK.out] <;> rfl, HS.out⟩
                exact AllReadyH.nil
              exact AllReadyH.nil
          · have HSK : Hid (skips e1 i key m = !sk) := hid (by rw [HSK0.out]; simp [h3, hmi])
            have hb3 : (stj == 2) = false := by simpa using h3
            clear HSK0 hmi h3
            refine wp_region_held_drew (S := fun w' => (binOp .eql 77 (.pointer (some ⟨blkOf bs m, 0, none⟩)) (.pointer (some ⟨blkOf bs i, 0, none⟩))).run Tryz.prog w' = .ok (.bool false) w' ∧ w'.cell? ⟨blkOf bs m, 1, none⟩ = some (.int .i64 stj) ∧ w'.cell? ⟨blkOf bs m, 4, none⟩ = some (.int .i64 enj) ∧ w'.cell? ⟨blkOf bs i, 3, none⟩ = some (.int .i64 bgi) ∧ w'.cell? ⟨blkOf bs m, 5, none⟩ = some rvj) (by kernel_rfl) (HQ11.out _ _ HR0.out.drew) (fun hHeld => ?_)
            refine wpAnyH_take (i := 0) (v := ?_) rfl (by kernel_rfl) (by kernel_rfl) (by kernel_rfl) (fun _ _ _ h => h) (Or.inl ⟨by rfl, ?_⟩) hHeld ?_
            rotate_left
            · (intro w hSw; (try dsimp only at hSw); go_simp) <;> with_reducible rfl
            try simp only [Act.put, List.setIfInBounds_toArray, List.getElem_toArray, List.getElem_cons_zero, List.getElem_cons_succ, List.set_cons_zero, List.set_cons_succ]
            refine wpAnyH_take (i := 1) (v := ?_) rfl (by kernel_rfl) (by kernel_rfl) (by kernel_rfl) (fun _ _ _ h => h) (Or.inl ⟨by rfl, ?_⟩) hHeld ?_
            rotate_left
            · (intro w hSw; (try dsimp only at hSw); go_simp) <;> with_reducible rfl
            try simp only [Act.put, List.setIfInBounds_toArray, List.getElem_toArray, List.getElem_cons_zero, List.getElem_cons_succ, List.set_cons_zero, List.set_cons_succ]
            refine wpAnyH_take (i := 2) (v := ?_) rfl (by kernel_rfl) (by kernel_rfl) (by kernel_rfl) (fun _ _ _ h => h) (Or.inl ⟨by rfl, ?_⟩) hHeld ?_
            rotate_left
            · (intro w hSw; (try dsimp only at hSw); go_simp) <;> with_reducible rfl
            try simp only [Act.put, List.setIfInBounds_toArray, List.getElem_toArray, List.getElem_cons_zero, List.getElem_cons_succ, List.set_cons_zero, List.set_cons_succ]
            refine wpAnyH_take (i := 3) (v := ?_) rfl (by kernel_rfl) (by kernel_rfl) (by kernel_rfl) (fun _ _ _ h => h) (Or.inl ⟨by rfl, ?_⟩) hHeld ?_
            rotate_left
            · (intro w hSw; (try dsimp only at hSw); go_simp) <;> with_reducible rfl
            try simp only [Act.put, List.setIfInBounds_toArray, List.getElem_toArray, List.getElem_cons_zero, List.getElem_cons_succ, List.set_cons_zero, List.set_cons_succ]
            refine wpAnyH_take (i := 4) (v := ?_) rfl (by kernel_rfl) (by kernel_rfl) (by kernel_rfl) (fun _ _ _ h => h) (Or.inl ⟨by rfl, ?_⟩) hHeld ?_
            rotate_left
            · (intro w hSw; (try dsimp only at hSw); go_simp) <;> with_reducible rfl
            try simp only [Act.put, List.setIfInBounds_toArray, List.getElem_toArray, List.getElem_cons_zero, List.getElem_cons_succ, List.set_cons_zero, List.set_cons_succ]
            have HS := hid HR0.out.drew
            clear hHeld
            refine anyH_world (fun w => Hid (S w0 w _)) HS (fun w1 HS => ?_)
            refine wpAnyH_ready (rs := [5]) (by kernel_rfl) (by simp) ?_
            refine AllReadyH.cons rfl (fun K hK => ?_) ?_
            · go_simp
              go_wp2_with (go_at_call 45; with_reducible refine (HSTR.out _ HS.out).mono ?_; rintro r w' ⟨rfl, rfl⟩)
              refine hK.out _ _ (HQ11.out _ _ HS.out) (fun _ => ?_)
              clear hK K
              refine wpAnyH_take (i := 6) (v := ?_) rfl (by kernel_rfl) (by kernel_rfl) (by kernel_rfl) (fun _ _ _ h => h) (Or.inl ⟨by rfl, ?_⟩) (HQ11.out _ _ HS.out) ?_
              rotate_left
              · (intro w hSw; (try dsimp only at hSw); go_simp) <;> with_reducible rfl
              try simp only [Act.put, List.setIfInBounds_toArray, List.getElem_toArray, List.getElem_cons_zero, List.getElem_cons_succ, List.set_cons_zero, List.set_cons_succ]
              refine wpAnyH_take (i := 7) (v := ?_) rfl (by kernel_rfl) (by kernel_rfl) (by kernel_rfl) (fun _ _ _ h => h) (Or.inl ⟨by rfl, ?_⟩) (HQ11.out _ _ HS.out) ?_
              rotate_left
              · (intro w hSw; (try dsimp only at hSw); go_simp) <;> with_reducible rfl
              try simp only [Act.put, List.setIfInBounds_toArray, List.getElem_toArray, List.getElem_cons_zero, List.getElem_cons_succ, List.set_cons_zero, List.set_cons_succ]
              refine wpAnyH_take (i := 8) (v := ?_) rfl (by kernel_rfl) (by kernel_rfl) (by kernel_rfl) (fun _ _ _ h => h) (Or.inl ⟨by rfl, ?_⟩) (HQ11.out _ _ HS.out) ?_
              rotate_left
              · (intro w hSw; (try dsimp only at hSw); go_simp) <;> with_reducible rfl
              try simp only [Act.put, List.setIfInBounds_toArray, List.getElem_toArray, List.getElem_cons_zero, List.getElem_cons_succ, List.set_cons_zero, List.set_cons_succ]
              refine wpAnyH_take (i := 9) (v := ?_) rfl (by kernel_rfl) (by kernel_rfl) (by kernel_rfl) (fun _ _ _ h => h) (Or.inl ⟨by rfl, ?_⟩) (HQ11.out _ _ HS.out) ?_
              rotate_left
              · (intro w hSw; (try dsimp only at hSw); go_simp) <;> with_reducible rfl
              try simp only [Act.put, List.setIfInBounds_toArray, List.getElem_toArray, List.getElem_cons_zero, List.getElem_cons_succ, List.set_cons_zero, List.set_cons_succ]
              refine wpAnyH_take (i := 10) (v := ?_) rfl (by kernel_rfl) (by kernel_rfl) (by kernel_rfl) (fun _ _ _ h => h) (Or.inl ⟨by rfl, ?_⟩) (HQ11.out _ _ HS.out) ?_
              rotate_left
              · (intro w hSw; (try dsimp only at hSw); go_simp) <;> with_reducible rfl
              try simp only [Act.put, List.setIfInBounds_toArray, List.getElem_toArray, List.getElem_cons_zero, List.getElem_cons_succ, List.set_cons_zero, List.set_cons_succ]
              refine wpAnyH_take (i := 11) (v := ?_) rfl (by kernel_rfl) (by kernel_rfl) (by kernel_rfl) (fun _ _ _ h => h) (Or.inl ⟨by rfl, ?_⟩) (HQ11.out _ _ HS.out) ?_
              rotate_left
              · (intro w hSw; (try dsimp only at hSw); go_simp) <;> with_reducible rfl
              try simp only [Act.put, List.setIfInBounds_toArray, List.getElem_toArray, List.getElem_cons_zero, List.getElem_cons_succ, List.set_cons_zero, List.set_cons_succ]
              refine wpAnyH_take (i := 12) (v := ?_) rfl (by kernel_rfl) (by kernel_rfl) (by kernel_rfl) (fun _ _ _ h => h) (Or.inl ⟨by rfl, ?_⟩) (HQ11.out _ _ HS.out) ?_
              rotate_left
              · (intro w hSw; (try dsimp only at hSw); go_simp) <;> with_reducible rfl
              try simp only [Act.put, List.setIfInBounds_toArray, List.getElem_toArray, List.getElem_cons_zero, List.getElem_cons_succ, List.set_cons_zero, List.set_cons_succ]
              refine wpAnyH_take (i := 13) (v := ?_) rfl (by kernel_rfl) (by kernel_rfl) (by kernel_rfl) (fun _ _ _ h => h) (Or.inl ⟨by rfl, ?_⟩) (HQ11.out _ _ HS.out) ?_
              rotate_left
              · (intro w hSw; (try dsimp only at hSw); go_simp) <;> with_reducible rfl
              try simp only [Act.put, List.setIfInBounds_toArray, List.getElem_toArray, List.getElem_cons_zero, List.getElem_cons_succ, List.set_cons_zero, List.set_cons_succ]
              refine wpAnyH_take (i := 14) (v := ?_) rfl (by kernel_rfl) (by kernel_rfl) (by kernel_rfl) (fun _ _ _ h => h) (Or.inl ⟨by rfl, ?_⟩) (HQ11.out _ _ HS.out) ?_
              rotate_left
              · (intro w hSw; (try dsimp only at hSw); go_simp) <;> with_reducible rfl
              try simp only [Act.put, List.setIfInBounds_toArray, List.getElem_toArray, List.getElem_cons_zero, List.getElem_cons_succ, List.set_cons_zero, List.set_cons_succ]
              refine wpAnyH_take (i := 15) (v := undef) rfl (by kernel_rfl) (by kernel_rfl) (by kernel_rfl) (fun _ _ _ h => h) (Or.inr ⟨by rfl, rfl⟩) (HQ11.out _ _ HS.out) ?_
              try simp only [Act.put, List.setIfInBounds_toArray, List.getElem_toArray, List.getElem_cons_zero, List.getElem_cons_succ, List.set_cons_zero, List.set_cons_succ]
              refine wpAnyH_take (i := 16) (v := undef) rfl (by kernel_rfl) (by kernel_rfl) (by kernel_rfl) (fun _ _ _ h => h) (Or.inr ⟨by rfl, rfl⟩) (HQ11.out _ _ HS.out) ?_
              try simp only [Act.put, List.setIfInBounds_toArray, List.getElem_toArray, List.getElem_cons_zero, List.getElem_cons_succ, List.set_cons_zero, List.set_cons_succ]
              refine wpAnyH_take (i := 17) (v := undef) rfl (by kernel_rfl) (by kernel_rfl) (by kernel_rfl) (fun _ _ _ h => h) (Or.inr ⟨by rfl, rfl⟩) (HQ11.out _ _ HS.out) ?_
              try simp only [Act.put, List.setIfInBounds_toArray, List.getElem_toArray, List.getElem_cons_zero, List.getElem_cons_succ, List.set_cons_zero, List.set_cons_succ]
              refine wpAnyH_take (i := 18) (v := undef) rfl (by kernel_rfl) (by kernel_rfl) (by kernel_rfl) (fun _ _ _ h => h) (Or.inr ⟨by rfl, rfl⟩) (HQ11.out _ _ HS.out) ?_
              try simp only [Act.put, List.setIfInBounds_toArray, List.getElem_toArray, List.getElem_cons_zero, List.getElem_cons_succ, List.set_cons_zero, List.set_cons_succ]
              refine wpAnyH_take (i := 19) (v := undef) rfl (by kernel_rfl) (by kernel_rfl) (by kernel_rfl) (fun _ _ _ h => h) (Or.inr ⟨by rfl, rfl⟩) (HQ11.out _ _ HS.out) ?_
              try simp only [Act.put, List.setIfInBounds_toArray, List.getElem_toArray, List.getElem_cons_zero, List.getElem_cons_succ, List.set_cons_zero, List.set_cons_succ]
              refine wpAnyH_take (i := 20) (v := undef) rfl (by kernel_rfl) (by kernel_rfl) (by kernel_rfl) (fun _ _ _ h => h) (Or.inr ⟨by rfl, rfl⟩) (HQ11.out _ _ HS.out) ?_
              try simp only [Act.put, List.setIfInBounds_toArray, List.getElem_toArray, List.getElem_cons_zero, List.getElem_cons_succ, List.set_cons_zero, List.set_cons_succ]
              refine wpAnyH_take (i := 21) (v := undef) rfl (by kernel_rfl) (by kernel_rfl) (by kernel_rfl) (fun _ _ _ h => h) (Or.inr ⟨by rfl, rfl⟩) (HQ11.out _ _ HS.out) ?_
              try simp only [Act.put, List.setIfInBounds_toArray, List.getElem_toArray, List.getElem_cons_zero, List.getElem_cons_succ, List.set_cons_zero, List.set_cons_succ]
              refine wpAnyH_take (i := 22) (v := undef) rfl (by kernel_rfl) (by kernel_rfl) (by kernel_rfl) (fun _ _ _ h => h) (Or.inr ⟨by rfl, rfl⟩) (HQ11.out _ _ HS.out) ?_
              try simp only [Act.put, List.setIfInBounds_toArray, List.getElem_toArray, List.getElem_cons_zero, List.getElem_cons_succ, List.set_cons_zero, List.set_cons_succ]
              refine wpAnyH_take (i := 23) (v := undef) rfl (by kernel_rfl) (by kernel_rfl) (by kernel_rfl) (fun _ _ _ h => h) (Or.inr ⟨by rfl, rfl⟩) (HQ11.out _ _ HS.out) ?_
              try simp only [Act.put, List.setIfInBounds_toArray, List.getElem_toArray, List.getElem_cons_zero, List.getElem_cons_succ, List.set_cons_zero, List.set_cons_succ]
              refine wpAnyH_take (i := 24) (v := ?_) rfl (by kernel_rfl) (by kernel_rfl) (by kernel_rfl) (fun _ _ _ h => h) (Or.inl ⟨by rfl, ?_⟩) (HQ11.out _ _ HS.out) ?_
              rotate_left
              · (intro w hSw; (try dsimp only at hSw); go_simp) <;> with_reducible rfl
              try simp only [Act.put, List.setIfInBounds_toArray, List.getElem_toArray, List.getElem_cons_zero, List.getElem_cons_succ, List.set_cons_zero, List.set_cons_succ]
              refine wpAnyH_take (i := 25) (v := ?_) rfl (by kernel_rfl) (by kernel_rfl) (by kernel_rfl) (fun _ _ _ h => h) (Or.inl ⟨by rfl, ?_⟩) (HQ11.out _ _ HS.out) ?_
              rotate_left
              · (intro w hSw; (try dsimp only at hSw); go_simp) <;> with_reducible rfl
              try simp only [Act.put, List.setIfInBounds_toArray, List.getElem_toArray, List.getElem_cons_zero, List.getElem_cons_succ, List.set_cons_zero, List.set_cons_succ]
              refine wpAnyH_take (i := 26) (v := ?_) rfl (by kernel_rfl) (by kernel_rfl) (by kernel_rfl) (fun _ _ _ h => h) (Or.inl ⟨by rfl, ?_⟩) (HQ11.out _ _ HS.out) ?_
              rotate_left
              · (intro w hSw; (try dsimp only at hSw); go_simp) <;> with_reducible rfl
              try simp only [Act.put, List.setIfInBounds_toArray, List.getElem_toArray, List.getElem_cons_zero, List.getElem_cons_succ, List.set_cons_zero, List.set_cons_succ]
              refine wpAnyH_take (i := 27) (v := ?_) rfl (by kernel_rfl) (by kernel_rfl) (by kernel_rfl) (fun _ _ _ h => h) (Or.inl ⟨by rfl, ?_⟩) (HQ11.out _ _ HS.out) ?_
              rotate_left
              · (intro w hSw; (try dsimp only at hSw); go_simp) <;> with_reducible rfl
              try simp only [Act.put, List.setIfInBounds_toArray, List.getElem_toArray, List.getElem_cons_zero, List.getElem_cons_succ, List.set_cons_zero, List.set_cons_succ]
              refine wpAnyH_take (i := 28) (v := ?_) rfl (by kernel_rfl) (by kernel_rfl) (by kernel_rfl) (fun _ _ _ h => h) (Or.inl ⟨by rfl, ?_⟩) (HQ11.out _ _ HS.out) ?_
              rotate_left
              · (intro w hSw; (try dsimp only at hSw); go_simp) <;> with_reducible rfl
              try simp only [Act.put, List.setIfInBounds_toArray, List.getElem_toArray, List.getElem_cons_zero, List.getElem_cons_succ, List.set_cons_zero, List.set_cons_succ]
              refine wpAnyH_take (i := 29) (v := ?_) rfl (by kernel_rfl) (by kernel_rfl) (by kernel_rfl) (fun _ _ _ h => h) (Or.inl ⟨by rfl, ?_⟩) (HQ11.out _ _ HS.out) ?_
              rotate_left
              · (intro w hSw; (try dsimp only at hSw); go_simp) <;> with_reducible rfl
              try simp only [Act.put, List.setIfInBounds_toArray, List.getElem_toArray, List.getElem_cons_zero, List.getElem_cons_succ, List.set_cons_zero, List.set_cons_succ]
              refine wpAnyH_take (i := 30) (v := ?_) rfl (by kernel_rfl) (by kernel_rfl) (by kernel_rfl) (fun _ _ _ h => h) (Or.inl ⟨by rfl, ?_⟩) (HQ11.out _ _ HS.out) ?_
              rotate_left
              · (intro w hSw; (try dsimp only at hSw); go_simp) <;> with_reducible rfl
              try simp only [Act.put, List.setIfInBounds_toArray, List.getElem_toArray, List.getElem_cons_zero, List.getElem_cons_succ, List.set_cons_zero, List.set_cons_succ]
              refine wpAnyH_take (i := 31) (v := ?_) rfl (by kernel_rfl) (by kernel_rfl) (by kernel_rfl) (fun _ _ _ h => h) (Or.inl ⟨by rfl, ?_⟩) (HQ11.out _ _ HS.out) ?_
              rotate_left
              · (intro w hSw; (try dsimp only at hSw); go_simp) <;> with_reducible rfl
              try simp only [Act.put, List.setIfInBounds_toArray, List.getElem_toArray, List.getElem_cons_zero, List.getElem_cons_succ, List.set_cons_zero, List.set_cons_succ]
              refine wpAnyH_ready (rs := [32]) (by kernel_rfl) (by simp) ?_
              refine AllReadyH.cons rfl (fun K hK => ?_) ?_
              · go_simp
                go_wp2_with (go_at_call 49; with_reducible refine (HCON.out _ HS.out).mono ?_; rintro r w9 ⟨rfl, hs9⟩; replace HS := hid hs9; clear hs9)
                refine hK.out _ _ (HQ11.out _ _ HS.out) (fun _ => ?_)
                clear hK K
                refine wpAnyH_take (i := 33) (v := ?_) rfl (by kernel_rfl) (by kernel_rfl) (by kernel_rfl) (fun _ _ _ h => h) (Or.inl ⟨by rfl, ?_⟩) (HQ11.out _ _ HS.out) ?_
                rotate_left
                · (intro w hSw; (try dsimp only at hSw); go_simp) <;> with_reducible rfl
                try simp only [Act.put, List.setIfInBounds_toArray, List.getElem_toArray, List.getElem_cons_zero, List.getElem_cons_succ, List.set_cons_zero, List.set_cons_succ]
                refine wpAnyH_take (i := 34) (v := ?_) rfl (by kernel_rfl) (by kernel_rfl) (by kernel_rfl) (fun _ _ _ h => h) (Or.inl ⟨by rfl, ?_⟩) (HQ11.out _ _ HS.out) ?_
                rotate_left
                · (intro w hSw; (try dsimp only at hSw); go_simp) <;> with_reducible rfl
                try simp only [Act.put, List.setIfInBounds_toArray, List.getElem_toArray, List.getElem_cons_zero, List.getElem_cons_succ, List.set_cons_zero, List.set_cons_succ]
                refine wpAnyH_done (by kernel_rfl) ?_ _
                go_wp2_with fail
                go_meet
                exact ⟨by rw [HSK.out] <;> rfl, HS.out⟩
              exact AllReadyH.nil
            exact AllReadyH.nil
      case rest =>
      rename World => wy
      obtain ⟨rfl, hs10⟩ := hcut
      have H10 := hid hs10
      clear hs10 HR0 HQ10 HCON HSTR0 HSK0 HBNE
      cases hsk : skips e1 i key m with
      | true =>
        have hf3 : putsG (goesN n) e i (key, val) = putsL (goesN n) i key ((List.range e.txs.length).drop (m + 1)) e1 := by rw [HFM.out, putsL, if_pos hsk]
        have HF3 := hid hf3; have HOK3 := hid HOKM.out.skipped
        clear hf3 hsk HFM
        go_wp2_with fail
        go_roundw
        case rel => exact ⟨m + 1, e1, k1, by omega, by go_num, hk1, HOK3, ho1, hn1, HF3, H10.out⟩
        case measure => simp [intOf]; omega
      | false =>
        have hmi : m ≠ i := by
          intro h; subst h
          unfold skips at hsk; simp at hsk
        have hbnd : ∀ j, j < e1.txs.length → (e1.tx j).aft.length + 1 ≤ 1000000000000 ∧ (e1.tx j).fore.length + 1 ≤ 1000000000000 := fun j hj => by have := HOKM.out.fits _ (Eng.tx_mem hj); omega
        have hcall := noted_any w0 _ b bs k1 e1 m i (blk w.heap.size 51 [.int .i64 key, .int .i64 val] :: storeP 84 b 0 e1.V e1.last :: tabP 3 b 11 e1.t :: L) (H10.out.conv (by simp only [all]; ac_rfl)) HJ.out HI1.out hmi (hbnd m HJ.out).1 (hbnd i HI1.out).2 (fun x hx => (HOKM.out.txs x hx).refs)
        unfold ptr at hcall
        have HC := hid hcall
        have hsk' := hsk
        have hnt := HOKM.out.noted
        have HNT := hid hnt; have HSKF := hid hsk'
        have hno := Eng.note_open e1 m i
        have hnl := Eng.note_len e1 m i
        have HNO := hid hno; have HNL := hid hnl
        clear hcall hsk hsk' hbnd hmi hnt hno hnl
        cases hbad : (e1.note m i).bad m i with
        | true =>
          have hf3 : putsG (goesN n) e i (key, val) = goesN n (e1.note m i) i 13 := by rw [HFM.out, putsL, if_neg (by rw [HSKF.out]; simp)]; simp [hbad]
          have hk3 := HNT.out.ok _ (List.mem_cons_self ..)
          have hst3 := (hk3.ask i key _ rfl).1
          have hcg := fun W (hW : S w0 W (engP b bs (e1.note m i) :: L)) => HG.out w0 W b bs (e1.note m i) i 13 L N U (HNT.out.tail (by simp)) hk3.lt (by simp [Tx.alive, hst3]) HNT.out.who_ne (by rw [HNO.out]; exact ho1.out) hN hW
          have HF3 := hid hf3; have HCG := hid hcg
          clear hf3 hk3 hst3 hcg HFM
          rw [hbad] at HC
          clear hbad
          go_wp2_with fail
          with_reducible refine HC.out.mono ?_
          rintro r w' ⟨k2, hk2, rfl, hs2⟩
          have hs3 : S w0 w' (engP b bs (e1.note m i) :: L) := (hs2.conv (M := blk w.heap.size 51 [.int .i64 key, .int .i64 val] :: storeP 84 b 0 e1.V e1.last :: tabP 3 b 11 e1.t :: engO b bs k2 (e1.note m i) :: L) (by simp only [all]; ac_rfl)).tail.eng_shut
          have hcc := HCG.out _ hs3
          have HCC := hid hcc
          clear hs2 hs3 hcc hk2
          go_wp2_with fail
          with_reducible refine HCC.out.mono ?_
          rintro r w2 ⟨rfl, hs4⟩
          have H4 := hid hs4
          clear hs4
          go_wp2_with fail
          refine bodyPost_ret (v := .tuple #[]) (by simp [results, Tryz.results31, go_sem]) rfl ?_
          exact ⟨rfl, by rw [HF3.out]; exact H4.out⟩
        | false =>
          have hf3 : putsG (goesN n) e i (key, val) = putsL (goesN n) i key ((List.range e.txs.length).drop (m + 1)) (e1.note m i) := by rw [HFM.out, putsL, if_neg (by rw [HSKF.out]; simp)]; simp [hbad]
          have HF3 := hid hf3
          clear hf3 HFM
          rw [hbad] at HC
          clear hbad
          go_wp2_with fail
          with_reducible refine HC.out.mono ?_
          rintro r w' ⟨k2, hk2, rfl, hs2⟩
          have hs3 : S w0 w' (blk w.heap.size 51 [.int .i64 key, .int .i64 val] :: storeP 84 b 0 (e1.note m i).V (e1.note m i).last :: tabP 3 b 11 (e1.note m i).t :: engO b bs k2 (e1.note m i) :: L) := hs2.conv (by simp only [all]; show sep _ (sep _ (sep (storeP _ b 0 e1.V e1.last) (sep (tabP _ b 11 e1.t) _))) = sep _ (sep (storeP _ b 0 e1.V e1.last) (sep (tabP _ b 11 e1.t) _)); ac_rfl)
          have H3 := hid hs3; have HK2 := hid hk2
          clear hs2 hs3 hk2
          go_wp2_with fail
          go_roundw
          case rel => exact ⟨m + 1, e1.note m i, k2, by omega, by go_num, hid (HK2.out.trans hk1.out), HNT, hid (by rw [HNO.out]; exact ho1.out), hid (by rw [HNL.out]; exact hn1.out), HF3, H3.out⟩
          case measure => simp [intOf]; omega
    · have hd : (List.range e.txs.length).drop m = [] := List.drop_eq_nil_iff.2 (by simp; omega)
      have hf2 := hf1.out
      rw [hd] at hf2
      have HF2 := hid hf2; have HSR := hid hsr
      clear hd hf2 hsr hf1 hok1 HROW
      go_wp2_with fail
      go_end0
      exact ⟨rfl, by rw [HF2.out]; exact HSR.out.tail.eng_shut⟩
end Go.Proofs.YtaghjcdlghcjeaaGreatDoor
