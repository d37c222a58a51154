/- The program's engine: whether a key was read. -/
import Derived.Test.YtcbokjocahnlcaaGreatDoorSt0
import Derived.Test.YtcbokjocahnlcaaGreatDoorSt4
import Derived.Deep.DeepCutAuto
import Derived.Deep.CutBlock
/- The program's engine: one transaction is noted to be ahead of another one. -/
namespace Go.Proofs.YtcbokjocahnlcaaGreatDoor
open Go Go.RowKit Go.Sep
theorem Tryz.info75 : (Tryz.prog.info? 75).map (fun i => (i.zero, i.size, i.bytes)) = some (some (.pointer none), 1, 8) := by kernel_rfl
theorem blk_ne {w : World} {b : Nat} {bs : List Nat} {k : EngV} {e : Eng} {i j : Nat} (h : EngC w b bs k e) (hi : i < e.txs.length) (hj : j < e.txs.length) (hij : i ≠ j) : blkOf bs i ≠ blkOf bs j := by
 obtain ⟨h1, h2⟩ := h.len
 unfold blkOf
 rw [List.getElem?_eq_getElem (by omega), List.getElem?_eq_getElem (by omega)]
 intro he
 exact hij ((List.getElem_inj h2).1 he)
theorem note_refs {e : Eng} {i j : Nat} (hr : ∀ x ∈ e.txs, ∀ m ∈ x.fore ++ x.aft, m < e.txs.length) (hi : i < e.txs.length) (hj : j < e.txs.length) : ∀ x ∈ (e.note i j).txs, ∀ m ∈ x.fore ++ x.aft, m < (e.note i j).txs.length := by
 rw [Eng.note_len]
 unfold Eng.note
 refine Eng.upd_all (p := fun x => ∀ m ∈ x.fore ++ x.aft, m < e.txs.length) (Eng.upd_all (p := fun x => ∀ m ∈ x.fore ++ x.aft, m < e.txs.length) hr fun hi => ?_) fun hj' => ?_
 ·intro m hm
  simp only [List.mem_append, List.mem_singleton] at hm
  rcases hm with hm | hm | rfl
  ·exact hr _ (Eng.tx_mem hi) m (by simp [hm])
  ·exact hr _ (Eng.tx_mem hi) m (by simp [hm])
  ·exact hj
 ·have h1 : ∀ m ∈ ((e.upd i fun x => { x with aft := x.aft ++ [j] }).tx j).fore ++ ((e.upd i fun x => { x with aft := x.aft ++ [j] }).tx j).aft, m < e.txs.length :=
   Eng.upd_all (p := fun x => ∀ m ∈ x.fore ++ x.aft, m < e.txs.length) hr (fun hi => by
    intro m hm
    simp only [List.mem_append, List.mem_singleton] at hm
    rcases hm with hm | hm | rfl
    ·exact hr _ (Eng.tx_mem hi) m (by simp [hm])
    ·exact hr _ (Eng.tx_mem hi) m (by simp [hm])
    ·exact hj) _ (Eng.tx_mem hj')
  intro m hm
  simp only [List.mem_append, List.mem_singleton] at hm h1
  rcases hm with (hm | rfl) | hm
  ·exact h1 m (.inl hm)
  ·exact hi
  ·exact h1 m (.inr hm)
theorem one_ptr (bs : List Nat) (j : Nat) : ∀ u ∈ [ptr bs j], u.oneCell' = true := by
 intro u hu; simp only [List.mem_singleton] at hu; subst hu; rfl
set_option maxRecDepth 40000 in
set_option maxHeartbeats 8000000 in
theorem noted_any (w0 w : World) (b : Nat) (bs : List Nat) (k : EngV) (e : Eng) (i j : Nat) (L : List HProp) (hs : S w0 w (engO b bs k e :: L)) (hi : i < e.txs.length) (hj : j < e.txs.length) (hij : i ≠ j)
  (ha : (e.tx i).aft.length + 1 ≤ 1000000000000) (hf : (e.tx j).fore.length + 1 ≤ 1000000000000) (hr : ∀ x ∈ e.txs, ∀ m ∈ x.fore ++ x.aft, m < e.txs.length) :
  Calls Tryz.prog 65 #[.pointer (some ⟨b, 0, none⟩), ptr bs i, ptr bs j] w fun r w' => ∃ k', k'.txv = k.txv ∧ r = .returned (.bool (!((e.note i j).bad i j))) ∧ S w0 w' (engO b bs k' (e.note i j) :: L) := by
 obtain ⟨i0, hi0, hz0, hz1, hz2⟩ := info_parts Tryz.info75
 have h2 := hs.eng_two hi hj hij
 obtain ⟨aa, ca, hva, hca, hca2, _⟩ := h2.sl_val
 obtain ⟨af, cf, hvf, hcf, hcf2, _⟩ := h2.swap.sl_val
 have hbi : blkOf bs i ≠ blkOf bs j := blk_ne hs.eng_c.2 hi hj hij
 have hc2 : ∀ (W : World) v x, W.cell? ⟨blkOf bs j, 9, none⟩ = some x → (W.setCell ⟨blkOf bs i, 10, none⟩ v).cell? ⟨blkOf bs j, 9, none⟩ = some x := fun W v x h => by rw [World.cell?_setCell_far _ _ _ _ hbi]; exact h
 have hc3 : ∀ (W : World) v, W.frozen? ⟨blkOf bs j, 9, none⟩ = false → (W.setCell ⟨blkOf bs i, 10, none⟩ v).frozen? ⟨blkOf bs j, 9, none⟩ = false := fun W v h => by simpa using h
 have hc : ∀ W M, S w0 W (twoX b bs k e i j :: M) → W.cell? ⟨blkOf bs i, 10, none⟩ = some (k.v i).av ∧ W.cell? ⟨blkOf bs j, 9, none⟩ = some (k.v j).fv ∧ W.frozen? ⟨blkOf bs i, 10, none⟩ = false ∧ W.frozen? ⟨blkOf bs j, 9, none⟩ = false := fun W M h => h.two_cells
 have hq : ∀ W M, S w0 W (twoX b bs k e i j :: M) → W.cell? ⟨blkOf bs i, 10, none⟩ = some (.slice aa (e.tx i).aft.length ca) ∧ W.cell? ⟨blkOf bs j, 9, none⟩ = some (.slice af (e.tx j).fore.length cf) := fun W M h => by
  have := h.two_cells; rw [hva, hvf] at this; exact ⟨this.1, this.2.1⟩
 rw [hva, hvf] at h2
 have hcl : ∀ W av fv, S w0 W (sl 75 1 av ((e.tx i).aft.length + 1) (ptrs bs (e.tx i).aft ++ [ptr bs j]) :: sl 75 1 fv ((e.tx j).fore.length + 1) (ptrs bs (e.tx j).fore ++ [ptr bs i]) :: twoX b bs k e i j :: L) → ∃ k', k'.txv = k.txv ∧ S w0 ((W.setCell ⟨blkOf bs i, 10, none⟩ av).setCell ⟨blkOf bs j, 9, none⟩ fv) (engO b bs k' (e.note i j) :: L) := fun W av fv h => h.two_close hi hj hij
 have HS0 := hid h2; have HCL := hid hcl; have HQ := hid hq; have HC := hid hc; have HC2 := hid hc2; have HC3 := hid hc3; have HA := hid ha; have HF := hid hf
 clear hs h2 hcl hq hc hc2 hc3 hbi ha hf hca hca2 hcf hcf2 hva hvf
 have HR := hid (note_refs hr hi hj); have HI := hid hi; have HJ := hid hj
 have HLN := hid (Eng.note_len e i j)
 clear hr hi hj hij
 unfold ptr
 go_enter Tryz.func65, Tryz.ntmps65
 go_wp2_with fail
 go_cut [] (fun wx => ∃ k', k'.txv = k.txv ∧ S w0 wx (engO b bs k' (e.note i j) :: L))
 case first =>
  refine region_U (S := fun w' => w'.cell? ⟨blkOf bs i, 10, none⟩ = some (.slice aa (e.tx i).aft.length ca) ∧ w'.cell? ⟨blkOf bs j, 9, none⟩ = some (.slice af (e.tx j).fore.length cf)) (u := 18) (by kernel_rfl) (HQ.out _ _ (HS0.out.drew.nth 2 rfl)) (fun hHeld => ?_)
  refine anyU_take (i := 0) (v := ?_) rfl (by kernel_rfl) (fun _ _ _ h => h) (Or.inl ⟨by rfl, ?_⟩) hHeld ?_
  rotate_left
  ·(intro w hSw; (try dsimp only at hSw); go_simp) <;> with_reducible rfl
  try simp only [Act.put, List.setIfInBounds_toArray]
  refine anyU_pure (i := 1) (v := ?_) rfl (by kernel_rfl) (fun _ _ _ h => h) (Or.inl ⟨by rfl, ?_⟩) (fun _ => hHeld) ?_
  rotate_left
  ·(intro w _; go_simp) <;> with_reducible rfl
  try simp only [Act.put]
  refine anyU_take (i := 2) (v := ?_) rfl (by kernel_rfl) (fun _ _ _ h => h) (Or.inl ⟨by rfl, ?_⟩) hHeld ?_
  rotate_left
  ·(intro w hSw; (try dsimp only at hSw); go_simp) <;> with_reducible rfl
  try simp only [Act.put]
  refine anyU_take (i := 3) (v := ?_) rfl (by kernel_rfl) (fun _ _ _ h => h) (Or.inl ⟨by rfl, ?_⟩) hHeld ?_
  rotate_left
  ·(intro w hSw; (try dsimp only at hSw); go_simp) <;> with_reducible rfl
  try simp only [Act.put]
  refine anyU_take (i := 4) (v := ?_) rfl (by kernel_rfl) (fun _ _ _ h => h) (Or.inl ⟨by rfl, ?_⟩) hHeld ?_
  rotate_left
  ·(intro w hSw; (try dsimp only at hSw); go_simp) <;> with_reducible rfl
  try simp only [Act.put]
  refine anyU_take (i := 5) (v := ?_) rfl (by kernel_rfl) (fun _ _ _ h => h) (Or.inl ⟨by rfl, ?_⟩) hHeld ?_
  rotate_left
  ·(intro w hSw; (try dsimp only at hSw); go_simp) <;> with_reducible rfl
  try simp only [Act.put]
  refine anyU_take (i := 6) (v := ?_) rfl (by kernel_rfl) (fun _ _ _ h => h) (Or.inl ⟨by rfl, ?_⟩) hHeld ?_
  rotate_left
  ·(intro w hSw; (try dsimp only at hSw); go_simp) <;> with_reducible rfl
  try simp only [Act.put]
  refine anyU_pure (i := 9) (v := ?_) rfl (by kernel_rfl) (fun _ _ _ h => h) (Or.inl ⟨by rfl, ?_⟩) (fun _ => hHeld) ?_
  rotate_left
  ·(intro w _; go_simp) <;> with_reducible rfl
  try simp only [Act.put]
  refine anyU_pure (i := 10) (v := ?_) rfl (by kernel_rfl) (fun _ _ _ h => h) (Or.inl ⟨by rfl, ?_⟩) (fun _ => hHeld) ?_
  rotate_left
  ·(intro w _; go_simp) <;> with_reducible rfl
  try simp only [Act.put]
  refine anyU_pure (i := 11) (v := ?_) rfl (by kernel_rfl) (fun _ _ _ h => h) (Or.inl ⟨by rfl, ?_⟩) (fun _ => hHeld) ?_
  rotate_left
  ·(intro w _; go_simp) <;> with_reducible rfl
  try simp only [Act.put]
  refine anyU_take (i := 12) (v := ?_) rfl (by kernel_rfl) (fun _ _ _ h => h) (Or.inl ⟨by rfl, ?_⟩) hHeld ?_
  rotate_left
  ·(intro w hSw; (try dsimp only at hSw); go_simp) <;> with_reducible rfl
  try simp only [Act.put]
  refine anyU_pure (i := 13) (v := ?_) rfl (by kernel_rfl) (fun _ _ _ h => h) (Or.inl ⟨by rfl, ?_⟩) (fun _ => hHeld) ?_
  rotate_left
  ·(intro w _; go_simp) <;> with_reducible rfl
  try simp only [Act.put]
  have HS := hid HS0.out.drew
  clear hHeld
  refine anyU_world (fun w => Hid (S w0 w _)) HS (fun w1 HS => ?_)
  clear HS0
  refine anyU_next (rs := [7, 14]) (by kernel_rfl) (by simp) ?_
  refine NextU.cons rfl (fun K hK => ?_) ?_
  ·go_simp
   replace HS := hid (HS.out.alloc_slU (e := 75) (size := 1) [ptr bs j] 1 rfl (by unfold maxLen; omega))
   generalize w1.heap.size = b7 at HS ⊢
   refine act_any (fun w => Hid (S w0 w _)) HS (fun w2 HS => ?_)
   refine hK.out _ _ (fun _ => (HQ.out _ _ (HS.out.nth 3 rfl))) ?_
   clear hK K
   refine anyU_next (rs := [8, 14]) (by kernel_rfl) (by simp) ?_
   refine NextU.cons rfl (fun K hK => ?_) ?_
   ·refine step_appU rfl (.tmp 14) (.tmp 16) 83 rfl 75 i0 _ 1 8 Tryz.underlying83 hi0 hz0 hz1 hz2 rfl (by decide) HS.out 1 (by rfl) (by rfl) _ 1 1 [ptr bs j] (by rfl) rfl (HS.out.news_slK 0 (by rfl)) (one_ptr bs j) HA.out (by decide) ?_
    intro v8 w3 hs
    replace HS := hid hs
    clear hs
    obtain ⟨p8, c8, rfl, _, _, _⟩ := HS.out.sl_val
    refine hK.out _ _ (fun _ => (HQ.out _ _ (HS.out.nth 3 rfl))) ?_
    clear hK K
    try simp only [Act.put]
    refine anyU_next (rs := [14]) (by kernel_rfl) (by simp) ?_
    refine NextU.cons rfl (fun K hK => ?_) ?_
    ·go_simp
     replace HS := hid (HS.out.alloc_slU (e := 75) (size := 1) [ptr bs i] 1 rfl (by unfold maxLen; omega))
     generalize w3.heap.size = b14 at HS ⊢
     refine act_any (fun w => Hid (S w0 w _)) HS (fun w4 HS => ?_)
     refine hK.out _ _ (fun _ => (HQ.out _ _ (HS.out.nth 4 rfl))) ?_
     clear hK K
     refine anyU_next (rs := [15]) (by kernel_rfl) (by simp) ?_
     refine NextU.cons rfl (fun K hK => ?_) ?_
     ·refine step_appU rfl (.tmp 21) (.tmp 23) 83 rfl 75 i0 _ 1 8 Tryz.underlying83 hi0 hz0 hz1 hz2 rfl (by decide) HS.out 3 (by rfl) (by rfl) _ 1 1 [ptr bs i] (by rfl) rfl (HS.out.news_slK 0 (by rfl)) (one_ptr bs i) HF.out (by decide) ?_
      intro v15 w5 hs
      replace HS := hid hs
      clear hs
      obtain ⟨p15, c15, rfl, _, _, _⟩ := HS.out.sl_val
      refine hK.out _ _ (fun _ => (HQ.out _ _ (HS.out.nth 4 rfl))) ?_
      clear hK K
      try simp only [Act.put]
      refine anyU_pure (i := 16) (v := ?_) rfl (by kernel_rfl) (fun _ _ _ h => h) (Or.inl ⟨by rfl, ?_⟩) (fun _ => (HQ.out _ _ (HS.out.nth 4 rfl))) ?_
      rotate_left
      ·(intro w _; go_simp) <;> with_reducible rfl
      try simp only [Act.put]
      refine anyU_take (i := 17) (v := ?_) rfl (by kernel_rfl) (fun _ _ _ h => h) (Or.inl ⟨by rfl, ?_⟩) (HQ.out _ _ (HS.out.nth 4 rfl)) ?_
      rotate_left
      ·(intro w hSw; (try dsimp only at hSw); go_simp) <;> with_reducible rfl
      try simp only [Act.put]
      refine anyU_next (rs := [18]) (by kernel_rfl) (by simp) ?_
      refine NextU.cons rfl (fun K hK => ?_) ?_
      ·have q1 := (HC.out _ _ (HS.out.nth 4 rfl)).1
       have q2 := (HC.out _ _ (HS.out.nth 4 rfl)).2.2.1
       go_simp
       refine hK.out _ _ (fun h => Bool.noConfusion (show true = false from h)) ?_
       clear hK K q1 q2
       refine anyU_pure (i := 19) (v := ?_) rfl (by kernel_rfl) (fun _ _ _ h => h) (Or.inl ⟨by rfl, ?_⟩) (fun h => Bool.noConfusion (show true = false from h)) ?_
       rotate_left
       ·(intro w _; go_simp) <;> with_reducible rfl
       try simp only [Act.put]
       refine anyU_pure (i := 20) (v := ?_) rfl (by kernel_rfl) (fun _ _ _ h => h) (Or.inl ⟨by rfl, ?_⟩) (fun h => Bool.noConfusion (show true = false from h)) ?_
       rotate_left
       ·(intro w _; go_simp) <;> with_reducible rfl
       try simp only [Act.put]
       refine anyU_next (rs := [21]) (by kernel_rfl) (by simp) ?_
       refine NextU.cons rfl (fun K hK => ?_) ?_
       ·have q1 := HC2.out _ (.slice p8 ((e.tx i).aft.length + 1) c8) _ (HC.out _ _ (HS.out.nth 4 rfl)).2.1
        have q2 := HC3.out _ (.slice p8 ((e.tx i).aft.length + 1) c8) (HC.out _ _ (HS.out.nth 4 rfl)).2.2.2
        go_simp
        refine hK.out _ _ (fun h => Bool.noConfusion (show true = false from h)) ?_
        clear hK K q1 q2
        refine anyU_done (by kernel_rfl) ?_ _
        go_wp2_with fail
        go_meet
        have HZ := HS.out
        simp only [List.eraseIdx_cons_succ, List.eraseIdx_cons_zero] at HZ
        exact HCL.out _ _ _ (HZ.conv (M := sl 75 1 (.slice (some ⟨b7, 0, none⟩) 1 1) 1 [ptr bs j] :: sl 75 1 (.slice (some ⟨b14, 0, none⟩) 1 1) 1 [ptr bs i] :: sl 75 1 (.slice p8 ((e.tx i).aft.length + 1) c8) ((e.tx i).aft.length + 1) (ptrs bs (e.tx i).aft ++ [ptr bs j]) :: sl 75 1 (.slice p15 ((e.tx j).fore.length + 1) c15) ((e.tx j).fore.length + 1) (ptrs bs (e.tx j).fore ++ [ptr bs i]) :: twoX b bs k e i j :: L) (by simp only [all]; ac_rfl)).tail.tail
       exact NextU.nil
      exact NextU.nil
     exact NextU.nil
    exact NextU.nil
   refine NextU.cons rfl (fun K hK => ?_) ?_
   ·go_simp
    replace HS := hid (HS.out.alloc_slU (e := 75) (size := 1) [ptr bs i] 1 rfl (by unfold maxLen; omega))
    generalize w2.heap.size = b14 at HS ⊢
    refine act_any (fun w => Hid (S w0 w _)) HS (fun w3 HS => ?_)
    refine hK.out _ _ (fun _ => (HQ.out _ _ (HS.out.nth 4 rfl))) ?_
    clear hK K
    refine anyU_next (rs := [8]) (by kernel_rfl) (by simp) ?_
    refine NextU.cons rfl (fun K hK => ?_) ?_
    ·refine step_appU rfl (.tmp 14) (.tmp 16) 83 rfl 75 i0 _ 1 8 Tryz.underlying83 hi0 hz0 hz1 hz2 rfl (by decide) HS.out 2 (by rfl) (by rfl) _ 1 1 [ptr bs j] (by rfl) rfl (HS.out.news_slK 1 (by rfl)) (one_ptr bs j) HA.out (by decide) ?_
     intro v8 w4 hs
     replace HS := hid hs
     clear hs
     obtain ⟨p8, c8, rfl, _, _, _⟩ := HS.out.sl_val
     refine hK.out _ _ (fun _ => (HQ.out _ _ (HS.out.nth 4 rfl))) ?_
     clear hK K
     try simp only [Act.put]
     refine anyU_next (rs := [15]) (by kernel_rfl) (by simp) ?_
     refine NextU.cons rfl (fun K hK => ?_) ?_
     ·refine step_appU rfl (.tmp 21) (.tmp 23) 83 rfl 75 i0 _ 1 8 Tryz.underlying83 hi0 hz0 hz1 hz2 rfl (by decide) HS.out 3 (by rfl) (by rfl) _ 1 1 [ptr bs i] (by rfl) rfl (HS.out.news_slK 1 (by rfl)) (one_ptr bs i) HF.out (by decide) ?_
      intro v15 w5 hs
      replace HS := hid hs
      clear hs
      obtain ⟨p15, c15, rfl, _, _, _⟩ := HS.out.sl_val
      refine hK.out _ _ (fun _ => (HQ.out _ _ (HS.out.nth 4 rfl))) ?_
      clear hK K
      try simp only [Act.put]
      refine anyU_pure (i := 16) (v := ?_) rfl (by kernel_rfl) (fun _ _ _ h => h) (Or.inl ⟨by rfl, ?_⟩) (fun _ => (HQ.out _ _ (HS.out.nth 4 rfl))) ?_
      rotate_left
      ·(intro w _; go_simp) <;> with_reducible rfl
      try simp only [Act.put]
      refine anyU_take (i := 17) (v := ?_) rfl (by kernel_rfl) (fun _ _ _ h => h) (Or.inl ⟨by rfl, ?_⟩) (HQ.out _ _ (HS.out.nth 4 rfl)) ?_
      rotate_left
      ·(intro w hSw; (try dsimp only at hSw); go_simp) <;> with_reducible rfl
      try simp only [Act.put]
      refine anyU_next (rs := [18]) (by kernel_rfl) (by simp) ?_
      refine NextU.cons rfl (fun K hK => ?_) ?_
      ·have q1 := (HC.out _ _ (HS.out.nth 4 rfl)).1
       have q2 := (HC.out _ _ (HS.out.nth 4 rfl)).2.2.1
       go_simp
       refine hK.out _ _ (fun h => Bool.noConfusion (show true = false from h)) ?_
       clear hK K q1 q2
       refine anyU_pure (i := 19) (v := ?_) rfl (by kernel_rfl) (fun _ _ _ h => h) (Or.inl ⟨by rfl, ?_⟩) (fun h => Bool.noConfusion (show true = false from h)) ?_
       rotate_left
       ·(intro w _; go_simp) <;> with_reducible rfl
       try simp only [Act.put]
       refine anyU_pure (i := 20) (v := ?_) rfl (by kernel_rfl) (fun _ _ _ h => h) (Or.inl ⟨by rfl, ?_⟩) (fun h => Bool.noConfusion (show true = false from h)) ?_
       rotate_left
       ·(intro w _; go_simp) <;> with_reducible rfl
       try simp only [Act.put]
       refine anyU_next (rs := [21]) (by kernel_rfl) (by simp) ?_
       refine NextU.cons rfl (fun K hK => ?_) ?_
       ·have q1 := HC2.out _ (.slice p8 ((e.tx i).aft.length + 1) c8) _ (HC.out _ _ (HS.out.nth 4 rfl)).2.1
        have q2 := HC3.out _ (.slice p8 ((e.tx i).aft.length + 1) c8) (HC.out _ _ (HS.out.nth 4 rfl)).2.2.2
        go_simp
        refine hK.out _ _ (fun h => Bool.noConfusion (show true = false from h)) ?_
        clear hK K q1 q2
        refine anyU_done (by kernel_rfl) ?_ _
        go_wp2_with fail
        go_meet
        have HZ := HS.out
        simp only [List.eraseIdx_cons_succ, List.eraseIdx_cons_zero] at HZ
        exact HCL.out _ _ _ (HZ.conv (M := sl 75 1 (.slice (some ⟨b7, 0, none⟩) 1 1) 1 [ptr bs j] :: sl 75 1 (.slice (some ⟨b14, 0, none⟩) 1 1) 1 [ptr bs i] :: sl 75 1 (.slice p8 ((e.tx i).aft.length + 1) c8) ((e.tx i).aft.length + 1) (ptrs bs (e.tx i).aft ++ [ptr bs j]) :: sl 75 1 (.slice p15 ((e.tx j).fore.length + 1) c15) ((e.tx j).fore.length + 1) (ptrs bs (e.tx j).fore ++ [ptr bs i]) :: twoX b bs k e i j :: L) (by simp only [all]; ac_rfl)).tail.tail
       exact NextU.nil
      exact NextU.nil
     exact NextU.nil
    exact NextU.nil
   exact NextU.nil
  refine NextU.cons rfl (fun K hK => ?_) ?_
  ·go_simp
   replace HS := hid (HS.out.alloc_slU (e := 75) (size := 1) [ptr bs i] 1 rfl (by unfold maxLen; omega))
   generalize w1.heap.size = b14 at HS ⊢
   refine act_any (fun w => Hid (S w0 w _)) HS (fun w2 HS => ?_)
   refine hK.out _ _ (fun _ => (HQ.out _ _ (HS.out.nth 3 rfl))) ?_
   clear hK K
   refine anyU_next (rs := [7]) (by kernel_rfl) (by simp) ?_
   refine NextU.cons rfl (fun K hK => ?_) ?_
   ·go_simp
    replace HS := hid (HS.out.alloc_slU (e := 75) (size := 1) [ptr bs j] 1 rfl (by unfold maxLen; omega))
    generalize w2.heap.size = b7 at HS ⊢
    refine act_any (fun w => Hid (S w0 w _)) HS (fun w3 HS => ?_)
    refine hK.out _ _ (fun _ => (HQ.out _ _ (HS.out.nth 4 rfl))) ?_
    clear hK K
    refine anyU_next (rs := [8]) (by kernel_rfl) (by simp) ?_
    refine NextU.cons rfl (fun K hK => ?_) ?_
    ·refine step_appU rfl (.tmp 14) (.tmp 16) 83 rfl 75 i0 _ 1 8 Tryz.underlying83 hi0 hz0 hz1 hz2 rfl (by decide) HS.out 2 (by rfl) (by rfl) _ 1 1 [ptr bs j] (by rfl) rfl (HS.out.news_slK 0 (by rfl)) (one_ptr bs j) HA.out (by decide) ?_
     intro v8 w4 hs
     replace HS := hid hs
     clear hs
     obtain ⟨p8, c8, rfl, _, _, _⟩ := HS.out.sl_val
     refine hK.out _ _ (fun _ => (HQ.out _ _ (HS.out.nth 4 rfl))) ?_
     clear hK K
     try simp only [Act.put]
     refine anyU_next (rs := [15]) (by kernel_rfl) (by simp) ?_
     refine NextU.cons rfl (fun K hK => ?_) ?_
     ·refine step_appU rfl (.tmp 21) (.tmp 23) 83 rfl 75 i0 _ 1 8 Tryz.underlying83 hi0 hz0 hz1 hz2 rfl (by decide) HS.out 3 (by rfl) (by rfl) _ 1 1 [ptr bs i] (by rfl) rfl (HS.out.news_slK 2 (by rfl)) (one_ptr bs i) HF.out (by decide) ?_
      intro v15 w5 hs
      replace HS := hid hs
      clear hs
      obtain ⟨p15, c15, rfl, _, _, _⟩ := HS.out.sl_val
      refine hK.out _ _ (fun _ => (HQ.out _ _ (HS.out.nth 4 rfl))) ?_
      clear hK K
      try simp only [Act.put]
      refine anyU_pure (i := 16) (v := ?_) rfl (by kernel_rfl) (fun _ _ _ h => h) (Or.inl ⟨by rfl, ?_⟩) (fun _ => (HQ.out _ _ (HS.out.nth 4 rfl))) ?_
      rotate_left
      ·(intro w _; go_simp) <;> with_reducible rfl
      try simp only [Act.put]
      refine anyU_take (i := 17) (v := ?_) rfl (by kernel_rfl) (fun _ _ _ h => h) (Or.inl ⟨by rfl, ?_⟩) (HQ.out _ _ (HS.out.nth 4 rfl)) ?_
      rotate_left
      ·(intro w hSw; (try dsimp only at hSw); go_simp) <;> with_reducible rfl
      try simp only [Act.put]
      refine anyU_next (rs := [18]) (by kernel_rfl) (by simp) ?_
      refine NextU.cons rfl (fun K hK => ?_) ?_
      ·have q1 := (HC.out _ _ (HS.out.nth 4 rfl)).1
       have q2 := (HC.out _ _ (HS.out.nth 4 rfl)).2.2.1
       go_simp
       refine hK.out _ _ (fun h => Bool.noConfusion (show true = false from h)) ?_
       clear hK K q1 q2
       refine anyU_pure (i := 19) (v := ?_) rfl (by kernel_rfl) (fun _ _ _ h => h) (Or.inl ⟨by rfl, ?_⟩) (fun h => Bool.noConfusion (show true = false from h)) ?_
       rotate_left
       ·(intro w _; go_simp) <;> with_reducible rfl
       try simp only [Act.put]
       refine anyU_pure (i := 20) (v := ?_) rfl (by kernel_rfl) (fun _ _ _ h => h) (Or.inl ⟨by rfl, ?_⟩) (fun h => Bool.noConfusion (show true = false from h)) ?_
       rotate_left
       ·(intro w _; go_simp) <;> with_reducible rfl
       try simp only [Act.put]
       refine anyU_next (rs := [21]) (by kernel_rfl) (by simp) ?_
       refine NextU.cons rfl (fun K hK => ?_) ?_
       ·have q1 := HC2.out _ (.slice p8 ((e.tx i).aft.length + 1) c8) _ (HC.out _ _ (HS.out.nth 4 rfl)).2.1
        have q2 := HC3.out _ (.slice p8 ((e.tx i).aft.length + 1) c8) (HC.out _ _ (HS.out.nth 4 rfl)).2.2.2
        go_simp
        refine hK.out _ _ (fun h => Bool.noConfusion (show true = false from h)) ?_
        clear hK K q1 q2
        refine anyU_done (by kernel_rfl) ?_ _
        go_wp2_with fail
        go_meet
        have HZ := HS.out
        simp only [List.eraseIdx_cons_succ, List.eraseIdx_cons_zero] at HZ
        exact HCL.out _ _ _ (HZ.conv (M := sl 75 1 (.slice (some ⟨b7, 0, none⟩) 1 1) 1 [ptr bs j] :: sl 75 1 (.slice (some ⟨b14, 0, none⟩) 1 1) 1 [ptr bs i] :: sl 75 1 (.slice p8 ((e.tx i).aft.length + 1) c8) ((e.tx i).aft.length + 1) (ptrs bs (e.tx i).aft ++ [ptr bs j]) :: sl 75 1 (.slice p15 ((e.tx j).fore.length + 1) c15) ((e.tx j).fore.length + 1) (ptrs bs (e.tx j).fore ++ [ptr bs i]) :: twoX b bs k e i j :: L) (by simp only [all]; ac_rfl)).tail.tail
       exact NextU.nil
      exact NextU.nil
     exact NextU.nil
    exact NextU.nil
   exact NextU.nil
  exact NextU.nil
 case rest =>
 rename World => wz
 obtain ⟨k', hk', hs'⟩ := hcut
 have HKK := hid hk'
 clear hk'
 have hI : i < (e.note i j).txs.length := by rw [HLN.out]; exact HI.out
 have hJ : j < (e.note i j).txs.length := by rw [HLN.out]; exact HJ.out
 generalize hE : e.note i j = e' at *
 have HE := hid hE
 clear hE
 have hsx := hs'.alloc #[ptr bs i, ptr bs j] 75
 have hfr := HR.out
 have m1 := middle_eng w0 _ b bs k' e' i _ hsx.swap hI (hfr _ (Eng.tx_mem hI))
 have m2 := middle_eng w0 _ b bs k' e' j _ hsx.swap hJ (hfr _ (Eng.tx_mem hJ))
 have s1 := (hsx.swap.eng_txc hI).2.state
 have s2 := (hsx.swap.eng_txc hJ).2.state
 have x1 := hsx.blk_cell 0 rfl
 have x2 := hsx.blk_cell 1 rfl
 unfold ptr at x1 x2 hsx m1 m2 s1 s2
 have hwi : e'.wrong i = (decide ((e'.tx i).state = 2) && e'.middle i) := rfl
 have hwj : e'.wrong j = (decide ((e'.tx j).state = 2) && e'.middle j) := rfl
 have hbd : e'.bad i j = (e'.wrong i || e'.wrong j) := rfl
 have HB := hid hbd; have HWI := hid hwi; have HWJ := hid hwj
 generalize (e'.tx i).state = si at *
 generalize (e'.tx j).state = sj at *
 generalize e'.middle i = mi at *
 generalize e'.middle j = mj at *
 have HX := hid hsx; have M1 := hid m1; have M2 := hid m2
 clear hs' hsx hfr m1 m2 hwi hwj hbd HR HLN HI HJ hI hJ
 go_wp2_with fail
 go_loopw [33] (fun c wr => ∃ n : Nat, n ≤ 2 ∧ c = .int .i64 n ∧ wr = wz.alloc (.cells #[.pointer (some ⟨blkOf bs i, 0, none⟩), .pointer (some ⟨blkOf bs j, 0, none⟩)] 75) ∧ Hid ((1 ≤ n → e'.wrong i = false) ∧ (2 ≤ n → e'.wrong j = false))) (fun c _ => 2 - (intOf c).toNat)
 case atStart => exact ⟨0, by omega, rfl, rfl, hid ⟨by omega, by omega⟩⟩
 case round =>
  obtain ⟨n, hn, rfl, rfl, hno⟩ := hrel
  have h3 : n = 0 ∨ n = 1 ∨ n = 2 := by omega
  rcases h3 with rfl | rfl | rfl
  ·by_cases h2 : si = 2
   ·subst h2
    cases mi with
    | true =>
     have hf : e'.bad i j = true := by rw [HB.out, HWI.out]; rfl
     have HFN := hid hf
     clear hf hno
     go_wp2_with (go_at_call 52; with_reducible refine M1.out.mono ?_; rintro e w' ⟨rfl, rfl⟩)
     go_ret
     exact ⟨k', HKK.out, by rw [HE.out, HFN.out]; rfl, by rw [HE.out]; exact HX.out.tail⟩
    | false =>
     have hn2 : Hid ((1 ≤ 1 → e'.wrong i = false) ∧ (2 ≤ 1 → e'.wrong j = false)) := hid ⟨fun _ => by rw [HWI.out]; rfl, by omega⟩
     clear hno
     go_wp2_with (go_at_call 52; with_reducible refine M1.out.mono ?_; rintro e w' ⟨rfl, rfl⟩)
     go_roundw
     case rel => exact ⟨1, by omega, by first | rfl | trivial, by first | rfl | trivial, hn2⟩
     case measure => simp [intOf]
   ·have hb : (si == 2) = false := by simpa using h2
    have hn2 : Hid ((1 ≤ 1 → e'.wrong i = false) ∧ (2 ≤ 1 → e'.wrong j = false)) := hid ⟨fun _ => by rw [HWI.out]; simp [h2], by omega⟩
    clear hno h2
    go_wp2_with fail
    go_roundw
    case rel => exact ⟨1, by omega, by first | rfl | trivial, by first | rfl | trivial, hn2⟩
    case measure => simp [intOf]
  ·have hw1 := hno.out.1 (Nat.le_refl _)
   by_cases h2 : sj = 2
   ·subst h2
    cases mj with
    | true =>
     have hf : e'.bad i j = true := by rw [HB.out, HWJ.out]; simp
     have HFN := hid hf
     clear hf hno hw1
     go_wp2_with (go_at_call 52; with_reducible refine M2.out.mono ?_; rintro e w' ⟨rfl, rfl⟩)
     go_ret
     exact ⟨k', HKK.out, by rw [HE.out, HFN.out]; rfl, by rw [HE.out]; exact HX.out.tail⟩
    | false =>
     have hn2 : Hid ((1 ≤ 2 → e'.wrong i = false) ∧ (2 ≤ 2 → e'.wrong j = false)) := hid ⟨fun _ => hw1, fun _ => by rw [HWJ.out]; rfl⟩
     clear hno hw1
     go_wp2_with (go_at_call 52; with_reducible refine M2.out.mono ?_; rintro e w' ⟨rfl, rfl⟩)
     go_roundw
     case rel => exact ⟨2, by omega, by first | rfl | trivial, by first | rfl | trivial, hn2⟩
     case measure => simp [intOf]
   ·have hb : (sj == 2) = false := by simpa using h2
    have hn2 : Hid ((1 ≤ 2 → e'.wrong i = false) ∧ (2 ≤ 2 → e'.wrong j = false)) := hid ⟨fun _ => hw1, fun _ => by rw [HWJ.out]; simp [h2]⟩
    clear hno hw1 h2
    go_wp2_with fail
    go_roundw
    case rel => exact ⟨2, by omega, by first | rfl | trivial, by first | rfl | trivial, hn2⟩
    case measure => simp [intOf]
  ·have hf : e'.bad i j = false := by rw [HB.out, hno.out.1 (by omega), hno.out.2 (by omega)]; rfl
   have HFN := hid hf
   clear hf hno
   go_wp2_with fail
   go_ret
   exact ⟨k', HKK.out, by rw [HE.out, HFN.out]; rfl, by rw [HE.out]; exact HX.out.tail⟩
end Go.Proofs.YtcbokjocahnlcaaGreatDoor
/- The program's engine: of, State, Txs, Last, Many, Waits. -/
namespace Go.Proofs.YtcbokjocahnlcaaGreatDoor
open Go Go.RowKit Go.Sep
theorem errV_0 : errV 0 = .nilIface := rfl
theorem errV_ne {x : Int} (h : x ≠ 0) : errV x = .iface 47 (.int .i64 x) := if_neg h
theorem of_miss (w0 w : World) (b : Nat) (bs : List Nat) (k : EngV) (e : Eng) (n : Int) (op : Bool) (L : List HProp) (hs : S w0 w (engO b bs k e :: L)) (hn : n < 1 ∨ (e.txs.length : Int) < n) :
  Calls Tryz.prog 30 #[.pointer (some ⟨b, 0, none⟩), .int .i64 n, .bool op] w fun r w' => r = .returned (.tuple #[.pointer none, .iface 47 (.int .i64 7)]) ∧ w = w' := by
 have hc := hs.eng_c.2
 have c14 := hc.txs
 obtain ⟨a, cap, hv, hle, hcap, _⟩ := hc.row
 rw [hv] at c14
 unfold maxLen at hcap
 clear hs hc hv
 by_cases h1 : n < 1
 ·clear hn
  go_enter Tryz.func30, Tryz.ntmps30
  go_wp2
  go_ret2
  exact ⟨rfl, rfl⟩
 ·have h2 : (e.txs.length : Int) < n := by omega
  clear hn
  go_enter Tryz.func30, Tryz.ntmps30
  go_wp2
  go_ret2
  exact ⟨rfl, rfl⟩
theorem of_shut (w0 w : World) (b : Nat) (bs : List Nat) (k : EngV) (e : Eng) (i : Nat) (L : List HProp) (hs : S w0 w (engO b bs k e :: L)) (hi : i < e.txs.length) (hst : (e.tx i).state ≠ 0) :
  Calls Tryz.prog 30 #[.pointer (some ⟨b, 0, none⟩), .int .i64 ((i : Int) + 1), .bool true] w fun r w' => r = .returned (.tuple #[.pointer none, .iface 47 (.int .i64 6)]) ∧ w = w' := by
 have hc := hs.eng_c.2
 have c14 := hc.txs
 obtain ⟨a, cap, hv, hle, hcap, hrow⟩ := hc.row
 obtain ⟨g, o, rfl, ci⟩ := hrow i hi
 rw [hv] at c14
 unfold maxLen at hcap
 have c1 := (hs.eng_txc hi).2.state
 have hb : ((e.tx i).state != 0) = true := by simpa using hst
 unfold ptr at ci
 clear hs hc hv hrow hst
 go_enter Tryz.func30, Tryz.ntmps30
 go_wp2
 go_ret2
 exact ⟨rfl, rfl⟩
theorem of_ok (w0 w : World) (b : Nat) (bs : List Nat) (k : EngV) (e : Eng) (i : Nat) (op : Bool) (L : List HProp) (hs : S w0 w (engO b bs k e :: L)) (hi : i < e.txs.length) (hst : op = true → (e.tx i).state = 0) :
  Calls Tryz.prog 30 #[.pointer (some ⟨b, 0, none⟩), .int .i64 ((i : Int) + 1), .bool op] w fun r w' => r = .returned (.tuple #[ptr bs i, .nilIface]) ∧ w = w' := by
 have hc := hs.eng_c.2
 have c14 := hc.txs
 obtain ⟨a, cap, hv, hle, hcap, hrow⟩ := hc.row
 obtain ⟨g, o, rfl, ci⟩ := hrow i hi
 rw [hv] at c14
 unfold maxLen at hcap
 have c1 := (hs.eng_txc hi).2.state
 unfold ptr at ci ⊢
 clear hs hc hv hrow
 cases op with
 | true =>
  rw [hst rfl] at c1
  clear hst
  go_enter Tryz.func30, Tryz.ntmps30
  go_wp2
  go_ret2
  exact ⟨rfl, rfl⟩
 | false =>
  clear hst
  go_enter Tryz.func30, Tryz.ntmps30
  go_wp2
  go_ret2
  exact ⟨rfl, rfl⟩
theorem Eng.err_cases (e : Eng) (n : Int) (op : Bool) : (e.err n op = 7 ∧ (n < 1 ∨ (e.txs.length : Int) < n)) ∨ ∃ i : Nat, n = (i : Int) + 1 ∧ i < e.txs.length ∧ ((e.err n op = 6 ∧ op = true ∧ (e.tx i).state ≠ 0) ∨ (e.err n op = 0 ∧ (op = true → (e.tx i).state = 0))) := by
 by_cases h : n < 1 ∨ (e.txs.length : Int) < n
 ·exact .inl ⟨if_pos h, h⟩
 ·right
  obtain ⟨i, rfl⟩ : ∃ i : Nat, n = (i : Int) + 1 := ⟨(n - 1).toNat, by omega⟩
  have hi : ((i : Int) + 1).toNat - 1 = i := by omega
  refine ⟨i, rfl, by omega, ?_⟩
  unfold Eng.err
  rw [if_neg h, hi]
  by_cases h2 : op = true ∧ (e.tx i).state ≠ 0
  ·rw [if_pos h2]; exact .inl ⟨rfl, h2⟩
  ·rw [if_neg h2]; exact .inr ⟨rfl, fun ho => Decidable.byContradiction fun hx => h2 ⟨ho, hx⟩⟩
theorem state_any (w0 w : World) (b : Nat) (bs : List Nat) (k : EngV) (e : Eng) (n : Int) (L : List HProp) (hs : S w0 w (engO b bs k e :: L)) :
  Calls Tryz.prog 14 #[.pointer (some ⟨b, 0, none⟩), .int .i64 n] w fun r w' => r = .returned (.tuple #[.int .i64 (e.state n).1, .int .i64 (e.state n).2.1, errV (e.state n).2.2]) ∧ S w0 w' (engO b bs k e :: L) := by
 have HS := hid hs
 rcases e.err_cases n false with ⟨h1, h2⟩ | ⟨i, rfl, hi, ⟨h1, h2, h3⟩ | ⟨h1, h2⟩⟩
 ·have hst : e.state n = (0, 0, 7) := by unfold Eng.state; rw [if_pos (by rw [h1]; decide), h1]
  have HST := hid hst
  have hc := of_miss w0 w b bs k e n false L hs h2
  have HC := hid hc
  clear hs hst hc h1 h2
  go_enter Tryz.func14, Tryz.ntmps14
  go_wp2_with fail
  with_reducible refine HC.out.mono ?_
  rintro r w' ⟨rfl, rfl⟩
  go_wp2_with fail
  go_ret3
  exact ⟨by rw [HST.out]; rfl, HS.out⟩
 ·cases h2
 ·have hi2 : ((i : Int) + 1).toNat - 1 = i := by omega
  have hst : e.state ((i : Int) + 1) = ((e.tx i).state, (e.tx i).why, 0) := by unfold Eng.state; rw [if_neg (by rw [h1]; decide), hi2]
  have HST := hid hst
  have hc := of_ok w0 w b bs k e i false L hs hi h2
  unfold ptr at hc
  have hx := (hs.eng_txc hi).2
  have c1 := hx.state
  have c2 := hx.why
  have HC := hid hc
  clear hs hst hc h1 h2 hx hi2
  go_enter Tryz.func14, Tryz.ntmps14
  go_wp2_with fail
  with_reducible refine HC.out.mono ?_
  rintro r w' ⟨rfl, rfl⟩
  go_wp2_with fail
  go_quiet (fail)
  go_wp2_with fail
  go_ret3
  exact ⟨by rw [HST.out]; rfl, HS.out.drewN nq⟩
theorem elast_any (w0 w : World) (b : Nat) (e : Eng) (L : List HProp) (hs : S w0 w (storeP 105 b 0 e.V e.last :: L)) :
  Calls Tryz.prog 28 #[.pointer (some ⟨b, 0, none⟩)] w fun r w' => r = .returned (.int .i64 e.last) ∧ w = w' := by
 have hc := last_any b 0 e.last w hs.store_last.1
 clear hs
 go_enter Tryz.func28, Tryz.ntmps28
 go_wp2_with (go_at_call 37; with_reducible refine hc.mono ?_; rintro r w' ⟨rfl, rfl⟩)
 go_ret
 exact ⟨rfl, rfl⟩
end Go.Proofs.YtcbokjocahnlcaaGreatDoor
namespace Go.Proofs.YtcbokjocahnlcaaGreatDoor
open Go Go.RowKit Go.Sep
theorem saw1_any (w0 w : World) (k1 f1 key : Int) (bw : Nat) (L : List HProp) (hs : S w0 w L) (hc : w.cell? ⟨bw, 0, none⟩ = some (.int .i64 key)) :
  Calls Tryz.prog 68 #[.agg #[.int .i64 k1, .int .i64 f1], .pointer (some ⟨bw, 0, none⟩)] w fun r w' => r = .returned (.bool (k1 == key)) ∧ S w0 w' L := by
 have hlt := World.block_lt_of_cell? w ⟨bw, 0, none⟩ hc
 have h1 : (w.alloc (.cells #[.int .i64 k1, .int .i64 f1] 98)).cell? ⟨bw, 0, none⟩ = some (.int .i64 key) := by rw [World.cell?_alloc_lt _ _ _ hlt]; exact hc
 have HS := hid (hs.alloc #[.int .i64 k1, .int .i64 f1] 98).tail
 clear hs hc hlt
 go_enter Tryz.func68, Tryz.ntmps68
 go_wp2
 go_ret
 exact ⟨rfl, HS.out⟩
abbrev sawF (bw : Nat) : Value := .func (.func 68) #[] #[.pointer (some ⟨bw, 0, none⟩)]
def RxPost (w0 : World) (L : List HProp) (key : Int) (l : List (Int × Int)) (e : Ending) (w' : World) : Prop := ∃ r : Int, e = .returned (.int .i64 r) ∧ -1 ≤ r ∧ (decide (0 ≤ r) = l.any fun p => decide (p.1 = key)) ∧ S w0 w' L
set_option maxRecDepth 20000 in
set_option maxHeartbeats 1000000 in
theorem indexR_any (w0 w : World) (b : Nat) (bs : List Nat) (k : EngV) (e : Eng) (j : Nat) (bw : Nat) (key val : Int) (L : List HProp) (hs : S w0 w (blk bw 44 [.int .i64 key, .int .i64 val] :: engO b bs k e :: L)) (hj : j < e.txs.length) :
  Calls Tryz.prog 83 #[(k.v j).rv, sawF bw] w (RxPost w0 (blk bw 44 [.int .i64 key, .int .i64 val] :: engO b bs k e :: L) key (e.tx j).reads) := by
 obtain ⟨a, cap, hrv, hle, hcap, _⟩ := (hs.swap.eng_txc hj).2.rs
 have hrd : ∀ W, S w0 W (blk bw 44 [.int .i64 key, .int .i64 val] :: engO b bs k e :: L) → ∀ i p, (e.tx j).reads[i]? = some p → ∃ g o, a = some ⟨g, o, none⟩ ∧ W.cell? ⟨g, o + i * 2, none⟩ = some (.int .i64 p.1) ∧ W.cell? ⟨g, o + i * 2 + 1, none⟩ = some (.int .i64 p.2) := by
  intro W hW i p hp
  obtain ⟨a', cap', hrv', _, _, h⟩ := (hW.swap.eng_txc hj).2.rs
  rw [hrv] at hrv'
  simp only [Value.slice.injEq] at hrv'
  obtain ⟨rfl, _, _⟩ := hrv'
  exact h i p hp
 rw [hrv]
 generalize (e.tx j).reads = l at *
 unfold maxLen at hcap
 have HS := hid hs; have HRD := hid hrd
 clear hs hrd hrv
 go_enter Tryz.func83, Tryz.ntmps83
 go_wp2_with fail
 go_loopw [8] (fun x wr => ∃ i : Nat, i ≤ l.length ∧ x = .int .i64 i ∧ Hid (∀ p ∈ l.take i, p.1 ≠ key) ∧ S w0 wr (blk bw 44 [.int .i64 key, .int .i64 val] :: engO b bs k e :: L)) (fun x _ => l.length - (intOf x).toNat)
 case atStart => exact ⟨0, Nat.zero_le _, rfl, hid (by simp), HS.out⟩
 case round =>
  rename World => wr
  obtain ⟨i, hi, rfl, hno, hsr⟩ := hrel
  clear HS
  by_cases hlt : i < l.length
  ·have hp : l[i]? = some l[i] := by simp [hlt]
   generalize l[i] = p at hp
   obtain ⟨g, o, rfl, c1, c2⟩ := HRD.out _ hsr _ _ hp
   have hc := saw1_any w0 wr p.1 p.2 key bw _ hsr (hsr.blk_cell 0 rfl)
   have HP := hid hp; have HC := hid hc; have HSR := hid hsr
   clear hp hc hsr
   by_cases hx : p.1 = key
   ·have hbe : (p.1 == key) = true := by simpa using hx
    have HF := hid (show (l.any fun p => decide (p.1 = key)) = true by
     rw [List.any_eq_true]; exact ⟨p, List.mem_of_getElem? HP.out, by simpa using hx⟩)
    clear hx hno
    go_wp2_with fail
    with_reducible refine HC.out.mono ?_
    rintro r w' ⟨rfl, hs'⟩
    have H2 := hid hs'
    clear hs'
    go_wp2_with fail
    go_ret
    exact ⟨i, rfl, by omega, by rw [HF.out]; simp, H2.out⟩
   ·have hn : Hid (∀ q ∈ l.take (i + 1), q.1 ≠ key) := hid (by
     rw [take_succ_get HP.out]
     intro q hq
     rcases List.mem_append.1 hq with hq | hq
     ·exact hno.out q hq
     ·simp only [List.mem_singleton] at hq; subst hq; exact hx)
    have hbe : (p.1 == key) = false := by simpa using hx
    clear hx hno
    go_wp2_with fail
    with_reducible refine HC.out.mono ?_
    rintro r w' ⟨rfl, hs'⟩
    have H2 := hid hs'
    clear hs'
    go_wp2_with fail
    go_roundw
    case rel => exact ⟨i + 1, by omega, by go_num, hn, H2.out⟩
    case measure => simp [intOf]; omega
  ·have HF := hid (show (l.any fun p => decide (p.1 = key)) = false by
    rw [List.any_eq_false]
    intro p hp
    have := hno.out p (by rw [List.take_of_length_le (by omega)]; exact hp)
    simp [this])
   have H2 := hid hsr
   clear hno hsr
   go_wp2_with fail
   go_ret
   exact ⟨-1, rfl, by omega, by rw [HF.out]; simp, H2.out⟩
theorem containsR_any (w0 w : World) (b : Nat) (bs : List Nat) (k : EngV) (e : Eng) (j : Nat) (bw : Nat) (key val : Int) (L : List HProp) (hs : S w0 w (blk bw 44 [.int .i64 key, .int .i64 val] :: engO b bs k e :: L)) (hj : j < e.txs.length) :
  Calls Tryz.prog 67 #[(k.v j).rv, sawF bw] w fun r w' => r = .returned (.bool ((e.tx j).saw key)) ∧ S w0 w' (blk bw 44 [.int .i64 key, .int .i64 val] :: engO b bs k e :: L) := by
 have HC := hid (indexR_any w0 w b bs k e j bw key val L hs hj)
 clear hs
 go_enter Tryz.func67, Tryz.ntmps67
 go_wp2_with fail
 with_reducible refine HC.out.mono ?_
 rintro r w' ⟨x, rfl, hr, hd, hs'⟩
 have HD := hid hd; have H2 := hid hs'
 clear hd hs'
 go_wp2_with fail
 go_ret
 exact ⟨by unfold Tx.saw; rw [← HD.out]; rfl, H2.out⟩
end Go.Proofs.YtcbokjocahnlcaaGreatDoor
