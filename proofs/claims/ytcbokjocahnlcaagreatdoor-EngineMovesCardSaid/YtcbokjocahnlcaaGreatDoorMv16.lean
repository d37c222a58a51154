/- The law EngineMoves returns true for every input, and its argument reads afterwards as before; condition: the package variable errors.errorType holds the handle of the type error, as the row lists it. -/
import Derived.Test.YtcbokjocahnlcaaGreatDoorMv11
import Derived.Test.YtcbokjocahnlcaaGreatDoorMv12
import Derived.Test.YtcbokjocahnlcaaGreatDoorMv15
import Derived.Test.YtcbokjocahnlcaaGreatDoorMv1
import Derived.Deep.CutBlock
/- interleafkeep.EngineMoves: the walk. Condition: the package variable errors.errorType holds the handle of the type error. -/
namespace Go.Proofs.YtcbokjocahnlcaaGreatDoor
open Go Go.RowKit Go.Sep

theorem Tryz.lenI {w : World} {b : Nat} {D : List (Int × Int)} (h : MapAt encI (fun _ => True) w b (ienc D)) (ty : TypeId) : (Builtin.len_ #[57] ty #[.map (some b)]).run Tryz.prog w = .ok (.int .i64 (D.length : Nat)) w := by
  obtain ⟨es, clock, hobj, hm⟩ := h
  rw [run_len_map (P := Tryz.prog) w 57 ty b es clock (by kernel_rfl) hobj]
  have h1 := congrArg List.length hm.1
  have h2 : es.size = D.length := by simpa [ienc] using h1
  rw [h2]; rfl
def icell1 (x : Int) : List Value := [.int .i64 x]
theorem sum_open {e : Eng} {N n : Nat} (h : OkT N e []) (hn : n = e.txs.length) : openTo e n + waitTo e n = e.open_ := by
  subst hn
  unfold openTo waitTo Eng.open_
  rw [List.take_length]
  have : ∀ l : List Tx, (∀ x ∈ l, TxOk e.txs.length x) → l.countP isOpen + l.countP Tx.waits = l.countP Tx.alive := by
    intro l
    induction l with
    | nil => intro _; rfl
    | cons x l ih =>
      intro hl
      have ih := ih fun y hy => hl y (List.mem_cons_of_mem _ hy)
      have hx := (hl x (List.mem_cons_self ..)).state
      simp only [List.countP_cons]
      by_cases h0 : x.state = 0
      · simp [isOpen, Tx.waits, Tx.alive, h0]; omega
      · by_cases h1 : x.state = 1
        · simp [isOpen, Tx.waits, Tx.alive, h1]; omega
        · have h2 : ¬ x.state ≤ 1 := by omega
          simp [isOpen, Tx.waits, Tx.alive, h0, h1, h2]; omega
  exact this _ h.txs
theorem first_open {e : Eng} {n : Nat} (h : 0 < openTo e n) (hn : e.txs.length = n) : ∃ q, q < n ∧ (e.tx q).state = 0 ∧ ∀ q', q' < q → (e.tx q').state ≠ 0 := by
  subst hn
  unfold openTo at h
  rw [List.take_length] at h
  obtain ⟨x, hx, hp⟩ := List.countP_pos_iff.1 h
  obtain ⟨i, hi, rfl⟩ := Eng.mem_tx hx
  suffices ∀ i, i < e.txs.length → (e.tx i).state = 0 → ∃ q, q < e.txs.length ∧ (e.tx q).state = 0 ∧ ∀ q', q' < q → (e.tx q').state ≠ 0 from this i hi (by simpa [isOpen] using hp)
  intro i
  induction i using Nat.strongRecOn with
  | ind i ih =>
    intro hi hs
    by_cases hq : ∃ q', q' < i ∧ (e.tx q').state = 0
    · obtain ⟨q', h1, h2⟩ := hq
      exact ih q' h1 (by omega) h2
    · exact ⟨i, hi, hs, fun q' h1 h2 => hq ⟨q', h1, h2⟩⟩
set_option linter.unusedSimpArgs false in
set_option maxRecDepth 100000 in
set_option maxHeartbeats 16000000 in
theorem emov_any (w0 : World) (v v2 : Value) (ls : List Act1) (hw : List Int) (hE : ErrT w0) (hv : ArgF acells 4 w0 v ls) (hv2 : ArgF icell1 1 w0 v2 hw) :
    Calls Tryz.prog 4 #[v, v2] w0 fun e w' => e = .returned (.bool true) ∧ Below w0.heap.size w0 w' := by
  obtain ⟨a, cap, rfl, hcap, hcap2, hrow⟩ := hv
  obtain ⟨a2, cap2, rfl, hcap3, hcap4, hrow2⟩ := hv2
  unfold maxLen at hcap2 hcap4
  have hs0 := S.start w0
  by_cases h90 : 90 < ls.length
  · go_enter Tryz.func4, Tryz.ntmps4
    go_wp2_with fail
    go_ret
    exact ⟨rfl, Below.refl _ _⟩
  by_cases h60 : 60 < hw.length
  · have h90' : ls.length ≤ 90 := by omega
    clear h90
    go_enter Tryz.func4, Tryz.ntmps4
    go_wp2_with fail
    go_ret
    exact ⟨rfl, Below.refl _ _⟩
  have h90' : ls.length ≤ 90 := by omega
  have h60' : hw.length ≤ 60 := by omega
  have HR := hid hrow; have HR2 := hid hrow2
  clear hrow hrow2 h90 h60
  go_enter Tryz.func4, Tryz.ntmps4
  go_wp2_with fail
  with_reducible refine (ran_any w0 _ [] hE hs0).mono ?_
  rintro e w1 ⟨rfl, hs1⟩
  have HT := hid (tells_any w0 w1 [] hs1)
  clear hs0 hs1
  go_wp2_with fail
  with_reducible refine HT.out.mono ?_
  rintro e w2 ⟨b, be, rfl, hs2⟩
  have hs3 := hs2.alloc #[.pointer (some ⟨b, 0, none⟩)] 24
  have H2 := hid hs3
  clear hs2 HT hs3
  go_wp2_with fail
  generalize hbt : w2.heap.size = bt at H2 ⊢
  clear hbt
  go_loopw [7] (fun c wr => ∃ i : Nat, i ≤ ls.length ∧ c = .int .i64 i ∧ ∃ t : Tale, Hid (TaleB i t) ∧ Hid (S w0 wr (blk bt 24 [.pointer (some ⟨b, 0, none⟩)] :: tale2 b be t :: []))) (fun c _ => ls.length - (intOf c).toNat)
  case atStart => exact ⟨0, Nat.zero_le _, rfl, _, hid TaleB.start, H2⟩
  case round =>
    obtain ⟨i, hi, rfl, t, hB, HS0⟩ := hrel
    clear H2
    by_cases hlt : i < ls.length
    · have hp : ls[i]? = some ls[i] := by simp [hlt]
      generalize ls[i] = p at hp
      obtain ⟨bb, oo, rfl, hbb, hcc⟩ := HR.out i p hp
      have hq : ∀ W (M : List HProp), S w0 W (blk bt 24 [.pointer (some ⟨b, 0, none⟩)] :: M) → W.cell? ⟨bt, 0, none⟩ = some (.pointer (some ⟨b, 0, none⟩)) ∧ W.cell? ⟨bb, oo + i * 4, none⟩ = some (.int .i64 p.what) ∧ W.cell? ⟨bb, oo + i * 4 + 1, none⟩ = some (.int .i64 p.level) ∧ W.cell? ⟨bb, oo + i * 4 + 2, none⟩ = some (.int .i64 p.tx) ∧ W.cell? ⟨bb, oo + i * 4 + 3, none⟩ = some (.int .i64 p.key) := fun W M h =>
        ⟨h.blk_cell 0 rfl, (h.1.cell (p := ⟨bb, oo + i * 4 + 0, none⟩) hbb).trans (hcc 0 _ rfl), (h.1.cell (p := ⟨bb, oo + i * 4 + 1, none⟩) hbb).trans (hcc 1 _ rfl), (h.1.cell (p := ⟨bb, oo + i * 4 + 2, none⟩) hbb).trans (hcc 2 _ rfl), (h.1.cell (p := ⟨bb, oo + i * 4 + 3, none⟩) hbb).trans (hcc 3 _ rfl)⟩
      have hd : ∀ W, S w0 W (blk bt 24 [.pointer (some ⟨b, 0, none⟩)] :: tale2 b be t :: []) → Calls Tryz.prog 8 #[.pointer (some ⟨b, 0, none⟩), .agg #[.int .i64 p.what, .int .i64 p.level, .int .i64 p.tx, .int .i64 p.key], .int .i64 (-1)] W fun r w' => r = .returned (.tuple #[]) ∧ S w0 w' (blk bt 24 [.pointer (some ⟨b, 0, none⟩)] :: tale2 b be (t.does p (-1)) :: []) := fun W h =>
        (does_any w0 W b be t p (-1) _ i hE hB.out (by omega) h.swap).mono fun r w' ⟨h1, h2⟩ => ⟨h1, h2.swap⟩
      have HQ := hid hq; have HD := hid hd
      have HB := hid (hB.out.does p (-1))
      clear hq hd hcc hp hB
      go_upto_region 12 with fail
      refine wp_region_held_drew (S := fun w' => w'.cell? ⟨bt, 0, none⟩ = some (.pointer (some ⟨b, 0, none⟩)) ∧ w'.cell? ⟨bb, oo + i * 4, none⟩ = some (.int .i64 p.what) ∧ w'.cell? ⟨bb, oo + i * 4 + 1, none⟩ = some (.int .i64 p.level) ∧ w'.cell? ⟨bb, oo + i * 4 + 2, none⟩ = some (.int .i64 p.tx) ∧ w'.cell? ⟨bb, oo + i * 4 + 3, none⟩ = some (.int .i64 p.key)) (by kernel_rfl) (HQ.out _ _ HS0.out.drew) (fun hHeld => ?_)
      refine wpAnyH_take (i := 0) (v := ?_) rfl (by kernel_rfl) (by kernel_rfl) (by kernel_rfl) (fun _ _ _ h => h) (Or.inl ⟨by rfl, ?_⟩) hHeld ?_
      rotate_left
      · (intro w hSw; (try dsimp only at hSw); go_simp) <;> with_reducible rfl
      try simp only [Act.put, List.setIfInBounds_toArray, List.getElem_toArray, List.getElem_cons_zero, List.getElem_cons_succ, List.set_cons_zero, List.set_cons_succ]
      refine wpAnyH_take (i := 1) (v := ?_) rfl (by kernel_rfl) (by kernel_rfl) (by kernel_rfl) (fun _ _ _ h => h) (Or.inl ⟨by rfl, ?_⟩) hHeld ?_
      rotate_left
      · (intro w hSw; (try dsimp only at hSw); go_simp) <;> with_reducible rfl
      try simp only [Act.put, List.setIfInBounds_toArray, List.getElem_toArray, List.getElem_cons_zero, List.getElem_cons_succ, List.set_cons_zero, List.set_cons_succ]
      refine wpAnyH_take (i := 2) (v := ?_) rfl (by kernel_rfl) (by kernel_rfl) (by kernel_rfl) (fun _ _ _ h => h) (Or.inl ⟨by rfl, ?_⟩) hHeld ?_
      rotate_left
      · (intro w hSw; (try dsimp only at hSw); go_simp) <;> with_reducible rfl
      try simp only [Act.put, List.setIfInBounds_toArray, List.getElem_toArray, List.getElem_cons_zero, List.getElem_cons_succ, List.set_cons_zero, List.set_cons_succ]
      refine wpAnyH_take (i := 3) (v := ?_) rfl (by kernel_rfl) (by kernel_rfl) (by kernel_rfl) (fun _ _ _ h => h) (Or.inl ⟨by rfl, ?_⟩) hHeld ?_
      rotate_left
      · (intro w hSw; (try dsimp only at hSw); go_simp) <;> with_reducible rfl
      try simp only [Act.put, List.setIfInBounds_toArray, List.getElem_toArray, List.getElem_cons_zero, List.getElem_cons_succ, List.set_cons_zero, List.set_cons_succ]
      refine wpAnyH_take (i := 4) (v := ?_) rfl (by kernel_rfl) (by kernel_rfl) (by kernel_rfl) (fun _ _ _ h => h) (Or.inl ⟨by rfl, ?_⟩) hHeld ?_
      rotate_left
      · (intro w hSw; (try dsimp only at hSw); go_simp) <;> with_reducible rfl
      try simp only [Act.put, List.setIfInBounds_toArray, List.getElem_toArray, List.getElem_cons_zero, List.getElem_cons_succ, List.set_cons_zero, List.set_cons_succ]
      have HS := hid HS0.out.drew
      clear hHeld
      refine anyH_world (fun w => Hid (S w0 w _)) HS (fun w1 HS => ?_)
      clear HS0
      refine wpAnyH_ready (rs := [5]) (by kernel_rfl) (by simp) ?_
      refine AllReadyH.cons rfl (fun K hK => ?_) AllReadyH.nil
      go_simp
      go_at_call 8
      with_reducible refine (HD.out _ HS.out).mono ?_
      rintro r w9 ⟨rfl, hs9⟩
      replace HS := hid hs9
      clear hs9
      refine hK.out _ _ (HQ.out _ _ HS.out) (fun _ => ?_)
      clear hK K
      refine wpAnyH_done (by kernel_rfl) ?_ _
      obtain ⟨t2, ht2⟩ : ∃ y, y = t.does p (-1) := ⟨_, rfl⟩
      have hs1 := HS.out
      have hb1 := HB.out
      rw [← ht2] at hs1 hb1
      obtain ⟨bs, k, hk⟩ := hs1.swap.t2_open
      have hm := emoves_any w0 _ bt b be bs k t2 (all (recPs k.vs t2.recs) :: []) _ hb1.ok (hk.conv (by simp only [all]; ac_rfl))
      have HM := hid hm; have HB1 := hid hb1
      clear hs1 hb1 hk hm HS HD HQ HB ht2
      go_wp2_with fail
      with_reducible refine HM.out.mono ?_
      rintro r w5 ⟨rfl, hs5⟩
      have H5 := hid ((S.t2_shut (bs := bs) (k := k) (b := b) (be := be) (t := t2) (L := blk bt 24 [.pointer (some ⟨b, 0, none⟩)] :: []) (hs5.conv (by simp only [all]; ac_rfl))).swap)
      clear hs5 HM
      go_wp2_with fail
      go_roundw
      case rel => exact ⟨i + 1, by omega, by go_num, _, HB1, H5⟩
      case measure => simp [intOf]; omega
    · obtain ⟨bs, k, hk⟩ := HS0.out.swap.t2_open
      have hst := hB.out
      have HK := hid (hk.conv (M := blk bt 24 [.pointer (some ⟨b, 0, none⟩)] :: taleB b be k t :: engP be bs t.e :: all (recPs k.vs t.recs) :: []) (by simp only [all]; ac_rfl))
      obtain ⟨N, hN⟩ : ∃ N, N = i * 1000 + 10 := ⟨_, rfl⟩
      have hNle : N ≤ 90000000 := by omega
      obtain ⟨n, hn⟩ : ∃ n, n = t.e.txs.length := ⟨_, rfl⟩
      have h0 : 0 + t.e.open_ ≤ 6 ∧ OkT N t.e [] ∧ Sure t.e [] ∧ HistOk t.e ∧ t.e.txs.length = n := ⟨by have := hst.ok.six; omega, by rw [hN]; exact hst.ok, hst.law.sure, hst.hist, hn.symm⟩
      have HI := hid h0
      have hn200 : n ≤ 200 := by rw [hn]; exact hst.ok.few
      have HN := hid hn
      have HREC := hid (show t.recs.length = n by rw [hn]; exact hst.law.len)
      clear hk HS0 hB hst h0 hN hn
      go_wp2_with fail
      go_loopw [11] (fun c wq => ∃ (j : Nat) (e : Eng), j ≤ 6 ∧ c = .int .i64 j ∧ Hid (j + e.open_ ≤ 6 ∧ OkT N e [] ∧ Sure e [] ∧ HistOk e ∧ e.txs.length = n) ∧ Hid (S w0 wq (blk bt 24 [.pointer (some ⟨b, 0, none⟩)] :: taleB b be k t :: engP be bs e :: all (recPs k.vs t.recs) :: []))) (fun c _ => 7 - (intOf c).toNat)
      case atStart => exact ⟨0, t.e, by omega, rfl, HI, HK⟩
      case round =>
        clear HI HK
        obtain ⟨j, e, hj, rfl, HI, HK⟩ := hrel
        have hm := emoves_any w0 _ bt b be bs k { t with e := e } (all (recPs k.vs t.recs) :: []) N HI.out.2.1 HK.out
        have hlen : e.txs.length = n := HI.out.2.2.2.2
        have hle := openTo_le e n
        have hopn : 0 < waitTo e n → 0 < openTo e n := fun h => by rw [← hlen] at h ⊢; exact open_if HI.out.2.1 h
        have hsum : openTo e n + waitTo e n = e.open_ := sum_open HI.out.2.1 hlen.symm
        rw [show ({ t with e := e } : Tale).e = e from rfl, hlen] at hm
        rw [hlen] at hle
        obtain ⟨o, ho⟩ : ∃ o, o = openTo e n := ⟨_, rfl⟩
        obtain ⟨v, hv⟩ : ∃ v, v = waitTo e n := ⟨_, rfl⟩
        rw [← ho, ← hv] at hm hle hopn hsum
        have HM := hid hm; have HLEN := hid hlen; have HO := hid ho; have HOPN := hid hopn; have HSUM := hid hsum
        have ho1 := hle.1
        have ho2 := hle.2
        clear hm hle hopn hlen ho hv hsum
        go_wp2_with fail
        with_reducible refine HM.out.mono ?_
        rintro r w5 ⟨rfl, hs5⟩
        have H5 := hid (show S w0 w5 (blk bt 24 [.pointer (some ⟨b, 0, none⟩)] :: taleB b be k t :: engP be bs e :: all (recPs k.vs t.recs) :: []) from hs5)
        clear hs5 HM HK
        by_cases hz : o + v = 0
        · have n1 : (((o : Int) + (v : Int)) == 0) = true := by simp; omega
          have heh := ehist_any w0 w5 be bs e _ N [] HI.out.2.1 hNle H5.out.rot3
          have HEH := hid heh
          have c0 := H5.out.blk_cell 0 rfl
          have c1 := H5.out.swap.tale_see.1.e
          clear heh hz HR HR2 HOPN HSUM HO H5
          go_wp2_with fail
          with_reducible refine HEH.out.mono ?_
          rintro r w6 ⟨v6, rfl, hs6⟩
          obtain ⟨hl, hhl⟩ : ∃ l, l = e.hist := ⟨_, rfl⟩
          rw [← hhl] at hs6
          obtain ⟨ah, ch, rfl, dh, eh, _⟩ := hs6.sl_val
          unfold maxLen at eh
          have hs7 := (hs6.made (enc := encI) (ok := fun _ => True)).conv (M := mp encI (fun _ => True) w6.heap.size (ienc (lastMap (hl.take 0))) :: sl 59 4 (.slice ah hl.length ch) hl.length (fcells opc hl) :: engP be bs e :: taleB b be k t :: blk bt 24 [.pointer (some ⟨b, 0, none⟩)] :: all (recPs k.vs t.recs) :: []) (by simp only [all, List.take_zero, lastMap, List.foldl_nil, ienc, List.map_nil]; ac_rfl)
          have hop : ∀ W (A : HProp) (M : List HProp), S w0 W (A :: sl 59 4 (.slice ah hl.length ch) hl.length (fcells opc hl) :: M) → ∀ (j : Nat) p, hl[j]? = some p → ∃ g o, ah = some ⟨g, o, none⟩ ∧ W.cell? ⟨g, o + j * 4, none⟩ = some (.int .i64 p.tx) ∧ W.cell? ⟨g, o + j * 4 + 1, none⟩ = some (.int .i64 p.key) ∧ W.cell? ⟨g, o + j * 4 + 2, none⟩ = some (.bool p.wr) := fun W A M h j p hp => by
            obtain ⟨a', c', e1, _, _, e4⟩ := h.tail.sl_val
            simp only [Value.slice.injEq] at e1
            obtain ⟨rfl, _, _⟩ := e1
            obtain ⟨g, o, rfl, q1, _⟩ := e4 _ _ (fcells_at opc_length (c := 0) hp rfl)
            obtain ⟨g2, o2, r1, q2, _⟩ := e4 _ _ (fcells_at opc_length (c := 1) hp rfl)
            obtain ⟨g3, o3, r2, q3, _⟩ := e4 _ _ (fcells_at opc_length (c := 2) hp rfl)
            cases r1; cases r2
            exact ⟨g, o, rfl, q1, by rw [Nat.add_assoc]; exact q2, by rw [Nat.add_assoc]; exact q3⟩
          have HOP := hid hop; have H7 := hid hs7
          have HHL := hid hhl
          have hmm := @run_makeMap Tryz.prog
          clear hs6 hs7 hop HEH hhl c0 c1
          go_wp2_with fail
          clear hmm
          generalize w6.heap.size = mb at H7 ⊢
          go_loopw [21] (fun c wq => ∃ q : Nat, q ≤ hl.length ∧ c = .int .i64 q ∧ Hid (S w0 wq (mp encI (fun _ => True) mb (ienc (lastMap (hl.take q))) :: sl 59 4 (.slice ah hl.length ch) hl.length (fcells opc hl) :: engP be bs e :: taleB b be k t :: blk bt 24 [.pointer (some ⟨b, 0, none⟩)] :: all (recPs k.vs t.recs) :: []))) (fun c _ => hl.length - (intOf c).toNat)
          case atStart => exact ⟨0, Nat.zero_le _, rfl, H7⟩
          case round =>
            clear H7
            obtain ⟨q, hq, rfl, H7⟩ := hrel
            by_cases hql : q < hl.length
            · have hp : hl[q]? = some hl[q] := by simp [hql]
              generalize hl[q] = p at hp
              obtain ⟨g, o5, rfl, d0, d1, d2⟩ := HOP.out _ _ _ H7.out q p hp
              have htk : hl.take (q + 1) = hl.take q ++ [p] := by rw [List.take_add_one, hp]; rfl
              have hstep : lastMap (hl.take (q + 1)) = mapStep (lastMap (hl.take q)) p := by rw [htk, lastMap_snoc]
              have hq1 : ∀ W, S w0 W (mp encI (fun _ => True) mb (ienc (lastMap (hl.take q))) :: sl 59 4 (.slice (some ⟨g, o5, none⟩) hl.length ch) hl.length (fcells opc hl) :: engP be bs e :: taleB b be k t :: blk bt 24 [.pointer (some ⟨b, 0, none⟩)] :: all (recPs k.vs t.recs) :: []) → W.cell? ⟨g, o5 + q * 4, none⟩ = some (.int .i64 p.tx) ∧ W.cell? ⟨g, o5 + q * 4 + 1, none⟩ = some (.int .i64 p.key) := fun W h => by
                obtain ⟨g', o', e1, f0, f1, _⟩ := HOP.out _ _ _ h q p hp
                cases e1
                exact ⟨f0, f1⟩
              by_cases hwr : p.wr = true
              · rw [hwr] at d2
                have hm1 : lastMap (hl.take (q + 1)) = mput (lastMap (hl.take q)) p.key p.tx := by rw [hstep]; unfold mapStep; rw [if_pos hwr]
                have hup : ∀ W, S w0 W (mp encI (fun _ => True) mb (ienc (lastMap (hl.take q))) :: sl 59 4 (.slice (some ⟨g, o5, none⟩) hl.length ch) hl.length (fcells opc hl) :: engP be bs e :: taleB b be k t :: blk bt 24 [.pointer (some ⟨b, 0, none⟩)] :: all (recPs k.vs t.recs) :: []) → ∃ w', (Instr.mapUpdate 57 (.map (some mb)) (.int .i64 p.key) (.int .i64 p.tx)).run Tryz.prog W = .ok () w' ∧ S w0 w' (mp encI (fun _ => True) mb (ienc (lastMap (hl.take (q + 1)))) :: sl 59 4 (.slice (some ⟨g, o5, none⟩) hl.length ch) hl.length (fcells opc hl) :: engP be bs e :: taleB b be k t :: blk bt 24 [.pointer (some ⟨b, 0, none⟩)] :: all (recPs k.vs t.recs) :: []) := fun W h => by
                  obtain ⟨w', f1, f2⟩ := h.put Tryz.keyInt Tryz.underlying57 p.key trivial (Sep.encI p.tx)
                  rw [ienc_put, ← hm1] at f2
                  exact ⟨w', f1, f2⟩
                have HQ := hid hq1; have HUP := hid hup; have HS0 := H7
                clear hq1 hup hm1 hwr hstep htk hp
                go_upto_region 36 with fail
                refine region_U (S := fun w' => w'.cell? ⟨g, o5 + q * 4, none⟩ = some (.int .i64 p.tx) ∧ w'.cell? ⟨g, o5 + q * 4 + 1, none⟩ = some (.int .i64 p.key)) (u := 11) (by kernel_rfl) (HQ.out _ HS0.out.drew) (fun hHeld => ?_)
                refine anyU_take (i := 0) (v := ?_) rfl (by kernel_rfl) (fun _ _ _ h => h) (Or.inl ⟨by rfl, ?_⟩) hHeld ?_
                rotate_left
                · (intro w hSw; (try dsimp only at hSw); go_simp) <;> with_reducible rfl
                try simp only [Act.put, List.setIfInBounds_toArray, List.getElem_toArray, List.getElem_cons_zero, List.getElem_cons_succ, List.set_cons_zero, List.set_cons_succ]
                refine anyU_take (i := 1) (v := ?_) rfl (by kernel_rfl) (fun _ _ _ h => h) (Or.inl ⟨by rfl, ?_⟩) hHeld ?_
                rotate_left
                · (intro w hSw; (try dsimp only at hSw); go_simp) <;> with_reducible rfl
                try simp only [Act.put, List.setIfInBounds_toArray, List.getElem_toArray, List.getElem_cons_zero, List.getElem_cons_succ, List.set_cons_zero, List.set_cons_succ]
                refine anyU_take (i := 2) (v := ?_) rfl (by kernel_rfl) (fun _ _ _ h => h) (Or.inl ⟨by rfl, ?_⟩) hHeld ?_
                rotate_left
                · (intro w hSw; (try dsimp only at hSw); go_simp) <;> with_reducible rfl
                try simp only [Act.put, List.setIfInBounds_toArray, List.getElem_toArray, List.getElem_cons_zero, List.getElem_cons_succ, List.set_cons_zero, List.set_cons_succ]
                refine anyU_take (i := 3) (v := ?_) rfl (by kernel_rfl) (fun _ _ _ h => h) (Or.inl ⟨by rfl, ?_⟩) hHeld ?_
                rotate_left
                · (intro w hSw; (try dsimp only at hSw); go_simp) <;> with_reducible rfl
                try simp only [Act.put, List.setIfInBounds_toArray, List.getElem_toArray, List.getElem_cons_zero, List.getElem_cons_succ, List.set_cons_zero, List.set_cons_succ]
                refine anyU_take (i := 4) (v := ?_) rfl (by kernel_rfl) (fun _ _ _ h => h) (Or.inl ⟨by rfl, ?_⟩) hHeld ?_
                rotate_left
                · (intro w hSw; (try dsimp only at hSw); go_simp) <;> with_reducible rfl
                try simp only [Act.put, List.setIfInBounds_toArray, List.getElem_toArray, List.getElem_cons_zero, List.getElem_cons_succ, List.set_cons_zero, List.set_cons_succ]
                refine anyU_take (i := 5) (v := ?_) rfl (by kernel_rfl) (fun _ _ _ h => h) (Or.inl ⟨by rfl, ?_⟩) hHeld ?_
                rotate_left
                · (intro w hSw; (try dsimp only at hSw); go_simp) <;> with_reducible rfl
                try simp only [Act.put, List.setIfInBounds_toArray, List.getElem_toArray, List.getElem_cons_zero, List.getElem_cons_succ, List.set_cons_zero, List.set_cons_succ]
                refine anyU_take (i := 6) (v := ?_) rfl (by kernel_rfl) (fun _ _ _ h => h) (Or.inl ⟨by rfl, ?_⟩) hHeld ?_
                rotate_left
                · (intro w hSw; (try dsimp only at hSw); go_simp) <;> with_reducible rfl
                try simp only [Act.put, List.setIfInBounds_toArray, List.getElem_toArray, List.getElem_cons_zero, List.getElem_cons_succ, List.set_cons_zero, List.set_cons_succ]
                refine anyU_take (i := 7) (v := ?_) rfl (by kernel_rfl) (fun _ _ _ h => h) (Or.inl ⟨by rfl, ?_⟩) hHeld ?_
                rotate_left
                · (intro w hSw; (try dsimp only at hSw); go_simp) <;> with_reducible rfl
                try simp only [Act.put, List.setIfInBounds_toArray, List.getElem_toArray, List.getElem_cons_zero, List.getElem_cons_succ, List.set_cons_zero, List.set_cons_succ]
                refine anyU_take (i := 8) (v := ?_) rfl (by kernel_rfl) (fun _ _ _ h => h) (Or.inl ⟨by rfl, ?_⟩) hHeld ?_
                rotate_left
                · (intro w hSw; (try dsimp only at hSw); go_simp) <;> with_reducible rfl
                try simp only [Act.put, List.setIfInBounds_toArray, List.getElem_toArray, List.getElem_cons_zero, List.getElem_cons_succ, List.set_cons_zero, List.set_cons_succ]
                refine anyU_take (i := 9) (v := ?_) rfl (by kernel_rfl) (fun _ _ _ h => h) (Or.inl ⟨by rfl, ?_⟩) hHeld ?_
                rotate_left
                · (intro w hSw; (try dsimp only at hSw); go_simp) <;> with_reducible rfl
                try simp only [Act.put, List.setIfInBounds_toArray, List.getElem_toArray, List.getElem_cons_zero, List.getElem_cons_succ, List.set_cons_zero, List.set_cons_succ]
                refine anyU_take (i := 10) (v := ?_) rfl (by kernel_rfl) (fun _ _ _ h => h) (Or.inl ⟨by rfl, ?_⟩) hHeld ?_
                rotate_left
                · (intro w hSw; (try dsimp only at hSw); go_simp) <;> with_reducible rfl
                try simp only [Act.put, List.setIfInBounds_toArray, List.getElem_toArray, List.getElem_cons_zero, List.getElem_cons_succ, List.set_cons_zero, List.set_cons_succ]
                have HS := hid HS0.out.drew
                clear hHeld
                refine anyU_world (fun w => Hid (S w0 w _)) HS (fun w1 HS => ?_)
                clear HS0
                refine anyU_next (rs := [11]) (by kernel_rfl) (by simp) ?_
                refine NextU.cons rfl (fun K hK => ?_) NextU.nil
                refine step_mapuE rfl 57 (.tmp 142) (.tmp 147) (.tmp 152) rfl (by rfl) (by rfl) (by rfl) (HUP.out _ HS.out) ?_
                intro w5 hs5
                have H6 := hid hs5
                clear hs5
                refine hK.out _ _ (fun h => Bool.noConfusion (show true = false from h)) ?_
                clear hK K
                try simp only [Act.put, List.setIfInBounds_toArray, List.getElem_toArray, List.getElem_cons_zero, List.getElem_cons_succ, List.set_cons_zero, List.set_cons_succ]
                refine anyU_done (by kernel_rfl) ?_ _
                go_wp2_with fail
                go_roundw
                case rel => exact ⟨q + 1, by omega, by go_num, H6⟩
                case measure => simp [intOf]; omega
              · have hwf : p.wr = false := by simpa using hwr
                rw [hwf] at d2
                have hm1 : lastMap (hl.take (q + 1)) = lastMap (hl.take q) := by rw [hstep]; unfold mapStep; rw [if_neg hwr]
                have H8 := hid (show S w0 _ (mp encI (fun _ => True) mb (ienc (lastMap (hl.take (q + 1)))) :: sl 59 4 (.slice (some ⟨g, o5, none⟩) hl.length ch) hl.length (fcells opc hl) :: engP be bs e :: taleB b be k t :: blk bt 24 [.pointer (some ⟨b, 0, none⟩)] :: all (recPs k.vs t.recs) :: []) by rw [hm1]; exact H7.out)
                clear hq1 hm1 hwr hwf hstep htk hp H7
                go_wp2_with fail
                go_roundw
                case rel => exact ⟨q + 1, by omega, by go_num, H8⟩
                case measure => simp [intOf]; omega
            · obtain rfl : q = hl.length := by omega
              have h7 := H7.out
              rw [List.take_length] at h7
              obtain ⟨D, hD⟩ : ∃ D, D = lastMap hl := ⟨_, rfl⟩
              rw [← hD] at h7
              obtain ⟨al, hal⟩ : ∃ l, l = e.allV := ⟨_, rfl⟩
              have hlD : D.length = al.length := by rw [hD, hal, HHL.out]; exact HI.out.2.2.2.1.len.symm
              have heach : ∀ p ∈ al, ∃ i : Nat, mget D p.1 = some ((i : Int) + 1) ∧ i < e.txs.length ∧ (e.tx i).state = 2 ∧ ofL (e.tx i).written p.1 = p.2 := by rw [hD, hal, HHL.out]; exact HI.out.2.2.2.1.each HI.out.2.1
              have hav := eall_any w0 _ be bs e _ N [] HI.out.2.1 h7.rot3
              rw [← hal] at hav
              obtain ⟨X, hX⟩ : ∃ X, X = all (sl 59 4 (.slice ah hl.length ch) hl.length (fcells opc hl) :: all (recPs k.vs t.recs) :: []) := ⟨_, rfl⟩
              have c0 := h7.rot4.tail.tail.tail.tail.blk_cell 0 rfl
              have c1 := h7.tail.tail.tail.tale_see.1.e
              have HAV := hid hav; have HEACH := hid heach; have HLD := hid hlD; have HX := hid hX
              clear h7 hD hal hlD heach hav hX H7 HOP HHL
              go_wp2_with fail
              with_reducible refine HAV.out.mono ?_
              rintro r w8 ⟨v8, rfl, hs8⟩
              obtain ⟨aa, ca, rfl, da, ea, _⟩ := hs8.sl_val
              unfold maxLen at ea
              have hs9 : S w0 w8 (mp encI (fun _ => True) mb (ienc D) :: sl 44 2 (.slice aa al.length ca) al.length (pcells al) :: engP be bs e :: taleB b be k t :: blk bt 24 [.pointer (some ⟨b, 0, none⟩)] :: X :: []) := hs8.conv (by rw [HX.out]; simp only [all, sep_emp]; ac_rfl)
              have hlen := Tryz.lenI hs9.mapAt
              rw [HLD.out] at hlen
              have H9 := hid hs9
              clear hs8 hs9 HAV c0 c1
              go_wp2_with fail
              clear hlen
              go_loopw [23] (fun c wq => ∃ q : Nat, q ≤ al.length ∧ c = .int .i64 q ∧ Hid (S w0 wq (mp encI (fun _ => True) mb (ienc D) :: sl 44 2 (.slice aa al.length ca) al.length (pcells al) :: engP be bs e :: taleB b be k t :: blk bt 24 [.pointer (some ⟨b, 0, none⟩)] :: X :: []))) (fun c _ => al.length - (intOf c).toNat)
              case atStart => exact ⟨0, Nat.zero_le _, rfl, H9⟩
              case round =>
                clear H9
                obtain ⟨q, hq, rfl, H9⟩ := hrel
                by_cases hql : q < al.length
                · have hp : al[q]? = some al[q] := by simp [hql]
                  generalize al[q] = p at hp
                  obtain ⟨i1, hi1, hi1e, hi1s, hi1o⟩ := HEACH.out p (List.mem_of_getElem? hp)
                  obtain ⟨g, o5, rfl, _, _, _⟩ := H9.out.swap.sl_pair hp
                  have hq1 : ∀ W (M : List HProp), S w0 W (mp encI (fun _ => True) mb (ienc D) :: sl 44 2 (.slice (some ⟨g, o5, none⟩) al.length ca) al.length (pcells al) :: engP be bs e :: taleB b be k t :: blk bt 24 [.pointer (some ⟨b, 0, none⟩)] :: M) → W.cell? ⟨bt, 0, none⟩ = some (.pointer (some ⟨b, 0, none⟩)) ∧ W.cell? ⟨b, 0, none⟩ = some (.pointer (some ⟨be, 0, none⟩)) ∧ W.cell? ⟨g, o5 + q * 2, none⟩ = some (.int .i64 p.1) ∧ W.cell? ⟨g, o5 + q * 2 + 1, none⟩ = some (.int .i64 p.2) ∧ (Instr.lookup 57 (.map (some mb)) (.int .i64 p.1) false).run Tryz.prog W = .ok (.int .i64 ((i1 : Int) + 1)) W := fun W M h => by
                    obtain ⟨g', o', e1, _, f0, f1⟩ := h.swap.sl_pair hp
                    cases e1
                    have lk := Tryz.look1 h.mapAt p.1
                    rw [hi1] at lk
                    exact ⟨h.tail.tail.tail.tail.blk_cell 0 rfl, h.tail.tail.tail.tale_see.1.e, f0, f1, lk⟩
                  have hwr : ∀ W, S w0 W (mp encI (fun _ => True) mb (ienc D) :: sl 44 2 (.slice (some ⟨g, o5, none⟩) al.length ca) al.length (pcells al) :: engP be bs e :: taleB b be k t :: blk bt 24 [.pointer (some ⟨b, 0, none⟩)] :: X :: []) → Calls Tryz.prog 10 #[.pointer (some ⟨be, 0, none⟩), .int .i64 ((i1 : Int) + 1)] W fun r w' => ∃ aw cw, r = .returned (.tuple #[.slice aw (e.tx i1).written.length cw, .nilIface]) ∧ (e.tx i1).written.length ≤ cw ∧ cw ≤ maxLen ∧ S w0 w' (mp encI (fun _ => True) mb (ienc D) :: sl 44 2 (.slice (some ⟨g, o5, none⟩) al.length ca) al.length (pcells al) :: engP be bs e :: taleB b be k t :: blk bt 24 [.pointer (some ⟨b, 0, none⟩)] :: sl 44 2 (.slice aw (e.tx i1).written.length cw) (e.tx i1).written.length (pcells (e.tx i1).written) :: X :: []) := fun W h => by
                    have hc := ewrites_any w0 W be bs e ((i1 : Int) + 1) _ N [] HI.out.2.1 h.rot3
                    rw [writes_at hi1e] at hc
                    dsimp only at hc
                    rw [errV_0] at hc
                    refine hc.mono ?_
                    rintro r w' ⟨v', rfl, hs'⟩
                    obtain ⟨aw, cw, rfl, dw, ew, _⟩ := hs'.sl_val
                    exact ⟨aw, cw, rfl, dw, ew, hs'.conv (by simp only [all]; ac_rfl)⟩
                  have HQ := hid hq1; have HW := hid hwr; have HS0 := H9
                  clear hq1 hwr hp H9 HEACH
                  go_upto_region 43 with fail
                  refine wp_region_held_drew (S := fun w' => w'.cell? ⟨bt, 0, none⟩ = some (.pointer (some ⟨b, 0, none⟩)) ∧ w'.cell? ⟨b, 0, none⟩ = some (.pointer (some ⟨be, 0, none⟩)) ∧ w'.cell? ⟨g, o5 + q * 2, none⟩ = some (.int .i64 p.1) ∧ w'.cell? ⟨g, o5 + q * 2 + 1, none⟩ = some (.int .i64 p.2) ∧ (Instr.lookup 57 (.map (some mb)) (.int .i64 p.1) false).run Tryz.prog w' = .ok (.int .i64 ((i1 : Int) + 1)) w') (by kernel_rfl) (HQ.out _ _ HS0.out.drew) (fun hHeld => ?_)
                  refine wpAnyH_take (i := 0) (v := ?_) rfl (by kernel_rfl) (by kernel_rfl) (by kernel_rfl) (fun _ _ _ h => h) (Or.inl ⟨by rfl, ?_⟩) hHeld ?_
                  rotate_left
                  · (intro w hSw; (try dsimp only at hSw); go_simp) <;> with_reducible rfl
                  try simp only [Act.put, List.setIfInBounds_toArray, List.getElem_toArray, List.getElem_cons_zero, List.getElem_cons_succ, List.set_cons_zero, List.set_cons_succ]
                  refine wpAnyH_take (i := 1) (v := ?_) rfl (by kernel_rfl) (by kernel_rfl) (by kernel_rfl) (fun _ _ _ h => h) (Or.inl ⟨by rfl, ?_⟩) hHeld ?_
                  rotate_left
                  · (intro w hSw; (try dsimp only at hSw); go_simp) <;> with_reducible rfl
                  try simp only [Act.put, List.setIfInBounds_toArray, List.getElem_toArray, List.getElem_cons_zero, List.getElem_cons_succ, List.set_cons_zero, List.set_cons_succ]
                  refine wpAnyH_take (i := 2) (v := ?_) rfl (by kernel_rfl) (by kernel_rfl) (by kernel_rfl) (fun _ _ _ h => h) (Or.inl ⟨by rfl, ?_⟩) hHeld ?_
                  rotate_left
                  · (intro w hSw; (try dsimp only at hSw); go_simp) <;> with_reducible rfl
                  try simp only [Act.put, List.setIfInBounds_toArray, List.getElem_toArray, List.getElem_cons_zero, List.getElem_cons_succ, List.set_cons_zero, List.set_cons_succ]
                  refine wpAnyH_take (i := 3) (v := ?_) rfl (by kernel_rfl) (by kernel_rfl) (by kernel_rfl) (fun _ _ _ h => h) (Or.inl ⟨by rfl, ?_⟩) hHeld ?_
                  rotate_left
                  · (intro w hSw; (try dsimp only at hSw); go_simp) <;> with_reducible rfl
                  try simp only [Act.put, List.setIfInBounds_toArray, List.getElem_toArray, List.getElem_cons_zero, List.getElem_cons_succ, List.set_cons_zero, List.set_cons_succ]
                  refine wpAnyH_take (i := 4) (v := ?_) rfl (by kernel_rfl) (by kernel_rfl) (by kernel_rfl) (fun _ _ _ h => h) (Or.inl ⟨by rfl, ?_⟩) hHeld ?_
                  rotate_left
                  · (intro w hSw; (try dsimp only at hSw); go_simp) <;> with_reducible rfl
                  try simp only [Act.put, List.setIfInBounds_toArray, List.getElem_toArray, List.getElem_cons_zero, List.getElem_cons_succ, List.set_cons_zero, List.set_cons_succ]
                  refine wpAnyH_take (i := 5) (v := ?_) rfl (by kernel_rfl) (by kernel_rfl) (by kernel_rfl) (fun _ _ _ h => h) (Or.inl ⟨by rfl, ?_⟩) hHeld ?_
                  rotate_left
                  · (intro w hSw; (try dsimp only at hSw); go_simp) <;> with_reducible rfl
                  try simp only [Act.put, List.setIfInBounds_toArray, List.getElem_toArray, List.getElem_cons_zero, List.getElem_cons_succ, List.set_cons_zero, List.set_cons_succ]
                  refine wpAnyH_take (i := 6) (v := ?_) rfl (by kernel_rfl) (by kernel_rfl) (by kernel_rfl) (fun _ _ _ h => h) (Or.inl ⟨by rfl, ?_⟩) hHeld ?_
                  rotate_left
                  · (intro w hSw; (try dsimp only at hSw); go_simp) <;> with_reducible rfl
                  try simp only [Act.put, List.setIfInBounds_toArray, List.getElem_toArray, List.getElem_cons_zero, List.getElem_cons_succ, List.set_cons_zero, List.set_cons_succ]
                  refine wpAnyH_take (i := 7) (v := ?_) rfl (by kernel_rfl) (by kernel_rfl) (by kernel_rfl) (fun _ _ _ h => h) (Or.inl ⟨by rfl, ?_⟩) hHeld ?_
                  rotate_left
                  · (intro w hSw; (try dsimp only at hSw); go_simp) <;> with_reducible rfl
                  try simp only [Act.put, List.setIfInBounds_toArray, List.getElem_toArray, List.getElem_cons_zero, List.getElem_cons_succ, List.set_cons_zero, List.set_cons_succ]
                  refine wpAnyH_take (i := 8) (v := ?_) rfl (by kernel_rfl) (by kernel_rfl) (by kernel_rfl) (fun _ _ _ h => h) (Or.inl ⟨by rfl, ?_⟩) hHeld ?_
                  rotate_left
                  · (intro w hSw; (try dsimp only at hSw); go_simp) <;> with_reducible rfl
                  try simp only [Act.put, List.setIfInBounds_toArray, List.getElem_toArray, List.getElem_cons_zero, List.getElem_cons_succ, List.set_cons_zero, List.set_cons_succ]
                  refine wpAnyH_take (i := 9) (v := ?_) rfl (by kernel_rfl) (by kernel_rfl) (by kernel_rfl) (fun _ _ _ h => h) (Or.inl ⟨by rfl, ?_⟩) hHeld ?_
                  rotate_left
                  · (intro w hSw; (try dsimp only at hSw); go_simp) <;> with_reducible rfl
                  try simp only [Act.put, List.setIfInBounds_toArray, List.getElem_toArray, List.getElem_cons_zero, List.getElem_cons_succ, List.set_cons_zero, List.set_cons_succ]
                  refine wpAnyH_take (i := 10) (v := ?_) rfl (by kernel_rfl) (by kernel_rfl) (by kernel_rfl) (fun _ _ _ h => h) (Or.inl ⟨by rfl, ?_⟩) hHeld ?_
                  rotate_left
                  · (intro w hSw; (try dsimp only at hSw); go_simp) <;> with_reducible rfl
                  try simp only [Act.put, List.setIfInBounds_toArray, List.getElem_toArray, List.getElem_cons_zero, List.getElem_cons_succ, List.set_cons_zero, List.set_cons_succ]
                  have HS := hid HS0.out.drew
                  clear hHeld
                  refine anyH_world (fun w => Hid (S w0 w _)) HS (fun w1 HS => ?_)
                  clear HS0
                  refine wpAnyH_ready (rs := [11]) (by kernel_rfl) (by simp) ?_
                  refine AllReadyH.cons rfl (fun K hK => ?_) AllReadyH.nil
                  go_simp
                  go_at_call 10
                  with_reducible refine (HW.out _ HS.out).mono ?_
                  rintro r w9 ⟨aw, cw, rfl, dw, ew, hs9⟩
                  unfold maxLen at ew
                  replace HS := hid hs9
                  clear hs9
                  refine hK.out _ _ (HQ.out _ _ HS.out) (fun _ => ?_)
                  clear hK K
                  refine wpAnyH_take (i := 12) (v := ?_) rfl (by kernel_rfl) (by kernel_rfl) (by kernel_rfl) (fun _ _ _ h => h) (Or.inl ⟨by rfl, ?_⟩) (HQ.out _ _ HS.out) ?_
                  rotate_left
                  · (intro w hSw; (try dsimp only at hSw); go_simp) <;> with_reducible rfl
                  try simp only [Act.put, List.setIfInBounds_toArray, List.getElem_toArray, List.getElem_cons_zero, List.getElem_cons_succ, List.set_cons_zero, List.set_cons_succ]
                  refine wpAnyH_take (i := 13) (v := ?_) rfl (by kernel_rfl) (by kernel_rfl) (by kernel_rfl) (fun _ _ _ h => h) (Or.inl ⟨by rfl, ?_⟩) (HQ.out _ _ HS.out) ?_
                  rotate_left
                  · (intro w hSw; (try dsimp only at hSw); go_simp) <;> with_reducible rfl
                  try simp only [Act.put, List.setIfInBounds_toArray, List.getElem_toArray, List.getElem_cons_zero, List.getElem_cons_succ, List.set_cons_zero, List.set_cons_succ]
                  refine wpAnyH_take (i := 14) (v := ?_) rfl (by kernel_rfl) (by kernel_rfl) (by kernel_rfl) (fun _ _ _ h => h) (Or.inl ⟨by rfl, ?_⟩) (HQ.out _ _ HS.out) ?_
                  rotate_left
                  · (intro w hSw; (try dsimp only at hSw); go_simp) <;> with_reducible rfl
                  try simp only [Act.put, List.setIfInBounds_toArray, List.getElem_toArray, List.getElem_cons_zero, List.getElem_cons_succ, List.set_cons_zero, List.set_cons_succ]
                  refine wpAnyH_take (i := 15) (v := ?_) rfl (by kernel_rfl) (by kernel_rfl) (by kernel_rfl) (fun _ _ _ h => h) (Or.inl ⟨by rfl, ?_⟩) (HQ.out _ _ HS.out) ?_
                  rotate_left
                  · (intro w hSw; (try dsimp only at hSw); go_simp) <;> with_reducible rfl
                  try simp only [Act.put, List.setIfInBounds_toArray, List.getElem_toArray, List.getElem_cons_zero, List.getElem_cons_succ, List.set_cons_zero, List.set_cons_succ]
                  refine wpAnyH_take (i := 16) (v := ?_) rfl (by kernel_rfl) (by kernel_rfl) (by kernel_rfl) (fun _ _ _ h => h) (Or.inl ⟨by rfl, ?_⟩) (HQ.out _ _ HS.out) ?_
                  rotate_left
                  · (intro w hSw; (try dsimp only at hSw); go_simp) <;> with_reducible rfl
                  try simp only [Act.put, List.setIfInBounds_toArray, List.getElem_toArray, List.getElem_cons_zero, List.getElem_cons_succ, List.set_cons_zero, List.set_cons_succ]
                  refine wpAnyH_done (by kernel_rfl) ?_ _
                  have hof : ∀ W, S w0 W (mp encI (fun _ => True) mb (ienc D) :: sl 44 2 (.slice (some ⟨g, o5, none⟩) al.length ca) al.length (pcells al) :: engP be bs e :: taleB b be k t :: blk bt 24 [.pointer (some ⟨b, 0, none⟩)] :: sl 44 2 (.slice aw (e.tx i1).written.length cw) (e.tx i1).written.length (pcells (e.tx i1).written) :: X :: []) → Calls Tryz.prog 11 #[.slice aw (e.tx i1).written.length cw, .int .i64 p.1] W fun r w' => r = .returned (.int .i64 p.2) ∧ W = w' := fun W h => by
                    have hc := of_any w0 W _ (e.tx i1).written p.1 _ (h.conv (M := sl 44 2 (.slice aw (e.tx i1).written.length cw) (e.tx i1).written.length (pcells (e.tx i1).written) :: mp encI (fun _ => True) mb (ienc D) :: sl 44 2 (.slice (some ⟨g, o5, none⟩) al.length ca) al.length (pcells al) :: engP be bs e :: taleB b be k t :: blk bt 24 [.pointer (some ⟨b, 0, none⟩)] :: X :: []) (by simp only [all]; ac_rfl)) RdK.own
                    rw [hi1o] at hc
                    exact hc
                  have hco : ∀ W, S w0 W (mp encI (fun _ => True) mb (ienc D) :: sl 44 2 (.slice (some ⟨g, o5, none⟩) al.length ca) al.length (pcells al) :: engP be bs e :: taleB b be k t :: blk bt 24 [.pointer (some ⟨b, 0, none⟩)] :: sl 44 2 (.slice aw (e.tx i1).written.length cw) (e.tx i1).written.length (pcells (e.tx i1).written) :: X :: []) → Calls Tryz.prog 9 #[.pointer (some ⟨b, 0, none⟩), .int .i64 i1] W fun r w' => r = .returned (.bool true) ∧ S w0 w' (mp encI (fun _ => True) mb (ienc D) :: sl 44 2 (.slice (some ⟨g, o5, none⟩) al.length ca) al.length (pcells al) :: engP be bs e :: taleB b be k t :: blk bt 24 [.pointer (some ⟨b, 0, none⟩)] :: sl 44 2 (.slice aw (e.tx i1).written.length cw) (e.tx i1).written.length (pcells (e.tx i1).written) :: X :: []) := fun W h => by
                    have hc := committedK_any w0 W b be bs k { t with e := e } i1 (mp encI (fun _ => True) mb (ienc D) :: sl 44 2 (.slice (some ⟨g, o5, none⟩) al.length ca) al.length (pcells al) :: blk bt 24 [.pointer (some ⟨b, 0, none⟩)] :: sl 44 2 (.slice aw (e.tx i1).written.length cw) (e.tx i1).written.length (pcells (e.tx i1).written) :: sl 59 4 (.slice ah hl.length ch) hl.length (fcells opc hl) :: []) hi1e (by show e.txs.length ≤ 1000; rw [HLEN.out]; omega) (h.conv (by rw [HX.out]; simp only [all, sep_emp]; show _ = sep (taleB b be k t) _; ac_rfl))
                    have hd : decide ((({ t with e := e } : Tale).e.tx i1).state = 2) = true := by simpa using hi1s
                    rw [hd] at hc
                    exact hc.mono fun r w' ⟨h1, h2⟩ => ⟨h1, h2.conv (by rw [HX.out]; simp only [all, sep_emp]; show sep (taleB b be k t) _ = _; ac_rfl)⟩
                  have HOF := hid hof; have HCO := hid hco; have HS0 := HS
                  have hw1 : (i1 : Int) + 1 - 1 = i1 := by omega
                  have hi1b : i1 < 200 := by rw [HLEN.out] at hi1e; omega
                  have hw2 : IntKind.i64.wrap (i1 : Int) = (i1 : Int) := IntWalk.i64_in _ (by omega)
                  have H1 := hid hi1; have H2 := hid hi1e
                  clear hof hco HS hi1 hi1s hi1o HW hi1e
                  go_upto_region 44 with fail
                  refine wp_region_held_drew (S := fun w' => w'.cell? ⟨bt, 0, none⟩ = some (.pointer (some ⟨b, 0, none⟩)) ∧ w'.cell? ⟨b, 0, none⟩ = some (.pointer (some ⟨be, 0, none⟩)) ∧ w'.cell? ⟨g, o5 + q * 2, none⟩ = some (.int .i64 p.1) ∧ w'.cell? ⟨g, o5 + q * 2 + 1, none⟩ = some (.int .i64 p.2) ∧ (Instr.lookup 57 (.map (some mb)) (.int .i64 p.1) false).run Tryz.prog w' = .ok (.int .i64 ((i1 : Int) + 1)) w') (by kernel_rfl) (HQ.out _ _ HS0.out.drew) (fun hHeld => ?_)
                  refine wpAnyH_take (i := 0) (v := ?_) rfl (by kernel_rfl) (by kernel_rfl) (by kernel_rfl) (fun _ _ _ h => h) (Or.inl ⟨by rfl, ?_⟩) hHeld ?_
                  rotate_left
                  · (intro w hSw; (try dsimp only at hSw); go_simp) <;> with_reducible rfl
                  try simp only [Act.put, List.setIfInBounds_toArray, List.getElem_toArray, List.getElem_cons_zero, List.getElem_cons_succ, List.set_cons_zero, List.set_cons_succ]
                  refine wpAnyH_take (i := 1) (v := ?_) rfl (by kernel_rfl) (by kernel_rfl) (by kernel_rfl) (fun _ _ _ h => h) (Or.inl ⟨by rfl, ?_⟩) hHeld ?_
                  rotate_left
                  · (intro w hSw; (try dsimp only at hSw); go_simp) <;> with_reducible rfl
                  try simp only [Act.put, List.setIfInBounds_toArray, List.getElem_toArray, List.getElem_cons_zero, List.getElem_cons_succ, List.set_cons_zero, List.set_cons_succ]
                  refine wpAnyH_take (i := 2) (v := ?_) rfl (by kernel_rfl) (by kernel_rfl) (by kernel_rfl) (fun _ _ _ h => h) (Or.inl ⟨by rfl, ?_⟩) hHeld ?_
                  rotate_left
                  · (intro w hSw; (try dsimp only at hSw); go_simp) <;> with_reducible rfl
                  try simp only [Act.put, List.setIfInBounds_toArray, List.getElem_toArray, List.getElem_cons_zero, List.getElem_cons_succ, List.set_cons_zero, List.set_cons_succ]
                  refine wpAnyH_take (i := 3) (v := ?_) rfl (by kernel_rfl) (by kernel_rfl) (by kernel_rfl) (fun _ _ _ h => h) (Or.inl ⟨by rfl, ?_⟩) hHeld ?_
                  rotate_left
                  · (intro w hSw; (try dsimp only at hSw); go_simp) <;> with_reducible rfl
                  try simp only [Act.put, List.setIfInBounds_toArray, List.getElem_toArray, List.getElem_cons_zero, List.getElem_cons_succ, List.set_cons_zero, List.set_cons_succ]
                  refine wpAnyH_take (i := 4) (v := ?_) rfl (by kernel_rfl) (by kernel_rfl) (by kernel_rfl) (fun _ _ _ h => h) (Or.inl ⟨by rfl, ?_⟩) hHeld ?_
                  rotate_left
                  · (intro w hSw; (try dsimp only at hSw); go_simp) <;> with_reducible rfl
                  try simp only [Act.put, List.setIfInBounds_toArray, List.getElem_toArray, List.getElem_cons_zero, List.getElem_cons_succ, List.set_cons_zero, List.set_cons_succ]
                  refine wpAnyH_take (i := 5) (v := ?_) rfl (by kernel_rfl) (by kernel_rfl) (by kernel_rfl) (fun _ _ _ h => h) (Or.inl ⟨by rfl, ?_⟩) hHeld ?_
                  rotate_left
                  · (intro w hSw; (try dsimp only at hSw); go_simp) <;> with_reducible rfl
                  try simp only [Act.put, List.setIfInBounds_toArray, List.getElem_toArray, List.getElem_cons_zero, List.getElem_cons_succ, List.set_cons_zero, List.set_cons_succ]
                  refine wpAnyH_take (i := 6) (v := ?_) rfl (by kernel_rfl) (by kernel_rfl) (by kernel_rfl) (fun _ _ _ h => h) (Or.inl ⟨by rfl, ?_⟩) hHeld ?_
                  rotate_left
                  · (intro w hSw; (try dsimp only at hSw); go_simp) <;> with_reducible rfl
                  try simp only [Act.put, List.setIfInBounds_toArray, List.getElem_toArray, List.getElem_cons_zero, List.getElem_cons_succ, List.set_cons_zero, List.set_cons_succ]
                  refine wpAnyH_take (i := 7) (v := ?_) rfl (by kernel_rfl) (by kernel_rfl) (by kernel_rfl) (fun _ _ _ h => h) (Or.inl ⟨by rfl, ?_⟩) hHeld ?_
                  rotate_left
                  · (intro w hSw; (try dsimp only at hSw); go_simp) <;> with_reducible rfl
                  try simp only [Act.put, List.setIfInBounds_toArray, List.getElem_toArray, List.getElem_cons_zero, List.getElem_cons_succ, List.set_cons_zero, List.set_cons_succ]
                  refine wpAnyH_take (i := 8) (v := ?_) rfl (by kernel_rfl) (by kernel_rfl) (by kernel_rfl) (fun _ _ _ h => h) (Or.inl ⟨by rfl, ?_⟩) hHeld ?_
                  rotate_left
                  · (intro w hSw; (try dsimp only at hSw); go_simp) <;> with_reducible rfl
                  try simp only [Act.put, List.setIfInBounds_toArray, List.getElem_toArray, List.getElem_cons_zero, List.getElem_cons_succ, List.set_cons_zero, List.set_cons_succ]
                  refine wpAnyH_take (i := 10) (v := ?_) rfl (by kernel_rfl) (by kernel_rfl) (by kernel_rfl) (fun _ _ _ h => h) (Or.inl ⟨by rfl, ?_⟩) hHeld ?_
                  rotate_left
                  · (intro w hSw; (try dsimp only at hSw); go_simp) <;> with_reducible rfl
                  try simp only [Act.put, List.setIfInBounds_toArray, List.getElem_toArray, List.getElem_cons_zero, List.getElem_cons_succ, List.set_cons_zero, List.set_cons_succ]
                  refine wpAnyH_take (i := 11) (v := ?_) rfl (by kernel_rfl) (by kernel_rfl) (by kernel_rfl) (fun _ _ _ h => h) (Or.inl ⟨by rfl, ?_⟩) hHeld ?_
                  rotate_left
                  · (intro w hSw; (try dsimp only at hSw); go_simp) <;> with_reducible rfl
                  try simp only [Act.put, List.setIfInBounds_toArray, List.getElem_toArray, List.getElem_cons_zero, List.getElem_cons_succ, List.set_cons_zero, List.set_cons_succ]
                  refine wpAnyH_take (i := 12) (v := ?_) rfl (by kernel_rfl) (by kernel_rfl) (by kernel_rfl) (fun _ _ _ h => h) (Or.inl ⟨by rfl, ?_⟩) hHeld ?_
                  rotate_left
                  · (intro w hSw; (try dsimp only at hSw); go_simp) <;> with_reducible rfl
                  try simp only [Act.put, List.setIfInBounds_toArray, List.getElem_toArray, List.getElem_cons_zero, List.getElem_cons_succ, List.set_cons_zero, List.set_cons_succ]
                  refine wpAnyH_take (i := 13) (v := ?_) rfl (by kernel_rfl) (by kernel_rfl) (by kernel_rfl) (fun _ _ _ h => h) (Or.inl ⟨by rfl, ?_⟩) hHeld ?_
                  rotate_left
                  · (intro w hSw; (try dsimp only at hSw); go_simp) <;> with_reducible rfl
                  try simp only [Act.put, List.setIfInBounds_toArray, List.getElem_toArray, List.getElem_cons_zero, List.getElem_cons_succ, List.set_cons_zero, List.set_cons_succ]
                  refine wpAnyH_take (i := 14) (v := ?_) rfl (by kernel_rfl) (by kernel_rfl) (by kernel_rfl) (fun _ _ _ h => h) (Or.inl ⟨by rfl, ?_⟩) hHeld ?_
                  rotate_left
                  · (intro w hSw; (try dsimp only at hSw); go_simp) <;> with_reducible rfl
                  try simp only [Act.put, List.setIfInBounds_toArray, List.getElem_toArray, List.getElem_cons_zero, List.getElem_cons_succ, List.set_cons_zero, List.set_cons_succ]
                  have HS := hid HS0.out.drew
                  clear hHeld
                  refine anyH_world (fun w => Hid (S w0 w _)) HS (fun w1 HS => ?_)
                  clear HS0
                  refine wpAnyH_ready (rs := [9]) (by kernel_rfl) (by simp) ?_
                  refine AllReadyH.cons rfl (fun K hK => ?_) AllReadyH.nil
                  go_simp
                  go_at_call 11
                  with_reducible refine (HOF.out _ HS.out).mono ?_
                  rintro r w9 ⟨rfl, rfl⟩
                  refine hK.out _ _ (HQ.out _ _ HS.out) (fun _ => ?_)
                  clear hK K
                  refine wpAnyH_take (i := 15) (v := ?_) rfl (by kernel_rfl) (by kernel_rfl) (by kernel_rfl) (fun _ _ _ h => h) (Or.inl ⟨by rfl, ?_⟩) (HQ.out _ _ HS.out) ?_
                  rotate_left
                  · (intro w hSw; (try dsimp only at hSw); go_simp) <;> with_reducible rfl
                  try simp only [Act.put, List.setIfInBounds_toArray, List.getElem_toArray, List.getElem_cons_zero, List.getElem_cons_succ, List.set_cons_zero, List.set_cons_succ]
                  refine wpAnyH_take (i := 16) (v := ?_) rfl (by kernel_rfl) (by kernel_rfl) (by kernel_rfl) (fun _ _ _ h => h) (Or.inl ⟨by rfl, ?_⟩) (HQ.out _ _ HS.out) ?_
                  rotate_left
                  · (intro w hSw; (try dsimp only at hSw); go_simp) <;> with_reducible rfl
                  try simp only [Act.put, List.setIfInBounds_toArray, List.getElem_toArray, List.getElem_cons_zero, List.getElem_cons_succ, List.set_cons_zero, List.set_cons_succ]
                  refine wpAnyH_take (i := 17) (v := ?_) rfl (by kernel_rfl) (by kernel_rfl) (by kernel_rfl) (fun _ _ _ h => h) (Or.inl ⟨by rfl, ?_⟩) (HQ.out _ _ HS.out) ?_
                  rotate_left
                  · (intro w hSw; (try dsimp only at hSw); go_simp) <;> with_reducible rfl
                  try simp only [Act.put, List.setIfInBounds_toArray, List.getElem_toArray, List.getElem_cons_zero, List.getElem_cons_succ, List.set_cons_zero, List.set_cons_succ]
                  refine wpAnyH_take (i := 18) (v := ?_) rfl (by kernel_rfl) (by kernel_rfl) (by kernel_rfl) (fun _ _ _ h => h) (Or.inl ⟨by rfl, ?_⟩) (HQ.out _ _ HS.out) ?_
                  rotate_left
                  · (intro w hSw; (try dsimp only at hSw); go_simp) <;> with_reducible rfl
                  try simp only [Act.put, List.setIfInBounds_toArray, List.getElem_toArray, List.getElem_cons_zero, List.getElem_cons_succ, List.set_cons_zero, List.set_cons_succ]
                  refine wpAnyH_take (i := 19) (v := ?_) rfl (by kernel_rfl) (by kernel_rfl) (by kernel_rfl) (fun _ _ _ h => h) (Or.inl ⟨by rfl, ?_⟩) (HQ.out _ _ HS.out) ?_
                  rotate_left
                  · (intro w hSw; (try dsimp only at hSw); go_simp) <;> with_reducible rfl
                  try simp only [Act.put, List.setIfInBounds_toArray, List.getElem_toArray, List.getElem_cons_zero, List.getElem_cons_succ, List.set_cons_zero, List.set_cons_succ]
                  refine wpAnyH_take (i := 20) (v := ?_) rfl (by kernel_rfl) (by kernel_rfl) (by kernel_rfl) (fun _ _ _ h => h) (Or.inl ⟨by rfl, ?_⟩) (HQ.out _ _ HS.out) ?_
                  rotate_left
                  · (intro w hSw; (try dsimp only at hSw); go_simp) <;> with_reducible rfl
                  try simp only [Act.put, List.setIfInBounds_toArray, List.getElem_toArray, List.getElem_cons_zero, List.getElem_cons_succ, List.set_cons_zero, List.set_cons_succ]
                  refine wpAnyH_take (i := 21) (v := ?_) rfl (by kernel_rfl) (by kernel_rfl) (by kernel_rfl) (fun _ _ _ h => h) (Or.inl ⟨by rfl, ?_⟩) (HQ.out _ _ HS.out) ?_
                  rotate_left
                  · (intro w hSw; (try dsimp only at hSw); go_simp) <;> with_reducible rfl
                  try simp only [Act.put, List.setIfInBounds_toArray, List.getElem_toArray, List.getElem_cons_zero, List.getElem_cons_succ, List.set_cons_zero, List.set_cons_succ]
                  refine wpAnyH_take (i := 22) (v := ?_) rfl (by kernel_rfl) (by kernel_rfl) (by kernel_rfl) (fun _ _ _ h => h) (Or.inl ⟨by rfl, ?_⟩) (HQ.out _ _ HS.out) ?_
                  rotate_left
                  · (intro w hSw; (try dsimp only at hSw); go_simp) <;> with_reducible rfl
                  try simp only [Act.put, List.setIfInBounds_toArray, List.getElem_toArray, List.getElem_cons_zero, List.getElem_cons_succ, List.set_cons_zero, List.set_cons_succ]
                  refine wpAnyH_take (i := 23) (v := ?_) rfl (by kernel_rfl) (by kernel_rfl) (by kernel_rfl) (fun _ _ _ h => h) (Or.inl ⟨by rfl, ?_⟩) (HQ.out _ _ HS.out) ?_
                  rotate_left
                  · (intro w hSw; (try dsimp only at hSw); go_simp) <;> with_reducible rfl
                  try simp only [Act.put, List.setIfInBounds_toArray, List.getElem_toArray, List.getElem_cons_zero, List.getElem_cons_succ, List.set_cons_zero, List.set_cons_succ]
                  refine wpAnyH_take (i := 24) (v := ?_) rfl (by kernel_rfl) (by kernel_rfl) (by kernel_rfl) (fun _ _ _ h => h) (Or.inl ⟨by rfl, ?_⟩) (HQ.out _ _ HS.out) ?_
                  rotate_left
                  · (intro w hSw; (try dsimp only at hSw); go_simp) <;> with_reducible rfl
                  try simp only [Act.put, List.setIfInBounds_toArray, List.getElem_toArray, List.getElem_cons_zero, List.getElem_cons_succ, List.set_cons_zero, List.set_cons_succ]
                  refine wpAnyH_take (i := 25) (v := ?_) rfl (by kernel_rfl) (by kernel_rfl) (by kernel_rfl) (fun _ _ _ h => h) (Or.inl ⟨by rfl, ?_⟩) (HQ.out _ _ HS.out) ?_
                  rotate_left
                  · (intro w hSw; (try dsimp only at hSw); go_simp) <;> with_reducible rfl
                  try simp only [Act.put, List.setIfInBounds_toArray, List.getElem_toArray, List.getElem_cons_zero, List.getElem_cons_succ, List.set_cons_zero, List.set_cons_succ]
                  refine wpAnyH_take (i := 26) (v := ?_) rfl (by kernel_rfl) (by kernel_rfl) (by kernel_rfl) (fun _ _ _ h => h) (Or.inl ⟨by rfl, ?_⟩) (HQ.out _ _ HS.out) ?_
                  rotate_left
                  · (intro w hSw; (try dsimp only at hSw); go_simp) <;> with_reducible rfl
                  try simp only [Act.put, List.setIfInBounds_toArray, List.getElem_toArray, List.getElem_cons_zero, List.getElem_cons_succ, List.set_cons_zero, List.set_cons_succ]
                  refine wpAnyH_ready (rs := [27]) (by kernel_rfl) (by simp) ?_
                  refine AllReadyH.cons rfl (fun K hK => ?_) AllReadyH.nil
                  go_simp
                  go_at_call 9
                  with_reducible refine (HCO.out _ HS.out).mono ?_
                  rintro r w9 ⟨rfl, hs9⟩
                  replace HS := hid hs9
                  clear hs9
                  refine hK.out _ _ (HQ.out _ _ HS.out) (fun _ => ?_)
                  clear hK K
                  refine wpAnyH_take (i := 28) (v := ?_) rfl (by kernel_rfl) (by kernel_rfl) (by kernel_rfl) (fun _ _ _ h => h) (Or.inl ⟨by rfl, ?_⟩) (HQ.out _ _ HS.out) ?_
                  rotate_left
                  · (intro w hSw; (try dsimp only at hSw); go_simp) <;> with_reducible rfl
                  try simp only [Act.put, List.setIfInBounds_toArray, List.getElem_toArray, List.getElem_cons_zero, List.getElem_cons_succ, List.set_cons_zero, List.set_cons_succ]
                  refine wpAnyH_take (i := 29) (v := ?_) rfl (by kernel_rfl) (by kernel_rfl) (by kernel_rfl) (fun _ _ _ h => h) (Or.inl ⟨by rfl, ?_⟩) (HQ.out _ _ HS.out) ?_
                  rotate_left
                  · (intro w hSw; (try dsimp only at hSw); go_simp) <;> with_reducible rfl
                  try simp only [Act.put, List.setIfInBounds_toArray, List.getElem_toArray, List.getElem_cons_zero, List.getElem_cons_succ, List.set_cons_zero, List.set_cons_succ]
                  refine wpAnyH_done (by kernel_rfl) ?_ _
                  have H10 := hid (HS.out.conv (M := sl 44 2 (.slice aw (e.tx i1).written.length cw) (e.tx i1).written.length (pcells (e.tx i1).written) :: mp encI (fun _ => True) mb (ienc D) :: sl 44 2 (.slice (some ⟨g, o5, none⟩) al.length ca) al.length (pcells al) :: engP be bs e :: taleB b be k t :: blk bt 24 [.pointer (some ⟨b, 0, none⟩)] :: X :: []) (by simp only [all]; ac_rfl)).tail
                  clear HS HOF HCO HQ
                  go_wp2_with fail
                  go_roundw
                  case rel => exact ⟨q + 1, by omega, by go_num, H10⟩
                  case measure => simp [intOf]; omega
                · go_wp2_with fail
                  go_ret
                  exact ⟨rfl, H9.out.1⟩
        · have n1 : (((o : Int) + (v : Int)) == 0) = false := by simp; omega
          have hex : ∃ q, q < n ∧ (e.tx q).state = 0 ∧ ∀ q', q' < q → (e.tx q').state ≠ 0 := first_open (by
            rw [← HO.out]
            by_cases hv : 0 < v
            · exact HOPN.out hv
            · omega) HLEN.out
          obtain ⟨q0, hq0, hqs, hqn⟩ := hex
          have HQS := hid hqs; have HQN := hid hqn
          clear hqs hqn hz
          go_wp2_with fail
          go_loopw [15] (fun c wq => ∃ m : Nat, m ≤ q0 ∧ c = .int .i64 ((m : Int) + 1) ∧ Hid (S w0 wq (blk bt 24 [.pointer (some ⟨b, 0, none⟩)] :: taleB b be k t :: engP be bs e :: all (recPs k.vs t.recs) :: []))) (fun c _ => q0 + 1 - (intOf c).toNat)
          case atStart => exact ⟨0, Nat.zero_le _, rfl, H5⟩
          case round =>
            clear H5
            obtain ⟨m, hm, rfl, H5⟩ := hrel
            have c0 := H5.out.blk_cell 0 rfl
            have c1 := H5.out.swap.tale_see.1.e
            have htx := txs2_any w0 _ be bs e _ H5.out.rot3
            rw [HLEN.out] at htx
            have hst := state2_any w0 _ be bs e ((m : Int) + 1) _ H5.out.rot3
            rw [state_at (by rw [HLEN.out]; omega)] at hst
            dsimp only at hst
            rw [errV_0] at hst
            have HTX := hid htx; have HST := hid hst
            clear htx hst
            go_wp2_with (go_at_call 13; with_reducible refine HTX.out.mono ?_; rintro r w' ⟨rfl, rfl⟩)
            with_reducible refine HST.out.mono ?_
            rintro r w6 ⟨rfl, hs6⟩
            have H6 := hid (hs6.conv (M := blk bt 24 [.pointer (some ⟨b, 0, none⟩)] :: taleB b be k t :: engP be bs e :: all (recPs k.vs t.recs) :: []) (by simp only [all]; ac_rfl))
            clear hs6 HST HTX H5 c0 c1
            have c0 := H6.out.blk_cell 0 rfl
            have c1 := H6.out.swap.tale_see.1.e
            by_cases hs : (e.tx m).state = 0
            · have n0 : ((e.tx m).state == 0) = true := by simpa using hs
              have hmn : m < e.txs.length := by rw [HLEN.out]; omega
              have hcm := ecommit_any w0 w6 be bs e ((m : Int) + 1) _ N hE HI.out.2.1 hNle H6.out.rot3
              have hab := abort_any w0 w6 be bs e ((m : Int) + 1) _ N HI.out.2.1 (by omega) H6.out.rot3
              have hic : j + 1 + (e.commit ((m : Int) + 1)).1.open_ ≤ 6 ∧ OkT N (e.commit ((m : Int) + 1)).1 [] ∧ Sure (e.commit ((m : Int) + 1)).1 [] ∧ HistOk (e.commit ((m : Int) + 1)).1 ∧ (e.commit ((m : Int) + 1)).1.txs.length = n :=
                ⟨by have := commit_open HI.out.2.1 hmn hs; have := HI.out.1; omega, HI.out.2.1.committed _, HI.out.2.2.1.committed HI.out.2.1 _, HI.out.2.2.2.1.committed HI.out.2.2.1 HI.out.2.1 _, by rw [commit_len]; exact HI.out.2.2.2.2⟩
              have hia : j + 1 + (e.abort ((m : Int) + 1)).1.open_ ≤ 6 ∧ OkT N (e.abort ((m : Int) + 1)).1 [] ∧ Sure (e.abort ((m : Int) + 1)).1 [] ∧ HistOk (e.abort ((m : Int) + 1)).1 ∧ (e.abort ((m : Int) + 1)).1.txs.length = n :=
                ⟨by have := abort_open HI.out.2.1 hmn hs; have := HI.out.1; omega, HI.out.2.1.aborted _, HI.out.2.2.1.aborted HI.out.2.1 _, HI.out.2.2.2.1.still (later_abort HI.out.2.1 _) (still_abort HI.out.2.1 _), by rw [abort_len]; exact HI.out.2.2.2.2⟩
              have hj5 : j + 1 ≤ 6 := by omega
              have HCM := hid hcm; have HAB := hid hab; have HIC := hid hic; have HIA := hid hia
              clear hcm hab hic hia hs hmn HI
              by_cases hwn : hw = []
              · have ng : decide ((0 : Int) < (hw.length : Int)) = false := by simp [hwn]
                have ng2 : decide (0 < hw.length) = false := by simp [hwn]
                clear hwn HAB HIA
                go_wp2_with fail
                with_reducible refine HCM.out.mono ?_
                rintro r w7 ⟨rfl, hs7⟩
                have H7 := hid (hs7.conv (M := blk bt 24 [.pointer (some ⟨b, 0, none⟩)] :: taleB b be k t :: engP be bs (e.commit ((m : Int) + 1)).1 :: all (recPs k.vs t.recs) :: []) (by simp only [all]; ac_rfl))
                clear hs7 HCM H6 c0 c1
                go_wp2_with fail
                go_roundw
                case rel => exact ⟨j + 1, _, hj5, by go_num, HIC, H7⟩
                case measure => simp [intOf]; omega
              · have hwl : 0 < hw.length := List.length_pos_iff.2 hwn
                have hql : j % hw.length < hw.length := Nat.mod_lt _ hwl
                have hp2 : hw[j % hw.length]? = some hw[j % hw.length] := by simp [hql]
                generalize hw[j % hw.length] = p2 at hp2
                obtain ⟨b2, o2, rfl, hb2, hc2⟩ := HR2.out _ p2 hp2
                have d0 := (H6.out.1.cell (p := ⟨b2, o2 + j % hw.length * 1 + 0, none⟩) hb2).trans (hc2 0 _ rfl)
                rw [Nat.mul_one, Nat.add_zero] at d0
                have hrem : Int.tmod (j : Int) (hw.length : Int) = ((j % hw.length : Nat) : Int) := by rw [Int.ofNat_tmod]
                have hnz : ((hw.length : Int) == 0) = false := by simp; omega
                have hpk : ∀ W, Calls Tryz.prog 16 #[.int .i64 p2, .int .i64 2] W fun e w' => e = .returned (.int .i64 (pickN p2 2)) ∧ W = w' := fun W => pick_any p2 2 W (by omega) (by omega)
                have HPK := hid hpk
                generalize pickN p2 2 = pk at HPK
                clear hwn hp2 hc2 hpk
                by_cases hpk0 : pk = 0
                · subst hpk0
                  clear HCM HIC
                  go_wp2_with (go_at_call 16; with_reducible refine (HPK.out _).mono ?_; rintro r w' ⟨rfl, rfl⟩)
                  with_reducible refine HAB.out.mono ?_
                  rintro r w7 ⟨rfl, hs7⟩
                  have H7 := hid (hs7.conv (M := blk bt 24 [.pointer (some ⟨b, 0, none⟩)] :: taleB b be k t :: engP be bs (e.abort ((m : Int) + 1)).1 :: all (recPs k.vs t.recs) :: []) (by simp only [all]; ac_rfl))
                  clear hs7 HAB H6 c0 c1 d0
                  go_wp2_with fail
                  go_roundw
                  case rel => exact ⟨j + 1, _, hj5, by go_num, HIA, H7⟩
                  case measure => simp [intOf]; omega
                · have npk : (((pk : Nat) : Int) == 0) = false := by simp; omega
                  clear HAB HIA hpk0
                  go_wp2_with (go_at_call 16; with_reducible refine (HPK.out _).mono ?_; rintro r w' ⟨rfl, rfl⟩)
                  with_reducible refine HCM.out.mono ?_
                  rintro r w7 ⟨rfl, hs7⟩
                  have H7 := hid (hs7.conv (M := blk bt 24 [.pointer (some ⟨b, 0, none⟩)] :: taleB b be k t :: engP be bs (e.commit ((m : Int) + 1)).1 :: all (recPs k.vs t.recs) :: []) (by simp only [all]; ac_rfl))
                  clear hs7 HCM H6 c0 c1 d0
                  go_wp2_with fail
                  go_roundw
                  case rel => exact ⟨j + 1, _, hj5, by go_num, HIC, H7⟩
                  case measure => simp [intOf]; omega
            · have n0 : ((e.tx m).state == 0) = false := by simpa using hs
              have hmq : m < q0 := by
                rcases Nat.lt_or_ge m q0 with h | h
                · exact h
                · obtain rfl : m = q0 := by omega
                  exact absurd HQS.out hs
              clear hs
              go_wp2_with fail
              go_roundw
              case rel => exact ⟨m + 1, by omega, by go_num, H6⟩
              case measure => simp [intOf]; omega
end Go.Proofs.YtcbokjocahnlcaaGreatDoor
namespace Go.Proofs.YtcbokjocahnlcaaGreatDoor.engineMoves
open Go Go.ChangeShapes Go.WideShapes Go.ChangeAt Go.RowKit Go.Sep Go.Deep

theorem cells1 : Tryz.prog.cellsOf 28 = 4 := by kernel_rfl
theorem cells2 : Tryz.prog.cellsOf 3 = 1 := by kernel_rfl
instance : Inhabited Act1 := ⟨⟨0, 0, 0, 0⟩⟩
theorem elem {H : Type} {enc : TypeId × Value → H} {w : World} (cs : List Value) (k : Nat) (y : DataW H × List MemPlace) (h : DataW.trod enc Tryz.prog w 0 (fun _ => true) true k 28 cs = some y) : ∃ p : Act1, acells p = cs := by
  obtain ⟨y0, y1, y2, y3, n, _, hl, g0, g1, g2, g3⟩ := Joins.trod_struct4 Tryz.underlying28 h
  rw [cells1] at hl
  simp only [cells2] at g0 g1 g2 g3
  match cs, hl with
  | [a, b, c, d], _ =>
    obtain ⟨n0, e0, _⟩ := DataW.trod_int Tryz.underlying3 (by simpa using g0)
    obtain ⟨n1, e1, _⟩ := DataW.trod_int Tryz.underlying3 (by simpa using g1)
    obtain ⟨n2, e2, _⟩ := DataW.trod_int Tryz.underlying3 (by simpa using g2)
    obtain ⟨n3, e3, _⟩ := DataW.trod_int Tryz.underlying3 (by simpa using g3)
    simp only [List.cons.injEq, and_true] at e0 e1 e2 e3
    exact ⟨⟨n0, n1, n2, n3⟩, by rw [e0, e1, e2, e3]; rfl⟩
theorem elem1 {H : Type} {enc : TypeId × Value → H} {w : World} (cs : List Value) (k : Nat) (y : DataW H × List MemPlace) (h : DataW.trod enc Tryz.prog w 0 (fun _ => true) true k 3 cs = some y) : ∃ p : Int, icell1 p = cs := by
  obtain ⟨n0, e0, _⟩ := DataW.trod_int Tryz.underlying3 h
  exact ⟨n0, by rw [e0]; rfl⟩

set_option maxRecDepth 100000 in
theorem contract (H : Type) (enc : TypeId × Value → H) (W : World) (base : Nat) (args : Array Value) (ds gs : List (DataW H)) (before : List MemPlace)
    (hval : ∀ (j : Nat) t v, Tryz.f4.params[j]? = some t → args[j]? = some v → Value.okWide Tryz.prog W .any base t v)
    (hW : DataW.Whole enc Tryz.prog Tryz.f4.params.toList Rows.engineMovesSpec.vars false W args.toList ds gs before) (hL : laidMetH Tryz.prog Rows.engineMovesRow.laid W) :
    Calls Tryz.prog 4 args W fun e W' => ∃ v, e = .returned v ∧ Rows.engineMovesSpec.post enc Tryz.prog Tryz.f4 false true false false W args v W' := by
  have hW' := hW
  obtain ⟨p, q, hA0, hV, rfl, hfz, hnd⟩ := hW
  have hA : DataW.TrodAll enc Tryz.prog W 0 (fun _ => true) true Tryz.f4.params.toList args.toList ds p := hA0
  rw [Tryz.params4] at hA hval
  obtain ⟨v0, vs0, d0, ds0, p0, q0, hargs, rfl, rfl, h0, r0⟩ := trodAll_cons hA
  obtain ⟨v1, vs1, d1, ds1, p1, q1, rfl, rfl, rfl, h1, r1⟩ := trodAll_cons r0
  obtain ⟨rfl, rfl, rfl⟩ := trodAll_nil r1
  obtain rfl : args = #[v0, v1] := Array.ext' hargs
  obtain ⟨a0, len0, cap0, rfl⟩ := okWide_slice Tryz.underlying22 (hval 0 22 _ rfl rfl)
  obtain ⟨fuel0, hf0⟩ := h0
  obtain ⟨a1, len1, cap1, rfl⟩ := okWide_slice Tryz.underlying30 (hval 1 30 _ rfl rfl)
  obtain ⟨fuel1, hf1⟩ := h1
  clear hA0 hA
  have hE := handle_of_laid hL
  simp only [List.append_nil] at hW'
  obtain ⟨v, ls, hv, hr⟩ := argF_of acells Tryz.underlying22 cells1 (by omega) elem hf0
  obtain ⟨u, hw, hu, hr2⟩ := argF_of icell1 Tryz.underlying30 cells2 (by omega) elem1 hf1
  obtain rfl : Value.slice a0 len0 cap0 = v := by simpa [Value.cells] using hv
  obtain rfl : Value.slice a1 len1 cap1 = u := by simpa [Value.cells] using hu
  refine (emov_any W _ _ ls hw hE hr hr2).mono fun e W' ⟨he, hb⟩ => ⟨_, he, ?_⟩
  exact post_law Tryz.laidOut (by kernel_rfl) (by kernel_rfl) Tryz.underlying4 rfl rfl hW' hb

noncomputable def laidWorld (os : Os) : World :=
  { World.holding Tryz.prog os ⟨#[], #[], []⟩ with heap := (World.holding Tryz.prog os ⟨#[], #[], []⟩).heap.modify 0 fun
      | .cells _ t frozen => .cells #[.iface 156 (.agg #[.pointer (some ⟨1, 39, none⟩)])] t frozen
      | o => o }
theorem laid_met (os : Os) : laidMetH Tryz.prog Rows.engineMovesRow.laid ((laidWorld os).forCall (fun _ _ => 0) ⟨#[], #[.slice none 0 0, .slice none 0 0], []⟩).memory :=
  laidMetH_of_parts (laidMet_nil _ _) (by kernel_rfl)
theorem reads (os : Os) {H : Type} (enc : TypeId × Value → H) : ∃ places, DataW.whole enc Tryz.prog ((laidWorld os).forCall (fun _ _ => 0) ⟨#[], #[.slice none 0 0, .slice none 0 0], []⟩).memory Tryz.f4.params.toList Rows.engineMovesSpec.vars false #[Value.slice none 0 0, .slice none 0 0].toList 8 = some ([.nil, .nil], [], places) :=
  ⟨[], by kernel_rfl⟩

set_option maxRecDepth 100000 in
theorem lifted (os : Os) (started : os.Started) (H : Type) (enc : TypeId × Value → H) (F : Stop.Interp) :
    ReturnsInHanded {} Tryz.checked os 4 .any ((OpenSpec.ofChange Rows.engineMovesSpec).preRow enc Tryz.prog Tryz.f4 Rows.engineMovesRow.domain false Rows.engineMovesRow.laid) (((OpenSpec.ofChange Rows.engineMovesSpec).at F).post enc Tryz.prog Tryz.f4 false true false false) := by
  obtain ⟨places, hx⟩ := reads os enc
  refine returnsInHanded_of_row (C := Tryz.checked) (s := OpenSpec.ofChange Rows.engineMovesSpec) Tryz.own started (by kernel_rfl) Tryz.func4
    (witness_row_at (enc := enc) (C := Tryz.checked) false (laidWorld os) #[.slice none 0 0, .slice none 0 0] rfl (by kernel_rfl) (by kernel_rfl) (by kernel_rfl)
      (OpenSpec.preRow_of_cond 8 hx (by kernel_rfl) (fun k hk => by cases hk) (by kernel_rfl) (laid_met os))) ?_
  intro W base args ds gs before hval hW _ _ _ hL _ _
  exact contract H enc W base args ds gs before hval hW hL

theorem said : Rows.EngineMovesSaid :=
  OpenClaim.holds_of_cond 4 Tryz.f4 rfl rfl rfl rfl rfl rfl rfl ⟨rfl, rfl, rfl, rfl, rfl⟩ rfl rfl rfl rfl rfl (by kernel_rfl) Tryz.func4 (by kernel_rfl)
    (of_decide_eq_true (by kernel_rfl)) (by unfold Func.isWrapper; first | (rw [if_pos (by decide +kernel)]; kernel_rfl) | (rw [if_neg (by decide +kernel)]; exact ⟨rfl, rfl⟩))
    (fun os started H enc _ F => by rw [OpenClaim.pre_eq_preRow]; exact lifted os started H enc F)

theorem plain (f : FuncId) (fn : Func) (hf : Tryz.pinned.checked.prog.funcNamed "interleaf/interleafkeep.EngineMoves" = some f) (hfn : Tryz.pinned.checked.prog.funcs[f]? = some fn) :
    true = Tryz.pinned.checked.prog.looks [] ∧ ∀ (j : Nat) t, fn.params[j]? = some t → Tryz.pinned.checked.prog.wantsStandIn t = false := by
  obtain rfl : f = 4 := Option.some.inj ((show Tryz.prog.funcNamed "interleaf/interleafkeep.EngineMoves" = some 4 by kernel_rfl).symm.trans hf) |>.symm
  obtain rfl : fn = Tryz.f4 := (Option.some.inj (Tryz.func4.symm.trans hfn)).symm
  refine ⟨by kernel_rfl, fun j t ht => ?_⟩
  rw [Tryz.params4] at ht
  have hall : (#[22, 30] : Array Nat).all (fun t => decide (Tryz.prog.wantsStandIn t = false)) = true := by kernel_rfl
  exact (of_decide_eq_true (Array.all_eq_true_iff_forall_mem.1 hall t (Array.mem_of_getElem? ht)) : Tryz.prog.wantsStandIn t = false)

theorem card : Rows.EngineMovesCardSaid :=
  Claim7.holds_tied_plain_at .later [] _ _ _ _ said (fun _ h => by cases h) (by kernel_rfl) (fun _ h => by cases h) engineMoves_row_tie rfl ⟨rfl, rfl⟩ (by kernel_rfl) rfl plain (by kernel_rfl)
end Go.Proofs.YtcbokjocahnlcaaGreatDoor.engineMoves
