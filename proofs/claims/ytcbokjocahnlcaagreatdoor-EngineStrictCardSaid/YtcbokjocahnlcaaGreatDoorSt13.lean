/- Transactions at the same time: how to show what holds through all that one step of an engine brings with it; what stays. No walk in sight. -/
import Derived.Test.YtcbokjocahnlcaaGreatDoorSt0
import Derived.Test.YtcbokjocahnlcaaGreatDoorSt12
import Derived.Test.YtcbokjocahnlcaaGreatDoorSt8
import Derived.Test.YtcbokjocahnlcaaGreatDoorSt7
/- interleafkeep's tale: does, when one of the last few does something: it writes. -/
namespace Go.Proofs.YtcbokjocahnlcaaGreatDoor
open Go Go.RowKit Go.Sep
set_option linter.unusedSimpArgs false in
set_option maxRecDepth 100000 in
set_option maxHeartbeats 16000000 in
theorem does_act2 (w0 w : World) (b be : Nat) (t0 : Tale) (what lvl0 tx0 key0 lv0 : Int) (L : List HProp) (N : Nat) (hwx : what = 2) (hok0 : TaleOk N t0) (hst0 : t0.steps < 1000000) (hw0 : what ≠ 0) (hw5 : what ≠ 5) (hrn : t0.recs ≠ []) (hs : S w0 w (tale2 b be t0 :: L)) :
  Calls Tryz.prog 8 #[.pointer (some ⟨b, 0, none⟩), actV what lvl0 tx0 key0, .int .i64 lv0] w fun r w' => r = .returned (.tuple #[]) ∧ S w0 w' (tale2 b be (t0.does ⟨what, lvl0, tx0, key0⟩ lv0) :: L) := by
 have HWX := hid hwx
 clear hwx
 obtain ⟨bs, k, h⟩ := hs.t2_open
 obtain ⟨⟨c7, f7⟩, h1⟩ := does_pre (what := what) (level := lvl0) (tx := tx0) (key := key0) h
 have hst := hok0.steps
 have hok := hok0.step hst0
 obtain ⟨t, ht⟩ : ∃ t, t = t0.step := ⟨_, rfl⟩
 obtain ⟨n, hn⟩ : ∃ n, n = t.recs.length := ⟨_, rfl⟩
 obtain ⟨p, hp⟩ : ∃ p, p = pickN tx0 (min 6 n) := ⟨_, rfl⟩
 obtain ⟨ky, hK⟩ : ∃ ky, ky = pickN key0 4 := ⟨_, rfl⟩
 obtain ⟨x, hx⟩ : ∃ x, x = n - p - 1 := ⟨_, rfl⟩
 have hdo : t0.does ⟨what, lvl0, tx0, key0⟩ lv0 = (t.act what x ky).overs := by
  rw [hK]
  unfold Tale.does
  simp only [if_neg hw0, if_neg hw5, if_neg hrn]
  rw [hx, hp, hn, ht]
  rfl
 have hre : t0.recs = t.recs := by rw [ht]; rfl
 have hee : t0.e = t.e := by rw [ht]; rfl
 rw [← ht, hre, hee] at h1
 rw [← ht] at hok
 rw [hre] at hrn
 have hnpos : 0 < n := by rw [hn]; exact List.length_pos_iff.2 hrn
 have hpl : p < min 6 n := by rw [hp]; exact pickN_lt tx0 (by omega)
 have hnx : (n : Int) - (p : Int) = (x : Int) + 1 := by omega
 have hxn : x < n := by omega
 have hn200 : n ≤ 200 := by rw [hn, hok.len]; exact hok.ok.few
 obtain ⟨a0, a1, a2, a3⟩ := act_see h1
 have c1 := h1.tale_see.1.level
 obtain ⟨al, cl, hlv, _, _, _⟩ := h1.tale_see.2.1
 rw [hlv, ← hn] at c1
 have hb0 : (what == 0) = false := by simpa using hw0
 have hb5 : (what == 5) = false := by simpa using hw5
 have hbn : ((n : Int) == 0) = false := by simpa using (by omega : n ≠ 0)
 have hpk4 : ∀ W, Calls Tryz.prog 16 #[.int .i64 key0, .int .i64 4] W fun e w' => e = .returned (.int .i64 ky) ∧ W = w' := fun W => by rw [hK]; exact pick_any key0 4 W (by omega) (by omega)
 have hK4 : ky < 4 := by rw [hK]; exact pickN_lt key0 (by omega)
 have HPK4 := hid hpk4
 have hpk : ∀ W, Calls Tryz.prog 16 #[.int .i64 tx0, .int .i64 (min 6 (n : Int))] W fun e w' => e = .returned (.int .i64 p) ∧ W = w' := fun W => by
  have h3 := pick_any tx0 (min 6 (n : Int)) W (by omega) (by omega)
  have e3 : (min 6 (n : Int)).toNat = min 6 n := by omega
  rw [e3, ← hp] at h3
  exact h3
 have hnw : IntKind.i64.wrap ((x : Int) + 1) = (x : Int) + 1 := IntWalk.i64_in _ (by omega)
 have hx1 : (x : Int) + 1 - 1 = (x : Int) := by omega
 have hq : ∀ W, S w0 W (taleB b be k t :: all (recPs k.vs t.recs) :: engP be bs t.e :: blk w.heap.size 28 [.int .i64 what, .int .i64 lvl0, .int .i64 tx0, .int .i64 key0] :: L) → W.cell? ⟨b, 1, none⟩ = some (.slice al n cl) ∧ W.cell? ⟨w.heap.size, 2, none⟩ = some (.int .i64 tx0) := fun W h => by
  refine ⟨?_, (act_see h).2.2.1⟩
  have := h.tale_see.1.level
  rw [hlv, ← hn] at this
  exact this
 have HPK := hid hpk; have HQ := hid hq
 have H1 := hid h1; have HDO := hid hdo; have HOK := hid hok; have HN := hid hn; have HP := hid hp; have HLV := hid hlv
 clear hs h h1 hdo hok0 hw0 hw5 hrn hlv hok hst0 ht hre hee hn hp hx hpk hq hpk4 hK
 unfold actV
 go_enter Tryz.func8, Tryz.ntmps8
 go_upto_if 139 with (go_at_call 16; with_reducible refine (HPK4.out _).mono ?_; rintro r w' ⟨rfl, rfl⟩)
 clear HPK4
 go_upto_region 16 with fail
 clear a0 a1 a2 a3 c1 c7 f7
 have H2 := H1
 refine wp_region_held_drew (S := fun w' => w'.cell? ⟨b, 1, none⟩ = some (.slice al n cl) ∧ w'.cell? ⟨w.heap.size, 2, none⟩ = some (.int .i64 tx0)) (by kernel_rfl) (HQ.out _ H2.out.drew) (fun hHeld => ?_)
 refine wpAnyH_take (i := 0) (v := ?_) rfl (by kernel_rfl) (by kernel_rfl) (by kernel_rfl) (fun _ _ _ h => h) (Or.inl ⟨by rfl, ?_⟩) hHeld ?_
 rotate_left
 ·(intro w hSw; (try dsimp only at hSw); go_simp) <;> with_reducible rfl
 try simp only [putU]
 refine wpAnyH_take (i := 1) (v := ?_) rfl (by kernel_rfl) (by kernel_rfl) (by kernel_rfl) (fun _ _ _ h => h) (Or.inl ⟨by rfl, ?_⟩) hHeld ?_
 rotate_left
 ·(intro w hSw; (try dsimp only at hSw); go_simp) <;> with_reducible rfl
 try simp only [putU]
 refine wpAnyH_take (i := 2) (v := ?_) rfl (by kernel_rfl) (by kernel_rfl) (by kernel_rfl) (fun _ _ _ h => h) (Or.inl ⟨by rfl, ?_⟩) hHeld ?_
 rotate_left
 ·(intro w hSw; (try dsimp only at hSw); go_simp) <;> with_reducible rfl
 try simp only [putU]
 refine wpAnyH_take (i := 3) (v := ?_) rfl (by kernel_rfl) (by kernel_rfl) (by kernel_rfl) (fun _ _ _ h => h) (Or.inl ⟨by rfl, ?_⟩) hHeld ?_
 rotate_left
 ·(intro w hSw; (try dsimp only at hSw); go_simp) <;> with_reducible rfl
 try simp only [putU]
 refine wpAnyH_take (i := 4) (v := ?_) rfl (by kernel_rfl) (by kernel_rfl) (by kernel_rfl) (fun _ _ _ h => h) (Or.inl ⟨by rfl, ?_⟩) hHeld ?_
 rotate_left
 ·(intro w hSw; (try dsimp only at hSw); go_simp) <;> with_reducible rfl
 try simp only [putU]
 refine wpAnyH_take (i := 5) (v := ?_) rfl (by kernel_rfl) (by kernel_rfl) (by kernel_rfl) (fun _ _ _ h => h) (Or.inl ⟨by rfl, ?_⟩) hHeld ?_
 rotate_left
 ·(intro w hSw; (try dsimp only at hSw); go_simp) <;> with_reducible rfl
 try simp only [putU]
 refine wpAnyH_take (i := 6) (v := ?_) rfl (by kernel_rfl) (by kernel_rfl) (by kernel_rfl) (fun _ _ _ h => h) (Or.inl ⟨by rfl, ?_⟩) hHeld ?_
 rotate_left
 ·(intro w hSw; (try dsimp only at hSw); go_simp) <;> with_reducible rfl
 try simp only [putU]
 refine wpAnyH_take (i := 7) (v := ?_) rfl (by kernel_rfl) (by kernel_rfl) (by kernel_rfl) (fun _ _ _ h => h) (Or.inl ⟨by rfl, ?_⟩) hHeld ?_
 rotate_left
 ·(intro w hSw; (try dsimp only at hSw); go_simp) <;> with_reducible rfl
 try simp only [putU]
 refine wpAnyH_take (i := 8) (v := ?_) rfl (by kernel_rfl) (by kernel_rfl) (by kernel_rfl) (fun _ _ _ h => h) (Or.inl ⟨by rfl, ?_⟩) hHeld ?_
 rotate_left
 ·(intro w hSw; (try dsimp only at hSw); go_simp) <;> with_reducible rfl
 try simp only [putU]
 refine wpAnyH_take (i := 9) (v := ?_) rfl (by kernel_rfl) (by kernel_rfl) (by kernel_rfl) (fun _ _ _ h => h) (Or.inl ⟨by rfl, ?_⟩) hHeld ?_
 rotate_left
 ·(intro w hSw; (try dsimp only at hSw); go_simp) <;> with_reducible rfl
 try simp only [putU]
 refine wpAnyH_take (i := 10) (v := ?_) rfl (by kernel_rfl) (by kernel_rfl) (by kernel_rfl) (fun _ _ _ h => h) (Or.inl ⟨by rfl, ?_⟩) hHeld ?_
 rotate_left
 ·(intro w hSw; (try dsimp only at hSw); go_simp) <;> with_reducible rfl
 try simp only [putU]
 refine wpAnyH_take (i := 11) (v := ?_) rfl (by kernel_rfl) (by kernel_rfl) (by kernel_rfl) (fun _ _ _ h => h) (Or.inl ⟨by rfl, ?_⟩) hHeld ?_
 rotate_left
 ·(intro w hSw; (try dsimp only at hSw); go_simp) <;> with_reducible rfl
 try simp only [putU]
 have HS := hid H2.out.drew
 clear hHeld
 refine anyH_world (fun w => Hid (S w0 w _)) HS (fun w1 HS => ?_)
 refine wpAnyH_ready (rs := [12]) (by kernel_rfl) (by simp) ?_
 refine AllReadyH.cons rfl (fun K hK => ?_) AllReadyH.nil
 go_simp
 refine hK.out _ _ (HQ.out _ HS.out) (fun _ => ?_)
 clear hK K
 refine wpAnyH_ready (rs := [13]) (by kernel_rfl) (by simp) ?_
 refine AllReadyH.cons rfl (fun K hK => ?_) AllReadyH.nil
 go_simp
 go_at_call 16
 with_reducible refine (HPK.out _).mono ?_
 rintro r w' ⟨rfl, rfl⟩
 refine hK.out _ _ (HQ.out _ HS.out) (fun _ => ?_)
 clear hK K
 refine wpAnyH_take (i := 14) (v := ?_) rfl (by kernel_rfl) (by kernel_rfl) (by kernel_rfl) (fun _ _ _ h => h) (Or.inl ⟨by rfl, ?_⟩) (HQ.out _ HS.out) ?_
 rotate_left
 ·(intro w hSw; (try dsimp only at hSw); go_simp) <;> with_reducible rfl
 try simp only [putU]
 refine wpAnyH_take (i := 15) (v := ?_) rfl (by kernel_rfl) (by kernel_rfl) (by kernel_rfl) (fun _ _ _ h => h) (Or.inl ⟨by rfl, ?_⟩) (HQ.out _ HS.out) ?_
 rotate_left
 ·(intro w hSw; (try dsimp only at hSw); go_simp) <;> with_reducible rfl
 try simp only [putU]
 refine wpAnyH_done (by kernel_rfl) ?_ _
 obtain ⟨a0, a1, a2, a3⟩ := act_see HS.out
 go_upto_block 0 with fail
 go_cut [] from 168 to 347 (fun wx => ∃ t' bs' k', t' = t.act what x ky ∧ t'.recs.length = n ∧ S w0 wx (taleB b be k' t' :: all (recPs k'.vs t'.recs) :: engP be bs' t'.e :: blk w.heap.size 28 [.int .i64 what, .int .i64 lvl0, .int .i64 tx0, .int .i64 key0] :: L))
 case first =>
  clear HDO HPK HQ HP hbn hnw hnx hpl H1 H2 hst
  have c0 := HS.out.tale_see.1.e
  have hfew : N ≤ 90000000 := Nat.le_trans HOK.out.few (by omega)
  have hx2 : x < t.recs.length := by rw [← HN.out]; exact hxn
  ·skip
   ·skip
    ·skip
     ·have h2 := HWX.out
      subst h2
      have hw4 : taleB b be k { t with n := t.n + 1 } = taleB b be k { t with n := t.n + 1 } := rfl
      clear hw4
      obtain ⟨E1, hE1⟩ : ∃ y, y = (t.e.write ((x : Int) + 1) ky (t.n + 1)).1 := ⟨_, rfl⟩
      obtain ⟨okb, hokb⟩ : ∃ y, y = (t.e.write ((x : Int) + 1) ky (t.n + 1)).2.1 := ⟨_, rfl⟩
      obtain ⟨er, her⟩ : ∃ y, y = (t.e.write ((x : Int) + 1) ky (t.n + 1)).2.2 := ⟨_, rfl⟩
      obtain ⟨st, hst⟩ : ∃ y, y = (t.e.state ((x : Int) + 1)).1 := ⟨_, rfl⟩
      obtain ⟨se, hse⟩ : ∃ y, y = (t.e.state ((x : Int) + 1)).2.2 := ⟨_, rfl⟩
      obtain ⟨so, hso⟩ : ∃ y, y = (E1.state ((x : Int) + 1)).1 := ⟨_, rfl⟩
      obtain ⟨m, hm⟩ : ∃ m, m = t.n + 1 := ⟨_, rfl⟩
      obtain ⟨t0', ht0'⟩ : ∃ y : Tale, y = { t with n := m } := ⟨_, rfl⟩
      obtain ⟨t1, ht1⟩ : ∃ y : Tale, y = { t with e := E1, n := m } := ⟨_, rfl⟩
      have hact : t.act 2 x ky = if se = 0 ∧ st = 0 ∧ er = 0 then (t1.updR x fun q => { q with own := mput q.own (ky : Int) m }).marked (decide (okb ≠ decide (so = 0))) else t1 := by
       rw [ht1, hso, hokb, her, hst, hse, hE1, hm]
       rfl
      have hre : t1.recs = t.recs := by rw [ht1]
      have hre0 : t0'.recs = t.recs := by rw [ht0']
      have he1 : t1.e = E1 := by rw [ht1]
      have hB1 : taleB b be k t1 = taleB b be k t0' := by rw [ht1, ht0']; rfl
      have hl1 : t1.recs.length = n := by rw [hre]; exact HN.out.symm
      have hl0 : t0'.recs.length = n := by rw [hre0]; exact HN.out.symm
      have hn8 : t0'.n = m := by rw [ht0']
      have hn81 : t1.n = m := by rw [ht1]
      obtain ⟨gl, ol, cl', gs, os, cs, go, oo, co, gr, or_, cr, b1, b2, b3, b4, b5, b6, b7, b8, hkr, hsee⟩ := read_see HN.out.symm hxn HS.out
      unfold maxLen at b2 b4 b6 b8
      have hset : ∀ W M, S w0 W (taleB b be k t :: M) → S w0 (W.setCell ⟨b, 8, none⟩ (.int .i64 m)) (taleB b be k t0' :: M) := fun W M h => by
       rw [ht0']; exact h.tale_set rfl (by decide) rfl
      have hstt := fun W M h => state2_any w0 W be bs t.e ((x : Int) + 1) M h
      rw [← hst, ← hse] at hstt
      have hwr := fun W M h => ewrite_any w0 W be bs t.e ((x : Int) + 1) ky (t.n + 1) M N HOK.out.ok hfew h
      rw [← hE1, ← hokb, ← her, ← hm] at hwr
      have hst2 := fun W M h => state2_any w0 W be bs E1 ((x : Int) + 1) M h
      rw [← hso] at hst2
      have hnb := HOK.out.n
      have hnw2 : IntKind.i64.wrap (t.n + 1) = m := by rw [hm]; exact IntWalk.i64_in _ (by omega)
      have cn := (hsee _ _ _ HN.out.symm HS.out).num
      have fn := (hsee _ _ _ HN.out.symm HS.out).free 8
      have h0s := hset _ _ HS.out
      rw [← hre0] at h0s
      have HS0 := hid h0s
      have HSET := hid hset; have HSTT := hid hstt; have HWR := hid hwr; have HST2 := hid hst2; have HACT := hid hact; have HSEE := hid hsee; have HRE := hid hre; have HRE0 := hid hre0; have HB1 := hid hB1; have HE1 := hid he1
      have HL1 := hid hl1; have HL0 := hid hl0; have HX2 := hid hx2; have HN8 := hid hn8; have HN81 := hid hn81
      clear hset hstt hwr hst2 hact hsee hre hre0 hB1 he1 hl1 hl0 hx2 hn8 hn81 hE1 hokb her hst hse hso hm ht0' ht1 HOK hfew a1 a2 a3 hb0 hb5 hkr h0s
      go_upto_region 38 with fail
      clear cn fn c0 a0 HS HSET
      have c0 := (HSEE.out _ _ _ HL0.out HS0.out).e
      have HT := hid (HSTT.out _ _ (HS0.out.conv (M := engP be bs t.e :: taleB b be k t0' :: all (recPs k.vs t0'.recs) :: blk w.heap.size 28 [.int .i64 2, .int .i64 lvl0, .int .i64 tx0, .int .i64 key0] :: L) (by simp only [all]; ac_rfl)))
      clear HSTT HS0
      go_wp2_with (go_at_call 14; with_reducible refine HT.out.mono ?_; rintro r w3 ⟨rfl, hs3⟩; have HS3 := hid hs3; clear hs3)
      have hq : ∀ W (e' : Eng), S w0 W (engP be bs e' :: taleB b be k t0' :: all (recPs k.vs t0'.recs) :: blk w.heap.size 28 [.int .i64 2, .int .i64 lvl0, .int .i64 tx0, .int .i64 key0] :: L) → W.cell? ⟨b, 0, none⟩ = some (.pointer (some ⟨be, 0, none⟩)) ∧ W.cell? ⟨b, 8, none⟩ = some (.int .i64 m) := fun W e' h => by
       have := HSEE.out _ _ _ HL0.out h.swap
       exact ⟨this.e, by rw [← HN8.out]; exact this.num⟩
      have HQ := hid hq
      have hq2 : ∀ W, S w0 W (taleB b be k t1 :: all (recPs k.vs t1.recs) :: engP be bs E1 :: blk w.heap.size 28 [.int .i64 2, .int .i64 lvl0, .int .i64 tx0, .int .i64 key0] :: L) → W.cell? ⟨b, 3, none⟩ = some (.slice (some ⟨go, oo, none⟩) n co) ∧ W.cell? ⟨go, oo + x, none⟩ = some (.map (some (k.v x).mb)) ∧ W.cell? ⟨b, 8, none⟩ = some (.int .i64 m) := fun W h => by
       have := HSEE.out _ _ _ HL1.out h
       exact ⟨this.own, this.xown, by rw [← HN81.out]; exact this.num⟩
      have HQ2 := hid hq2
      have hup : ∀ W, S w0 W (taleB b be k t1 :: all (recPs k.vs t1.recs) :: engP be bs E1 :: blk w.heap.size 28 [.int .i64 2, .int .i64 lvl0, .int .i64 tx0, .int .i64 key0] :: L) →
        ∃ w', (Instr.mapUpdate 57 (.map (some (k.v x).mb)) (.int .i64 ky) (.int .i64 m)).run Tryz.prog W = .ok () w' ∧ S w0 w' (taleB b be k (t1.updR x fun q => { q with own := mput q.own (ky : Int) m }) :: all (recPs k.vs (t1.updR x fun q => { q with own := mput q.own (ky : Int) m }).recs) :: engP be bs E1 :: blk w.heap.size 28 [.int .i64 2, .int .i64 lvl0, .int .i64 tx0, .int .i64 key0] :: L) := fun W h =>
       h.tale_own (by rw [HL1.out]; exact hxn) (ky : Int) m
      have HUP := hid hup
      have HS0 := HS3
      clear hq hq2 hup HS3 HT
      clear c0
      go_upto_region 39 with fail
      refine wp_region_held_drew (S := fun w' => w'.cell? ⟨b, 0, none⟩ = some (.pointer (some ⟨be, 0, none⟩)) ∧ w'.cell? ⟨b, 8, none⟩ = some (.int .i64 m)) (by kernel_rfl) (HQ.out _ _ HS0.out.drew) (fun hHeld => ?_)
      refine wpAnyH_take (i := 0) (v := ?_) rfl (by kernel_rfl) (by kernel_rfl) (by kernel_rfl) (fun _ _ _ h => h) (Or.inl ⟨by rfl, ?_⟩) hHeld ?_
      rotate_left
      ·(intro w hSw; (try dsimp only at hSw); go_simp) <;> with_reducible rfl
      try simp only [putU]
      refine wpAnyH_take (i := 1) (v := ?_) rfl (by kernel_rfl) (by kernel_rfl) (by kernel_rfl) (fun _ _ _ h => h) (Or.inl ⟨by rfl, ?_⟩) hHeld ?_
      rotate_left
      ·(intro w hSw; (try dsimp only at hSw); go_simp) <;> with_reducible rfl
      try simp only [putU]
      refine wpAnyH_take (i := 2) (v := ?_) rfl (by kernel_rfl) (by kernel_rfl) (by kernel_rfl) (fun _ _ _ h => h) (Or.inl ⟨by rfl, ?_⟩) hHeld ?_
      rotate_left
      ·(intro w hSw; (try dsimp only at hSw); go_simp) <;> with_reducible rfl
      try simp only [putU]
      refine wpAnyH_take (i := 3) (v := ?_) rfl (by kernel_rfl) (by kernel_rfl) (by kernel_rfl) (fun _ _ _ h => h) (Or.inl ⟨by rfl, ?_⟩) hHeld ?_
      rotate_left
      ·(intro w hSw; (try dsimp only at hSw); go_simp) <;> with_reducible rfl
      try simp only [putU]
      refine wpAnyH_take (i := 4) (v := ?_) rfl (by kernel_rfl) (by kernel_rfl) (by kernel_rfl) (fun _ _ _ h => h) (Or.inl ⟨by rfl, ?_⟩) hHeld ?_
      rotate_left
      ·(intro w hSw; (try dsimp only at hSw); go_simp) <;> with_reducible rfl
      try simp only [putU]
      refine wpAnyH_take (i := 5) (v := ?_) rfl (by kernel_rfl) (by kernel_rfl) (by kernel_rfl) (fun _ _ _ h => h) (Or.inl ⟨by rfl, ?_⟩) hHeld ?_
      rotate_left
      ·(intro w hSw; (try dsimp only at hSw); go_simp) <;> with_reducible rfl
      try simp only [putU]
      refine wpAnyH_take (i := 6) (v := ?_) rfl (by kernel_rfl) (by kernel_rfl) (by kernel_rfl) (fun _ _ _ h => h) (Or.inl ⟨by rfl, ?_⟩) hHeld ?_
      rotate_left
      ·(intro w hSw; (try dsimp only at hSw); go_simp) <;> with_reducible rfl
      try simp only [putU]
      refine wpAnyH_take (i := 7) (v := ?_) rfl (by kernel_rfl) (by kernel_rfl) (by kernel_rfl) (fun _ _ _ h => h) (Or.inl ⟨by rfl, ?_⟩) hHeld ?_
      rotate_left
      ·(intro w hSw; (try dsimp only at hSw); go_simp) <;> with_reducible rfl
      try simp only [putU]
      refine wpAnyH_take (i := 8) (v := ?_) rfl (by kernel_rfl) (by kernel_rfl) (by kernel_rfl) (fun _ _ _ h => h) (Or.inl ⟨by rfl, ?_⟩) hHeld ?_
      rotate_left
      ·(intro w hSw; (try dsimp only at hSw); go_simp) <;> with_reducible rfl
      try simp only [putU]
      refine wpAnyH_take (i := 9) (v := ?_) rfl (by kernel_rfl) (by kernel_rfl) (by kernel_rfl) (fun _ _ _ h => h) (Or.inl ⟨by rfl, ?_⟩) hHeld ?_
      rotate_left
      ·(intro w hSw; (try dsimp only at hSw); go_simp) <;> with_reducible rfl
      try simp only [putU]
      have HS := hid HS0.out.drew
      clear hHeld
      refine anyH_world (fun w => Hid (S w0 w _)) HS (fun w1 HS => ?_)
      clear HS0
      refine wpAnyH_ready (rs := [10]) (by kernel_rfl) (by simp) ?_
      refine AllReadyH.cons rfl (fun K hK => ?_) AllReadyH.nil
      go_simp
      go_at_call 26
      with_reducible refine (HWR.out _ _ HS.out).mono ?_
      rintro r w4 ⟨rfl, hs4⟩
      replace HS := hid hs4
      clear hs4
      refine hK.out _ _ (HQ.out _ _ HS.out) (fun _ => ?_)
      clear hK K
      refine wpAnyH_take (i := 11) (v := ?_) rfl (by kernel_rfl) (by kernel_rfl) (by kernel_rfl) (fun _ _ _ h => h) (Or.inl ⟨by rfl, ?_⟩) (HQ.out _ _ HS.out) ?_
      rotate_left
      ·(intro w hSw; (try dsimp only at hSw); go_simp) <;> with_reducible rfl
      try simp only [putU]
      refine wpAnyH_take (i := 12) (v := ?_) rfl (by kernel_rfl) (by kernel_rfl) (by kernel_rfl) (fun _ _ _ h => h) (Or.inl ⟨by rfl, ?_⟩) (HQ.out _ _ HS.out) ?_
      rotate_left
      ·(intro w hSw; (try dsimp only at hSw); go_simp) <;> with_reducible rfl
      try simp only [putU]
      refine wpAnyH_take (i := 13) (v := ?_) rfl (by kernel_rfl) (by kernel_rfl) (by kernel_rfl) (fun _ _ _ h => h) (Or.inl ⟨by rfl, ?_⟩) (HQ.out _ _ HS.out) ?_
      rotate_left
      ·(intro w hSw; (try dsimp only at hSw); go_simp) <;> with_reducible rfl
      try simp only [putU]
      refine wpAnyH_take (i := 14) (v := ?_) rfl (by kernel_rfl) (by kernel_rfl) (by kernel_rfl) (fun _ _ _ h => h) (Or.inl ⟨by rfl, ?_⟩) (HQ.out _ _ HS.out) ?_
      rotate_left
      ·(intro w hSw; (try dsimp only at hSw); go_simp) <;> with_reducible rfl
      try simp only [putU]
      refine wpAnyH_take (i := 15) (v := ?_) rfl (by kernel_rfl) (by kernel_rfl) (by kernel_rfl) (fun _ _ _ h => h) (Or.inl ⟨by rfl, ?_⟩) (HQ.out _ _ HS.out) ?_
      rotate_left
      ·(intro w hSw; (try dsimp only at hSw); go_simp) <;> with_reducible rfl
      try simp only [putU]
      refine wpAnyH_done (by kernel_rfl) ?_ _
      have H4 := hid (show S w0 _ (taleB b be k t1 :: all (recPs k.vs t1.recs) :: engP be bs E1 :: blk w.heap.size 28 [.int .i64 2, .int .i64 lvl0, .int .i64 tx0, .int .i64 key0] :: L) from HS.out.conv (by rw [HB1.out, HRE.out, HRE0.out]; simp only [all]; ac_rfl))
      clear HS HWR HQ
      by_cases hA : se = 0 ∧ st = 0 ∧ er = 0
      ·have ha := HACT.out
       rw [if_pos hA] at ha
       obtain ⟨e1, e2, e3⟩ := hA
       have HAC := hid ha
       have HS0 := H4
       rw [e1, e2, e3, errV_0]
       clear ha HACT H4 e1 e2 e3
       go_upto_region 41 with fail
       refine region_U (S := fun w' => w'.cell? ⟨b, 3, none⟩ = some (.slice (some ⟨go, oo, none⟩) n co) ∧ w'.cell? ⟨go, oo + x, none⟩ = some (.map (some (k.v x).mb)) ∧ w'.cell? ⟨b, 8, none⟩ = some (.int .i64 m)) (u := 12) (by kernel_rfl) (HQ2.out _ HS0.out.drew) (fun hHeld => ?_)
       refine anyU_take (i := 0) (v := ?_) rfl (by kernel_rfl) (fun _ _ _ h => h) (Or.inl ⟨by rfl, ?_⟩) hHeld ?_
       rotate_left
       ·(intro w hSw; (try dsimp only at hSw); go_simp) <;> with_reducible rfl
       try simp only [putU]
       refine anyU_take (i := 1) (v := ?_) rfl (by kernel_rfl) (fun _ _ _ h => h) (Or.inl ⟨by rfl, ?_⟩) hHeld ?_
       rotate_left
       ·(intro w hSw; (try dsimp only at hSw); go_simp) <;> with_reducible rfl
       try simp only [putU]
       refine anyU_take (i := 2) (v := ?_) rfl (by kernel_rfl) (fun _ _ _ h => h) (Or.inl ⟨by rfl, ?_⟩) hHeld ?_
       rotate_left
       ·(intro w hSw; (try dsimp only at hSw); go_simp) <;> with_reducible rfl
       try simp only [putU]
       refine anyU_take (i := 3) (v := ?_) rfl (by kernel_rfl) (fun _ _ _ h => h) (Or.inl ⟨by rfl, ?_⟩) hHeld ?_
       rotate_left
       ·(intro w hSw; (try dsimp only at hSw); go_simp) <;> with_reducible rfl
       try simp only [putU]
       refine anyU_take (i := 4) (v := ?_) rfl (by kernel_rfl) (fun _ _ _ h => h) (Or.inl ⟨by rfl, ?_⟩) hHeld ?_
       rotate_left
       ·(intro w hSw; (try dsimp only at hSw); go_simp) <;> with_reducible rfl
       try simp only [putU]
       refine anyU_take (i := 5) (v := ?_) rfl (by kernel_rfl) (fun _ _ _ h => h) (Or.inl ⟨by rfl, ?_⟩) hHeld ?_
       rotate_left
       ·(intro w hSw; (try dsimp only at hSw); go_simp) <;> with_reducible rfl
       try simp only [putU]
       refine anyU_take (i := 6) (v := ?_) rfl (by kernel_rfl) (fun _ _ _ h => h) (Or.inl ⟨by rfl, ?_⟩) hHeld ?_
       rotate_left
       ·(intro w hSw; (try dsimp only at hSw); go_simp) <;> with_reducible rfl
       try simp only [putU]
       refine anyU_take (i := 7) (v := ?_) rfl (by kernel_rfl) (fun _ _ _ h => h) (Or.inl ⟨by rfl, ?_⟩) hHeld ?_
       rotate_left
       ·(intro w hSw; (try dsimp only at hSw); go_simp) <;> with_reducible rfl
       try simp only [putU]
       refine anyU_take (i := 8) (v := ?_) rfl (by kernel_rfl) (fun _ _ _ h => h) (Or.inl ⟨by rfl, ?_⟩) hHeld ?_
       rotate_left
       ·(intro w hSw; (try dsimp only at hSw); go_simp) <;> with_reducible rfl
       try simp only [putU]
       refine anyU_take (i := 9) (v := ?_) rfl (by kernel_rfl) (fun _ _ _ h => h) (Or.inl ⟨by rfl, ?_⟩) hHeld ?_
       rotate_left
       ·(intro w hSw; (try dsimp only at hSw); go_simp) <;> with_reducible rfl
       try simp only [putU]
       refine anyU_take (i := 10) (v := ?_) rfl (by kernel_rfl) (fun _ _ _ h => h) (Or.inl ⟨by rfl, ?_⟩) hHeld ?_
       rotate_left
       ·(intro w hSw; (try dsimp only at hSw); go_simp) <;> with_reducible rfl
       try simp only [putU]
       refine anyU_take (i := 11) (v := ?_) rfl (by kernel_rfl) (fun _ _ _ h => h) (Or.inl ⟨by rfl, ?_⟩) hHeld ?_
       rotate_left
       ·(intro w hSw; (try dsimp only at hSw); go_simp) <;> with_reducible rfl
       try simp only [putU]
       have HS := hid HS0.out.drew
       clear hHeld
       refine anyU_world (fun w => Hid (S w0 w _)) HS (fun w1 HS => ?_)
       clear HS0
       refine anyU_next (rs := [12]) (by kernel_rfl) (by simp) ?_
       refine NextU.cons rfl (fun K hK => ?_) NextU.nil
       refine step_mapuE rfl 57 (.tmp 309) (.tmp 310) (.tmp 314) rfl (by rfl) (by rfl) (by rfl) (HUP.out _ HS.out) ?_
       intro w5 hs5
       have H6 := hid hs5
       clear hs5
       refine hK.out _ _ goneU ?_
       clear hK K
       try simp only [putU]
       refine anyU_done (by kernel_rfl) ?_ _
       obtain ⟨t2, ht2⟩ : ∃ y, y = t1.updR x fun q => { q with own := mput q.own (ky : Int) m } := ⟨_, rfl⟩
       have h6 := H6.out
       have ha := HAC.out
       rw [← ht2] at h6 ha
       have hl2 : t2.recs.length = n := by rw [ht2, updR_len]; exact HL1.out
       have he2 : t2.e = E1 := by rw [ht2]; exact HE1.out
       have HAC2 := hid ha; have HL2 := hid hl2; have HE2 := hid he2
       have c0 := (h6.tale_see.1).e
       have c9 := h6.tale_see.1.broken
       have f9 := h6.tale_see.1.free 9
       have hT := HST2.out _ _ (h6.conv (M := engP be bs E1 :: taleB b be k t2 :: all (recPs k.vs t2.recs) :: blk w.heap.size 28 [.int .i64 2, .int .i64 lvl0, .int .i64 tx0, .int .i64 key0] :: L) (by simp only [all]; ac_rfl))
       have HT := hid hT
       clear h6 ha ht2 hl2 he2 hT H6 HAC c9 f9 HUP HQ2
       by_cases hs : so = 0
       ·have ns : (so == 0) = true := by simpa using hs
        cases okb with
        | true =>
         have hd : decide (true ≠ decide (so = 0)) = false := by simp [hs]
         have HD := hid hd
         clear hs hd
         go_upto_if 328 with (go_at_call 14; with_reducible refine HT.out.mono ?_; rintro r w7 ⟨rfl, hs7⟩; have H7 := hid (hs7.conv (M := taleB b be k t2 :: all (recPs k.vs t2.recs) :: engP be bs E1 :: blk w.heap.size 28 [.int .i64 2, .int .i64 lvl0, .int .i64 tx0, .int .i64 key0] :: L) (by simp only [all]; ac_rfl)); clear hs7)
         have c9 := H7.out.tale_see.1.broken
         have f9 := H7.out.tale_see.1.free 9
         clear HT c0
         go_wp2_with fail
         go_meet
         exact ⟨t2, bs, k, by rw [HAC2.out, HD.out, marked_false], HL2.out, by rw [HE2.out]; exact H7.out⟩
        | false =>
         have hd : decide (false ≠ decide (so = 0)) = true := by simp [hs]
         have HD := hid hd
         clear hs hd
         go_upto_if 328 with (go_at_call 14; with_reducible refine HT.out.mono ?_; rintro r w7 ⟨rfl, hs7⟩; have H7 := hid (hs7.conv (M := taleB b be k t2 :: all (recPs k.vs t2.recs) :: engP be bs E1 :: blk w.heap.size 28 [.int .i64 2, .int .i64 lvl0, .int .i64 tx0, .int .i64 key0] :: L) (by simp only [all]; ac_rfl)); clear hs7)
         have c9 := H7.out.tale_see.1.broken
         have f9 := H7.out.tale_see.1.free 9
         clear HT c0
         go_wp2_with fail
         go_meet
         exact ⟨t2.marked true, bs, k, by rw [HAC2.out, HD.out], HL2.out, by show S w0 _ (_ :: all (recPs k.vs t2.recs) :: engP be bs t2.e :: _); rw [HE2.out]; exact H7.out.tale_mark⟩
       ·have ns : (so == 0) = false := by simpa using hs
        cases okb with
        | true =>
         have hd : decide (true ≠ decide (so = 0)) = true := by simp [hs]
         have HD := hid hd
         clear hs hd
         go_upto_if 328 with (go_at_call 14; with_reducible refine HT.out.mono ?_; rintro r w7 ⟨rfl, hs7⟩; have H7 := hid (hs7.conv (M := taleB b be k t2 :: all (recPs k.vs t2.recs) :: engP be bs E1 :: blk w.heap.size 28 [.int .i64 2, .int .i64 lvl0, .int .i64 tx0, .int .i64 key0] :: L) (by simp only [all]; ac_rfl)); clear hs7)
         have c9 := H7.out.tale_see.1.broken
         have f9 := H7.out.tale_see.1.free 9
         clear HT c0
         go_wp2_with fail
         go_meet
         exact ⟨t2.marked true, bs, k, by rw [HAC2.out, HD.out], HL2.out, by show S w0 _ (_ :: all (recPs k.vs t2.recs) :: engP be bs t2.e :: _); rw [HE2.out]; exact H7.out.tale_mark⟩
        | false =>
         have hd : decide (false ≠ decide (so = 0)) = false := by simp [hs]
         have HD := hid hd
         clear hs hd
         go_upto_if 328 with (go_at_call 14; with_reducible refine HT.out.mono ?_; rintro r w7 ⟨rfl, hs7⟩; have H7 := hid (hs7.conv (M := taleB b be k t2 :: all (recPs k.vs t2.recs) :: engP be bs E1 :: blk w.heap.size 28 [.int .i64 2, .int .i64 lvl0, .int .i64 tx0, .int .i64 key0] :: L) (by simp only [all]; ac_rfl)); clear hs7)
         have c9 := H7.out.tale_see.1.broken
         have f9 := H7.out.tale_see.1.free 9
         clear HT c0
         go_wp2_with fail
         go_meet
         exact ⟨t2, bs, k, by rw [HAC2.out, HD.out, marked_false], HL2.out, by rw [HE2.out]; exact H7.out⟩
      ·have ha := HACT.out
       rw [if_neg hA] at ha
       have HAC := hid ha
       have HF := hid (show S w0 _ (taleB b be k t1 :: all (recPs k.vs t1.recs) :: engP be bs t1.e :: blk w.heap.size 28 [.int .i64 2, .int .i64 lvl0, .int .i64 tx0, .int .i64 key0] :: L) by rw [HE1.out]; exact H4.out)
       clear ha HACT H4 HUP HQ2 HSEE HST2
       by_cases h1 : se = 0
       ·by_cases h2 : st = 0
        ·have h3 : er ≠ 0 := fun h3 => hA ⟨h1, h2, h3⟩
         rw [h1, h2, errV_0, errV_ne h3]
         clear hA h1 h2 h3
         go_wp2_with fail
         go_meet
         exact ⟨t1, bs, k, HAC.out.symm, HL1.out, HF.out⟩
        ·have n2 : (st == 0) = false := by simpa using h2
         rw [h1, errV_0]
         clear hA h1 h2
         go_wp2_with fail
         go_meet
         exact ⟨t1, bs, k, HAC.out.symm, HL1.out, HF.out⟩
       ·rw [errV_ne h1]
        clear hA h1
        go_wp2_with fail
        go_meet
        exact ⟨t1, bs, k, HAC.out.symm, HL1.out, HF.out⟩
 ·rename World => wX
  obtain ⟨t', bs', k', ht', hl', hs'⟩ := hcut
  have hsT : S w0 wX (taleB b be k' t' :: all (recPs k'.vs t'.recs) :: engP be bs' t'.e :: L) := (hs'.conv (M := blk w.heap.size 28 [.int .i64 what, .int .i64 lvl0, .int .i64 tx0, .int .i64 key0] :: taleB b be k' t' :: all (recPs k'.vs t'.recs) :: engP be bs' t'.e :: L) (by simp only [all]; ac_rfl)).tail
  obtain ⟨al', cl', gw, ow, cw, b1, b2, b3, b4, hlv, hwv, hoc⟩ := over_see hl' hnpos hsT
  have hend : (t'.oversTo n) = t0.does ⟨what, lvl0, tx0, key0⟩ lv0 := by rw [HDO.out, ← ht']; exact t'.oversTo_all hl'.symm
  have hstA := fun W M j (h : S w0 W (engP be bs' t'.e :: M)) => state2_any w0 W be bs' t'.e ((j : Int) + 1) M h
  obtain ⟨stp, hstp⟩ : ∃ s, s = t'.steps := ⟨_, rfl⟩
  have hone := fun j (hj : j < n) => t'.oversTo_one (j := j) (by rw [hl']; exact hj)
  have hstay := fun j (hj : j < n) => t'.oversTo_stay (j := j) (by rw [hl']; exact hj)
  have hturn := fun j (hj : j < n) => t'.oversTo_turn (j := j) (by rw [hl']; exact hj)
  have hl2 : ∀ j, (t'.oversTo j).recs.length = n := fun j => by rw [t'.oversTo_len, hl']
  have hst0' : t'.oversTo 0 = t' := t'.oversTo_zero
  have hsT0 : S w0 wX (taleB b be k' (t'.oversTo 0) :: all (recPs k'.vs (t'.oversTo 0).recs) :: engP be bs' t'.e :: L) := by rw [hst0']; exact hsT
  unfold maxLen at b2 b4
  have HS0 := hid hsT0; have HOC := hid hoc; have HEND := hid hend; have HST := hid hstA; have HONE := hid hone; have HSTAY := hid hstay; have HTURN := hid hturn; have HL2 := hid hl2; have HWV := hid hwv; have HSTP := hid hstp
  clear hs' hsT hsT0 hoc hend hstA hone hstay hturn hl2 hlv hwv hst0' ht' hl' HS H1 H2 HDO HOK HN HP HLV HPK HQ a0 a1 a2 a3 hb0 hb5 hbn hnw hx1 hnx hpl hstp
  have hc1 := (HOC.out _ _ _ (HL2.out 0) HS0.out).level
  go_wp2_with fail
  go_loopw [27] (fun c wr => ∃ j : Nat, j ≤ n ∧ c = .int .i64 j ∧ Hid (S w0 wr (taleB b be k' (t'.oversTo j) :: all (recPs k'.vs (t'.oversTo j).recs) :: engP be bs' t'.e :: L))) (fun c _ => n - (intOf c).toNat)
  case atStart => exact ⟨0, Nat.zero_le _, rfl, HS0⟩
  case round =>
   rename World => wR
   obtain ⟨j, hj, rfl, HR⟩ := hrel
   clear hc1 HS0
   obtain ⟨c0, c1, c6, c7, hrow⟩ := HOC.out _ _ _ (HL2.out j) HR.out
   by_cases hlt : j < n
   ·obtain ⟨c8, f8⟩ := hrow j hlt
    rw [HONE.out j hlt] at c8
    have hst := HST.out wR _ j HR.out.rot3
    have ht := HTURN.out j hlt
    have hy := HSTAY.out j hlt
    generalize t'.e.state ((j : Int) + 1) = s at hst ht hy
    generalize hov : (t'.one j).over = ov at c8 ht hy
    have HOV := hid hov
    have HA := hid hst; have HT := hid ht; have HY := hid hy
    clear hst ht hy hrow hov
    go_wp2_with fail
    with_reducible refine HA.out.mono ?_
    rintro r w2 ⟨rfl, hs2⟩
    have HB := hid (hs2.conv (M := taleB b be k' (t'.oversTo j) :: all (recPs k'.vs (t'.oversTo j).recs) :: engP be bs' t'.e :: L) (by simp only [all]; ac_rfl))
    clear hs2 HA c0 c1 c6 c7 c8 f8
    obtain ⟨c0, c1, c6, c7, hrow⟩ := HOC.out _ _ _ (HL2.out j) HB.out
    obtain ⟨c8, f8⟩ := hrow j hlt
    rw [HONE.out j hlt] at c8
    rw [HOV.out] at c8
    by_cases ho : ov = 0
    ·by_cases he : s.2.2 = 0
     ·by_cases hc : 2 ≤ s.1
      ·have ht := HT.out ⟨ho, he, hc⟩
       have hso : ∀ W, S w0 W (taleB b be k' (t'.oversTo j) :: all (recPs k'.vs (t'.oversTo j).recs) :: engP be bs' t'.e :: L) → S w0 (W.setCell ⟨gw, ow + j, none⟩ (.int .i64 t'.steps)) (taleB b be k' (t'.oversTo (j + 1)) :: all (recPs k'.vs (t'.oversTo (j + 1)).recs) :: engP be bs' t'.e :: L) := fun W h => by
        rw [ht]
        exact h.tale_over (by rw [HL2.out j]; exact hlt) (by rw [HL2.out j]; exact HWV.out) t'.steps
       have hbo : (ov == 0) = true := by simpa using ho
       have hbs : decide (s.1 ≥ 2) = true := by simpa using hc
       rw [he, errV_0]
       have HSO := hid hso
       have hq : ∀ W, S w0 W (taleB b be k' (t'.oversTo j) :: all (recPs k'.vs (t'.oversTo j).recs) :: engP be bs' t'.e :: L) → W.cell? ⟨b, 6, none⟩ = some (.slice (some ⟨gw, ow, none⟩) n cw) ∧ W.cell? ⟨b, 7, none⟩ = some (.int .i64 (t'.oversTo j).steps) := fun W h => by
        have := HOC.out _ _ _ (HL2.out j) h
        exact ⟨this.over, this.steps⟩
       have HQ := hid hq
       clear hso ht ho he HT HY hrow hq
       go_upto_region 54 with fail
       clear c0 c1 c6 c7 c8 f8
       refine region_U (S := fun w' => w'.cell? ⟨b, 6, none⟩ = some (.slice (some ⟨gw, ow, none⟩) n cw) ∧ w'.cell? ⟨b, 7, none⟩ = some (.int .i64 (t'.oversTo j).steps)) (u := 10) (by kernel_rfl) (HQ.out _ HB.out.drew) (fun hHeld => ?_)
       refine anyU_take (i := 0) (v := ?_) rfl (by kernel_rfl) (fun _ _ _ h => h) (Or.inl ⟨by rfl, ?_⟩) hHeld ?_
       rotate_left
       ·(intro w hSw; (try dsimp only at hSw); go_simp) <;> with_reducible rfl
       try simp only [putU]
       refine anyU_take (i := 1) (v := ?_) rfl (by kernel_rfl) (fun _ _ _ h => h) (Or.inl ⟨by rfl, ?_⟩) hHeld ?_
       rotate_left
       ·(intro w hSw; (try dsimp only at hSw); go_simp) <;> with_reducible rfl
       try simp only [putU]
       refine anyU_take (i := 2) (v := ?_) rfl (by kernel_rfl) (fun _ _ _ h => h) (Or.inl ⟨by rfl, ?_⟩) hHeld ?_
       rotate_left
       ·(intro w hSw; (try dsimp only at hSw); go_simp) <;> with_reducible rfl
       try simp only [putU]
       refine anyU_take (i := 3) (v := ?_) rfl (by kernel_rfl) (fun _ _ _ h => h) (Or.inl ⟨by rfl, ?_⟩) hHeld ?_
       rotate_left
       ·(intro w hSw; (try dsimp only at hSw); go_simp) <;> with_reducible rfl
       try simp only [putU]
       refine anyU_take (i := 4) (v := ?_) rfl (by kernel_rfl) (fun _ _ _ h => h) (Or.inl ⟨by rfl, ?_⟩) hHeld ?_
       rotate_left
       ·(intro w hSw; (try dsimp only at hSw); go_simp) <;> with_reducible rfl
       try simp only [putU]
       refine anyU_take (i := 5) (v := ?_) rfl (by kernel_rfl) (fun _ _ _ h => h) (Or.inl ⟨by rfl, ?_⟩) hHeld ?_
       rotate_left
       ·(intro w hSw; (try dsimp only at hSw); go_simp) <;> with_reducible rfl
       try simp only [putU]
       refine anyU_take (i := 6) (v := ?_) rfl (by kernel_rfl) (fun _ _ _ h => h) (Or.inl ⟨by rfl, ?_⟩) hHeld ?_
       rotate_left
       ·(intro w hSw; (try dsimp only at hSw); go_simp) <;> with_reducible rfl
       try simp only [putU]
       refine anyU_take (i := 7) (v := ?_) rfl (by kernel_rfl) (fun _ _ _ h => h) (Or.inl ⟨by rfl, ?_⟩) hHeld ?_
       rotate_left
       ·(intro w hSw; (try dsimp only at hSw); go_simp) <;> with_reducible rfl
       try simp only [putU]
       refine anyU_take (i := 8) (v := ?_) rfl (by kernel_rfl) (fun _ _ _ h => h) (Or.inl ⟨by rfl, ?_⟩) hHeld ?_
       rotate_left
       ·(intro w hSw; (try dsimp only at hSw); go_simp) <;> with_reducible rfl
       try simp only [putU]
       refine anyU_take (i := 9) (v := ?_) rfl (by kernel_rfl) (fun _ _ _ h => h) (Or.inl ⟨by rfl, ?_⟩) hHeld ?_
       rotate_left
       ·(intro w hSw; (try dsimp only at hSw); go_simp) <;> with_reducible rfl
       try simp only [putU]
       have HS := hid HB.out.drew
       clear hHeld
       refine anyU_world (fun w => Hid (S w0 w _)) HS (fun w1 HS => ?_)
       refine anyU_next (rs := [10]) (by kernel_rfl) (by simp) ?_
       refine NextU.cons rfl (fun K hK => ?_) NextU.nil
       have hrw := (HOC.out _ _ _ (HL2.out j) HS.out).row j hlt
       obtain ⟨c8, f8⟩ := hrw
       go_simp
       refine hK.out _ _ goneU ?_
       clear hK K
       refine anyU_done (by kernel_rfl) ?_ _
       go_wp2_with fail
       go_roundw
       case rel => exact ⟨j + 1, by omega, by go_num, hid (HSO.out _ HS.out)⟩
       case measure => simp [intOf]; omega
      ·have ht := HY.out (fun h => hc h.2.2)
       have hbo : (ov == 0) = true := by simpa using ho
       have hbs : decide (s.1 ≥ 2) = false := by simpa using hc
       rw [he, errV_0]
       rw [← ht] at HB
       have HSO := HB
       clear ht ho he HT HY hrow hc HB
       go_wp2_with fail
       go_roundw
       case rel => exact ⟨j + 1, by omega, by go_num, HSO⟩
       case measure => simp [intOf]; omega
     ·have ht := HY.out (fun h => he h.2.1)
      have hbo : (ov == 0) = true := by simpa using ho
      rw [errV_ne he]
      rw [← ht] at HB
      have HSO := HB
      clear ht ho HT HY hrow HB he
      go_wp2_with fail
      go_roundw
      case rel => exact ⟨j + 1, by omega, by go_num, HSO⟩
      case measure => simp [intOf]; omega
    ·have ht := HY.out (fun h => ho h.1)
     have hbo : (ov == 0) = false := by simpa using ho
     rw [← ht] at HB
     have HSO := HB
     clear ht HT HY hrow HB ho
     go_wp2_with fail
     go_roundw
     case rel => exact ⟨j + 1, by omega, by go_num, HSO⟩
     case measure => simp [intOf]; omega
   ·obtain rfl : j = n := by omega
    have H9 := hid (S.t2_shut (t := t'.oversTo j) HR.out)
    clear hrow
    go_wp2_with fail
    refine bodyPost_end (v := .tuple #[]) (by simp [results, Tryz.results8, go_sem]) rfl ?_
    exact ⟨rfl, by rw [← HEND.out]; exact H9.out⟩
end Go.Proofs.YtcbokjocahnlcaaGreatDoor
/- interleafkeep's tale: does, when one of the last few does something: it commits, aborts, or does nothing. -/
namespace Go.Proofs.YtcbokjocahnlcaaGreatDoor
open Go Go.RowKit Go.Sep
set_option linter.unusedSimpArgs false in
set_option maxRecDepth 100000 in
set_option maxHeartbeats 16000000 in
theorem does_act3 (w0 w : World) (b be : Nat) (t0 : Tale) (what lvl0 tx0 key0 lv0 : Int) (L : List HProp) (N : Nat) (hE : ErrT w0) (hwx : what ≠ 1 ∧ what ≠ 2) (hok0 : TaleOk N t0) (hst0 : t0.steps < 1000000) (hw0 : what ≠ 0) (hw5 : what ≠ 5) (hrn : t0.recs ≠ []) (hs : S w0 w (tale2 b be t0 :: L)) :
  Calls Tryz.prog 8 #[.pointer (some ⟨b, 0, none⟩), actV what lvl0 tx0 key0, .int .i64 lv0] w fun r w' => r = .returned (.tuple #[]) ∧ S w0 w' (tale2 b be (t0.does ⟨what, lvl0, tx0, key0⟩ lv0) :: L) := by
 obtain ⟨bs, k, h⟩ := hs.t2_open
 obtain ⟨⟨c7, f7⟩, h1⟩ := does_pre (what := what) (level := lvl0) (tx := tx0) (key := key0) h
 have hst := hok0.steps
 have hok := hok0.step hst0
 obtain ⟨t, ht⟩ : ∃ t, t = t0.step := ⟨_, rfl⟩
 obtain ⟨n, hn⟩ : ∃ n, n = t.recs.length := ⟨_, rfl⟩
 obtain ⟨p, hp⟩ : ∃ p, p = pickN tx0 (min 6 n) := ⟨_, rfl⟩
 obtain ⟨ky, hK⟩ : ∃ ky, ky = pickN key0 4 := ⟨_, rfl⟩
 obtain ⟨x, hx⟩ : ∃ x, x = n - p - 1 := ⟨_, rfl⟩
 have hdo : t0.does ⟨what, lvl0, tx0, key0⟩ lv0 = (t.act what x ky).overs := by
  rw [hK]
  unfold Tale.does
  simp only [if_neg hw0, if_neg hw5, if_neg hrn]
  rw [hx, hp, hn, ht]
  rfl
 have hre : t0.recs = t.recs := by rw [ht]; rfl
 have hee : t0.e = t.e := by rw [ht]; rfl
 rw [← ht, hre, hee] at h1
 rw [← ht] at hok
 rw [hre] at hrn
 have hnpos : 0 < n := by rw [hn]; exact List.length_pos_iff.2 hrn
 have hpl : p < min 6 n := by rw [hp]; exact pickN_lt tx0 (by omega)
 have hnx : (n : Int) - (p : Int) = (x : Int) + 1 := by omega
 have hxn : x < n := by omega
 have hn200 : n ≤ 200 := by rw [hn, hok.len]; exact hok.ok.few
 obtain ⟨a0, a1, a2, a3⟩ := act_see h1
 have c1 := h1.tale_see.1.level
 obtain ⟨al, cl, hlv, _, _, _⟩ := h1.tale_see.2.1
 rw [hlv, ← hn] at c1
 have hb0 : (what == 0) = false := by simpa using hw0
 have hb5 : (what == 5) = false := by simpa using hw5
 have hbn : ((n : Int) == 0) = false := by simpa using (by omega : n ≠ 0)
 have hpk4 : ∀ W, Calls Tryz.prog 16 #[.int .i64 key0, .int .i64 4] W fun e w' => e = .returned (.int .i64 ky) ∧ W = w' := fun W => by rw [hK]; exact pick_any key0 4 W (by omega) (by omega)
 have hK4 : ky < 4 := by rw [hK]; exact pickN_lt key0 (by omega)
 have HPK4 := hid hpk4
 have hpk : ∀ W, Calls Tryz.prog 16 #[.int .i64 tx0, .int .i64 (min 6 (n : Int))] W fun e w' => e = .returned (.int .i64 p) ∧ W = w' := fun W => by
  have h3 := pick_any tx0 (min 6 (n : Int)) W (by omega) (by omega)
  have e3 : (min 6 (n : Int)).toNat = min 6 n := by omega
  rw [e3, ← hp] at h3
  exact h3
 have hnw : IntKind.i64.wrap ((x : Int) + 1) = (x : Int) + 1 := IntWalk.i64_in _ (by omega)
 have hx1 : (x : Int) + 1 - 1 = (x : Int) := by omega
 have hq : ∀ W, S w0 W (taleB b be k t :: all (recPs k.vs t.recs) :: engP be bs t.e :: blk w.heap.size 28 [.int .i64 what, .int .i64 lvl0, .int .i64 tx0, .int .i64 key0] :: L) → W.cell? ⟨b, 1, none⟩ = some (.slice al n cl) ∧ W.cell? ⟨w.heap.size, 2, none⟩ = some (.int .i64 tx0) := fun W h => by
  refine ⟨?_, (act_see h).2.2.1⟩
  have := h.tale_see.1.level
  rw [hlv, ← hn] at this
  exact this
 have HPK := hid hpk; have HQ := hid hq
 have H1 := hid h1; have HDO := hid hdo; have HOK := hid hok; have HN := hid hn; have HP := hid hp; have HLV := hid hlv
 clear hs h h1 hdo hok0 hw0 hw5 hrn hlv hok hst0 ht hre hee hn hp hx hpk hq hpk4 hK
 unfold actV
 go_enter Tryz.func8, Tryz.ntmps8
 go_upto_if 139 with (go_at_call 16; with_reducible refine (HPK4.out _).mono ?_; rintro r w' ⟨rfl, rfl⟩)
 clear HPK4
 go_upto_region 16 with fail
 clear a0 a1 a2 a3 c1 c7 f7
 have H2 := H1
 refine wp_region_held_drew (S := fun w' => w'.cell? ⟨b, 1, none⟩ = some (.slice al n cl) ∧ w'.cell? ⟨w.heap.size, 2, none⟩ = some (.int .i64 tx0)) (by kernel_rfl) (HQ.out _ H2.out.drew) (fun hHeld => ?_)
 refine wpAnyH_take (i := 0) (v := ?_) rfl (by kernel_rfl) (by kernel_rfl) (by kernel_rfl) (fun _ _ _ h => h) (Or.inl ⟨by rfl, ?_⟩) hHeld ?_
 rotate_left
 ·(intro w hSw; (try dsimp only at hSw); go_simp) <;> with_reducible rfl
 try simp only [putU]
 refine wpAnyH_take (i := 1) (v := ?_) rfl (by kernel_rfl) (by kernel_rfl) (by kernel_rfl) (fun _ _ _ h => h) (Or.inl ⟨by rfl, ?_⟩) hHeld ?_
 rotate_left
 ·(intro w hSw; (try dsimp only at hSw); go_simp) <;> with_reducible rfl
 try simp only [putU]
 refine wpAnyH_take (i := 2) (v := ?_) rfl (by kernel_rfl) (by kernel_rfl) (by kernel_rfl) (fun _ _ _ h => h) (Or.inl ⟨by rfl, ?_⟩) hHeld ?_
 rotate_left
 ·(intro w hSw; (try dsimp only at hSw); go_simp) <;> with_reducible rfl
 try simp only [putU]
 refine wpAnyH_take (i := 3) (v := ?_) rfl (by kernel_rfl) (by kernel_rfl) (by kernel_rfl) (fun _ _ _ h => h) (Or.inl ⟨by rfl, ?_⟩) hHeld ?_
 rotate_left
 ·(intro w hSw; (try dsimp only at hSw); go_simp) <;> with_reducible rfl
 try simp only [putU]
 refine wpAnyH_take (i := 4) (v := ?_) rfl (by kernel_rfl) (by kernel_rfl) (by kernel_rfl) (fun _ _ _ h => h) (Or.inl ⟨by rfl, ?_⟩) hHeld ?_
 rotate_left
 ·(intro w hSw; (try dsimp only at hSw); go_simp) <;> with_reducible rfl
 try simp only [putU]
 refine wpAnyH_take (i := 5) (v := ?_) rfl (by kernel_rfl) (by kernel_rfl) (by kernel_rfl) (fun _ _ _ h => h) (Or.inl ⟨by rfl, ?_⟩) hHeld ?_
 rotate_left
 ·(intro w hSw; (try dsimp only at hSw); go_simp) <;> with_reducible rfl
 try simp only [putU]
 refine wpAnyH_take (i := 6) (v := ?_) rfl (by kernel_rfl) (by kernel_rfl) (by kernel_rfl) (fun _ _ _ h => h) (Or.inl ⟨by rfl, ?_⟩) hHeld ?_
 rotate_left
 ·(intro w hSw; (try dsimp only at hSw); go_simp) <;> with_reducible rfl
 try simp only [putU]
 refine wpAnyH_take (i := 7) (v := ?_) rfl (by kernel_rfl) (by kernel_rfl) (by kernel_rfl) (fun _ _ _ h => h) (Or.inl ⟨by rfl, ?_⟩) hHeld ?_
 rotate_left
 ·(intro w hSw; (try dsimp only at hSw); go_simp) <;> with_reducible rfl
 try simp only [putU]
 refine wpAnyH_take (i := 8) (v := ?_) rfl (by kernel_rfl) (by kernel_rfl) (by kernel_rfl) (fun _ _ _ h => h) (Or.inl ⟨by rfl, ?_⟩) hHeld ?_
 rotate_left
 ·(intro w hSw; (try dsimp only at hSw); go_simp) <;> with_reducible rfl
 try simp only [putU]
 refine wpAnyH_take (i := 9) (v := ?_) rfl (by kernel_rfl) (by kernel_rfl) (by kernel_rfl) (fun _ _ _ h => h) (Or.inl ⟨by rfl, ?_⟩) hHeld ?_
 rotate_left
 ·(intro w hSw; (try dsimp only at hSw); go_simp) <;> with_reducible rfl
 try simp only [putU]
 refine wpAnyH_take (i := 10) (v := ?_) rfl (by kernel_rfl) (by kernel_rfl) (by kernel_rfl) (fun _ _ _ h => h) (Or.inl ⟨by rfl, ?_⟩) hHeld ?_
 rotate_left
 ·(intro w hSw; (try dsimp only at hSw); go_simp) <;> with_reducible rfl
 try simp only [putU]
 refine wpAnyH_take (i := 11) (v := ?_) rfl (by kernel_rfl) (by kernel_rfl) (by kernel_rfl) (fun _ _ _ h => h) (Or.inl ⟨by rfl, ?_⟩) hHeld ?_
 rotate_left
 ·(intro w hSw; (try dsimp only at hSw); go_simp) <;> with_reducible rfl
 try simp only [putU]
 have HS := hid H2.out.drew
 clear hHeld
 refine anyH_world (fun w => Hid (S w0 w _)) HS (fun w1 HS => ?_)
 refine wpAnyH_ready (rs := [12]) (by kernel_rfl) (by simp) ?_
 refine AllReadyH.cons rfl (fun K hK => ?_) AllReadyH.nil
 go_simp
 refine hK.out _ _ (HQ.out _ HS.out) (fun _ => ?_)
 clear hK K
 refine wpAnyH_ready (rs := [13]) (by kernel_rfl) (by simp) ?_
 refine AllReadyH.cons rfl (fun K hK => ?_) AllReadyH.nil
 go_simp
 go_at_call 16
 with_reducible refine (HPK.out _).mono ?_
 rintro r w' ⟨rfl, rfl⟩
 refine hK.out _ _ (HQ.out _ HS.out) (fun _ => ?_)
 clear hK K
 refine wpAnyH_take (i := 14) (v := ?_) rfl (by kernel_rfl) (by kernel_rfl) (by kernel_rfl) (fun _ _ _ h => h) (Or.inl ⟨by rfl, ?_⟩) (HQ.out _ HS.out) ?_
 rotate_left
 ·(intro w hSw; (try dsimp only at hSw); go_simp) <;> with_reducible rfl
 try simp only [putU]
 refine wpAnyH_take (i := 15) (v := ?_) rfl (by kernel_rfl) (by kernel_rfl) (by kernel_rfl) (fun _ _ _ h => h) (Or.inl ⟨by rfl, ?_⟩) (HQ.out _ HS.out) ?_
 rotate_left
 ·(intro w hSw; (try dsimp only at hSw); go_simp) <;> with_reducible rfl
 try simp only [putU]
 refine wpAnyH_done (by kernel_rfl) ?_ _
 obtain ⟨a0, a1, a2, a3⟩ := act_see HS.out
 go_upto_block 0 with fail
 go_cut [] from 168 to 347 (fun wx => ∃ t' bs' k', t' = t.act what x ky ∧ t'.recs.length = n ∧ S w0 wx (taleB b be k' t' :: all (recPs k'.vs t'.recs) :: engP be bs' t'.e :: blk w.heap.size 28 [.int .i64 what, .int .i64 lvl0, .int .i64 tx0, .int .i64 key0] :: L))
 case first =>
  clear HDO HPK HQ HP hbn hnw hnx hpl H1 H2 hst
  have c0 := HS.out.tale_see.1.e
  have hfew : N ≤ 90000000 := Nat.le_trans HOK.out.few (by omega)
  have hx2 : x < t.recs.length := by rw [← HN.out]; exact hxn
  by_cases h3 : what = 3
  ·subst h3
   have hcm := ecommit_any w0 w1 be bs t.e ((x : Int) + 1) _ N hE HOK.out.ok hfew HS.out.rot3
   have HA := hid hcm
   have HR := hid HN.out
   clear hcm HS HOK HN a1 a2 a3 hb0 hb5
   go_wp2_with fail
   with_reducible refine HA.out.mono ?_
   rintro r w2 ⟨rfl, hs2⟩
   have HB := hid (hs2.conv (M := taleB b be k t :: all (recPs k.vs t.recs) :: engP be bs (t.e.commit ((x : Int) + 1)).1 :: blk w.heap.size 28 [.int .i64 3, .int .i64 lvl0, .int .i64 tx0, .int .i64 key0] :: L) (by simp only [all]; ac_rfl))
   clear hs2 HA c0 a0
   go_wp2_with fail
   go_meet
   exact ⟨{ t with e := (t.e.commit ((x : Int) + 1)).1 }, bs, k, by simp [Tale.act], HR.out.symm, HB.out⟩
  ·by_cases h4 : what = 4
   ·subst h4
    have hcm := abort_any w0 w1 be bs t.e ((x : Int) + 1) _ N HOK.out.ok (Nat.le_trans hfew (by omega)) HS.out.rot3
    have HA := hid hcm
    have HR := hid HN.out
    clear hcm HS HOK HN a1 a2 a3 hb0 hb5
    go_wp2_with fail
    with_reducible refine HA.out.mono ?_
    rintro r w2 ⟨rfl, hs2⟩
    have HB := hid (hs2.conv (M := taleB b be k t :: all (recPs k.vs t.recs) :: engP be bs (t.e.abort ((x : Int) + 1)).1 :: blk w.heap.size 28 [.int .i64 4, .int .i64 lvl0, .int .i64 tx0, .int .i64 key0] :: L) (by simp only [all]; ac_rfl))
    clear hs2 HA c0 a0
    go_wp2_with fail
    go_meet
    exact ⟨{ t with e := (t.e.abort ((x : Int) + 1)).1 }, bs, k, by simp [Tale.act], HR.out.symm, HB.out⟩
   ·obtain ⟨h1, h2⟩ := hwx
    ·skip
     ·have e1 : (what == 1) = false := by simpa using h1
      have e2 : (what == 2) = false := by simpa using h2
      have e3 : (what == 3) = false := by simpa using h3
      have e4 : (what == 4) = false := by simpa using h4
      have ha : t.act what x ky = t := by unfold Tale.act; rw [if_neg h1, if_neg h2, if_neg h3, if_neg h4]
      have HR := hid HN.out; have HAC := hid ha
      clear h1 h2 h3 h4 ha HN HOK a1 a2 a3 hb0 hb5
      go_wp2_with fail
      go_meet
      exact ⟨t, bs, k, HAC.out.symm, HR.out.symm, HS.out⟩
 ·rename World => wX
  obtain ⟨t', bs', k', ht', hl', hs'⟩ := hcut
  have hsT : S w0 wX (taleB b be k' t' :: all (recPs k'.vs t'.recs) :: engP be bs' t'.e :: L) := (hs'.conv (M := blk w.heap.size 28 [.int .i64 what, .int .i64 lvl0, .int .i64 tx0, .int .i64 key0] :: taleB b be k' t' :: all (recPs k'.vs t'.recs) :: engP be bs' t'.e :: L) (by simp only [all]; ac_rfl)).tail
  obtain ⟨al', cl', gw, ow, cw, b1, b2, b3, b4, hlv, hwv, hoc⟩ := over_see hl' hnpos hsT
  have hend : (t'.oversTo n) = t0.does ⟨what, lvl0, tx0, key0⟩ lv0 := by rw [HDO.out, ← ht']; exact t'.oversTo_all hl'.symm
  have hstA := fun W M j (h : S w0 W (engP be bs' t'.e :: M)) => state2_any w0 W be bs' t'.e ((j : Int) + 1) M h
  obtain ⟨stp, hstp⟩ : ∃ s, s = t'.steps := ⟨_, rfl⟩
  have hone := fun j (hj : j < n) => t'.oversTo_one (j := j) (by rw [hl']; exact hj)
  have hstay := fun j (hj : j < n) => t'.oversTo_stay (j := j) (by rw [hl']; exact hj)
  have hturn := fun j (hj : j < n) => t'.oversTo_turn (j := j) (by rw [hl']; exact hj)
  have hl2 : ∀ j, (t'.oversTo j).recs.length = n := fun j => by rw [t'.oversTo_len, hl']
  have hst0' : t'.oversTo 0 = t' := t'.oversTo_zero
  have hsT0 : S w0 wX (taleB b be k' (t'.oversTo 0) :: all (recPs k'.vs (t'.oversTo 0).recs) :: engP be bs' t'.e :: L) := by rw [hst0']; exact hsT
  unfold maxLen at b2 b4
  have HS0 := hid hsT0; have HOC := hid hoc; have HEND := hid hend; have HST := hid hstA; have HONE := hid hone; have HSTAY := hid hstay; have HTURN := hid hturn; have HL2 := hid hl2; have HWV := hid hwv; have HSTP := hid hstp
  clear hs' hsT hsT0 hoc hend hstA hone hstay hturn hl2 hlv hwv hst0' ht' hl' HS H1 H2 HDO HOK HN HP HLV HPK HQ a0 a1 a2 a3 hb0 hb5 hbn hnw hx1 hnx hpl hstp
  have hc1 := (HOC.out _ _ _ (HL2.out 0) HS0.out).level
  go_wp2_with fail
  go_loopw [27] (fun c wr => ∃ j : Nat, j ≤ n ∧ c = .int .i64 j ∧ Hid (S w0 wr (taleB b be k' (t'.oversTo j) :: all (recPs k'.vs (t'.oversTo j).recs) :: engP be bs' t'.e :: L))) (fun c _ => n - (intOf c).toNat)
  case atStart => exact ⟨0, Nat.zero_le _, rfl, HS0⟩
  case round =>
   rename World => wR
   obtain ⟨j, hj, rfl, HR⟩ := hrel
   clear hc1 HS0
   obtain ⟨c0, c1, c6, c7, hrow⟩ := HOC.out _ _ _ (HL2.out j) HR.out
   by_cases hlt : j < n
   ·obtain ⟨c8, f8⟩ := hrow j hlt
    rw [HONE.out j hlt] at c8
    have hst := HST.out wR _ j HR.out.rot3
    have ht := HTURN.out j hlt
    have hy := HSTAY.out j hlt
    generalize t'.e.state ((j : Int) + 1) = s at hst ht hy
    generalize hov : (t'.one j).over = ov at c8 ht hy
    have HOV := hid hov
    have HA := hid hst; have HT := hid ht; have HY := hid hy
    clear hst ht hy hrow hov
    go_wp2_with fail
    with_reducible refine HA.out.mono ?_
    rintro r w2 ⟨rfl, hs2⟩
    have HB := hid (hs2.conv (M := taleB b be k' (t'.oversTo j) :: all (recPs k'.vs (t'.oversTo j).recs) :: engP be bs' t'.e :: L) (by simp only [all]; ac_rfl))
    clear hs2 HA c0 c1 c6 c7 c8 f8
    obtain ⟨c0, c1, c6, c7, hrow⟩ := HOC.out _ _ _ (HL2.out j) HB.out
    obtain ⟨c8, f8⟩ := hrow j hlt
    rw [HONE.out j hlt] at c8
    rw [HOV.out] at c8
    by_cases ho : ov = 0
    ·by_cases he : s.2.2 = 0
     ·by_cases hc : 2 ≤ s.1
      ·have ht := HT.out ⟨ho, he, hc⟩
       have hso : ∀ W, S w0 W (taleB b be k' (t'.oversTo j) :: all (recPs k'.vs (t'.oversTo j).recs) :: engP be bs' t'.e :: L) → S w0 (W.setCell ⟨gw, ow + j, none⟩ (.int .i64 t'.steps)) (taleB b be k' (t'.oversTo (j + 1)) :: all (recPs k'.vs (t'.oversTo (j + 1)).recs) :: engP be bs' t'.e :: L) := fun W h => by
        rw [ht]
        exact h.tale_over (by rw [HL2.out j]; exact hlt) (by rw [HL2.out j]; exact HWV.out) t'.steps
       have hbo : (ov == 0) = true := by simpa using ho
       have hbs : decide (s.1 ≥ 2) = true := by simpa using hc
       rw [he, errV_0]
       have HSO := hid hso
       have hq : ∀ W, S w0 W (taleB b be k' (t'.oversTo j) :: all (recPs k'.vs (t'.oversTo j).recs) :: engP be bs' t'.e :: L) → W.cell? ⟨b, 6, none⟩ = some (.slice (some ⟨gw, ow, none⟩) n cw) ∧ W.cell? ⟨b, 7, none⟩ = some (.int .i64 (t'.oversTo j).steps) := fun W h => by
        have := HOC.out _ _ _ (HL2.out j) h
        exact ⟨this.over, this.steps⟩
       have HQ := hid hq
       clear hso ht ho he HT HY hrow hq
       go_upto_region 54 with fail
       clear c0 c1 c6 c7 c8 f8
       refine region_U (S := fun w' => w'.cell? ⟨b, 6, none⟩ = some (.slice (some ⟨gw, ow, none⟩) n cw) ∧ w'.cell? ⟨b, 7, none⟩ = some (.int .i64 (t'.oversTo j).steps)) (u := 10) (by kernel_rfl) (HQ.out _ HB.out.drew) (fun hHeld => ?_)
       refine anyU_take (i := 0) (v := ?_) rfl (by kernel_rfl) (fun _ _ _ h => h) (Or.inl ⟨by rfl, ?_⟩) hHeld ?_
       rotate_left
       ·(intro w hSw; (try dsimp only at hSw); go_simp) <;> with_reducible rfl
       try simp only [putU]
       refine anyU_take (i := 1) (v := ?_) rfl (by kernel_rfl) (fun _ _ _ h => h) (Or.inl ⟨by rfl, ?_⟩) hHeld ?_
       rotate_left
       ·(intro w hSw; (try dsimp only at hSw); go_simp) <;> with_reducible rfl
       try simp only [putU]
       refine anyU_take (i := 2) (v := ?_) rfl (by kernel_rfl) (fun _ _ _ h => h) (Or.inl ⟨by rfl, ?_⟩) hHeld ?_
       rotate_left
       ·(intro w hSw; (try dsimp only at hSw); go_simp) <;> with_reducible rfl
       try simp only [putU]
       refine anyU_take (i := 3) (v := ?_) rfl (by kernel_rfl) (fun _ _ _ h => h) (Or.inl ⟨by rfl, ?_⟩) hHeld ?_
       rotate_left
       ·(intro w hSw; (try dsimp only at hSw); go_simp) <;> with_reducible rfl
       try simp only [putU]
       refine anyU_take (i := 4) (v := ?_) rfl (by kernel_rfl) (fun _ _ _ h => h) (Or.inl ⟨by rfl, ?_⟩) hHeld ?_
       rotate_left
       ·(intro w hSw; (try dsimp only at hSw); go_simp) <;> with_reducible rfl
       try simp only [putU]
       refine anyU_take (i := 5) (v := ?_) rfl (by kernel_rfl) (fun _ _ _ h => h) (Or.inl ⟨by rfl, ?_⟩) hHeld ?_
       rotate_left
       ·(intro w hSw; (try dsimp only at hSw); go_simp) <;> with_reducible rfl
       try simp only [putU]
       refine anyU_take (i := 6) (v := ?_) rfl (by kernel_rfl) (fun _ _ _ h => h) (Or.inl ⟨by rfl, ?_⟩) hHeld ?_
       rotate_left
       ·(intro w hSw; (try dsimp only at hSw); go_simp) <;> with_reducible rfl
       try simp only [putU]
       refine anyU_take (i := 7) (v := ?_) rfl (by kernel_rfl) (fun _ _ _ h => h) (Or.inl ⟨by rfl, ?_⟩) hHeld ?_
       rotate_left
       ·(intro w hSw; (try dsimp only at hSw); go_simp) <;> with_reducible rfl
       try simp only [putU]
       refine anyU_take (i := 8) (v := ?_) rfl (by kernel_rfl) (fun _ _ _ h => h) (Or.inl ⟨by rfl, ?_⟩) hHeld ?_
       rotate_left
       ·(intro w hSw; (try dsimp only at hSw); go_simp) <;> with_reducible rfl
       try simp only [putU]
       refine anyU_take (i := 9) (v := ?_) rfl (by kernel_rfl) (fun _ _ _ h => h) (Or.inl ⟨by rfl, ?_⟩) hHeld ?_
       rotate_left
       ·(intro w hSw; (try dsimp only at hSw); go_simp) <;> with_reducible rfl
       try simp only [putU]
       have HS := hid HB.out.drew
       clear hHeld
       refine anyU_world (fun w => Hid (S w0 w _)) HS (fun w1 HS => ?_)
       refine anyU_next (rs := [10]) (by kernel_rfl) (by simp) ?_
       refine NextU.cons rfl (fun K hK => ?_) NextU.nil
       have hrw := (HOC.out _ _ _ (HL2.out j) HS.out).row j hlt
       obtain ⟨c8, f8⟩ := hrw
       go_simp
       refine hK.out _ _ goneU ?_
       clear hK K
       refine anyU_done (by kernel_rfl) ?_ _
       go_wp2_with fail
       go_roundw
       case rel => exact ⟨j + 1, by omega, by go_num, hid (HSO.out _ HS.out)⟩
       case measure => simp [intOf]; omega
      ·have ht := HY.out (fun h => hc h.2.2)
       have hbo : (ov == 0) = true := by simpa using ho
       have hbs : decide (s.1 ≥ 2) = false := by simpa using hc
       rw [he, errV_0]
       rw [← ht] at HB
       have HSO := HB
       clear ht ho he HT HY hrow hc HB
       go_wp2_with fail
       go_roundw
       case rel => exact ⟨j + 1, by omega, by go_num, HSO⟩
       case measure => simp [intOf]; omega
     ·have ht := HY.out (fun h => he h.2.1)
      have hbo : (ov == 0) = true := by simpa using ho
      rw [errV_ne he]
      rw [← ht] at HB
      have HSO := HB
      clear ht ho HT HY hrow HB he
      go_wp2_with fail
      go_roundw
      case rel => exact ⟨j + 1, by omega, by go_num, HSO⟩
      case measure => simp [intOf]; omega
    ·have ht := HY.out (fun h => ho h.1)
     have hbo : (ov == 0) = false := by simpa using ho
     rw [← ht] at HB
     have HSO := HB
     clear ht HT HY hrow HB ho
     go_wp2_with fail
     go_roundw
     case rel => exact ⟨j + 1, by omega, by go_num, HSO⟩
     case measure => simp [intOf]; omega
   ·obtain rfl : j = n := by omega
    have H9 := hid (S.t2_shut (t := t'.oversTo j) HR.out)
    clear hrow
    go_wp2_with fail
    refine bodyPost_end (v := .tuple #[]) (by simp [results, Tryz.results8, go_sem]) rfl ?_
    exact ⟨rfl, by rw [← HEND.out]; exact H9.out⟩
end Go.Proofs.YtcbokjocahnlcaaGreatDoor
/- interleafkeep's tale: does, when it sweeps, when there is none, and when one of the last few does something. -/
namespace Go.Proofs.YtcbokjocahnlcaaGreatDoor
open Go Go.RowKit Go.Sep
theorem does_act (w0 w : World) (b be : Nat) (t0 : Tale) (what lvl0 tx0 key0 lv0 : Int) (L : List HProp) (N : Nat) (hE : ErrT w0) (hok0 : TaleOk N t0) (hst0 : t0.steps < 1000000) (hw0 : what ≠ 0) (hw5 : what ≠ 5) (hrn : t0.recs ≠ []) (hs : S w0 w (tale2 b be t0 :: L)) :
  Calls Tryz.prog 8 #[.pointer (some ⟨b, 0, none⟩), actV what lvl0 tx0 key0, .int .i64 lv0] w fun r w' => r = .returned (.tuple #[]) ∧ S w0 w' (tale2 b be (t0.does ⟨what, lvl0, tx0, key0⟩ lv0) :: L) := by
 by_cases h1 : what = 1
 ·exact does_act1 w0 w b be t0 what lvl0 tx0 key0 lv0 L N hE h1 hok0 hst0 hw0 hw5 hrn hs
 ·by_cases h2 : what = 2
  ·exact does_act2 w0 w b be t0 what lvl0 tx0 key0 lv0 L N h2 hok0 hst0 hw0 hw5 hrn hs
  ·exact does_act3 w0 w b be t0 what lvl0 tx0 key0 lv0 L N hE ⟨h1, h2⟩ hok0 hst0 hw0 hw5 hrn hs
end Go.Proofs.YtcbokjocahnlcaaGreatDoor
namespace Go.Proofs.YtcbokjocahnlcaaGreatDoor
open Go Go.RowKit Go.Sep
section
variable {e e' e0 : Eng} {i j : Nat} {N : Nat} {T U : List Task}
structure Rule (P : Eng → List Task → Prop) : Prop where
 hand : ∀ (N : Nat) (e : Eng) (w : Int × Int) (T : List Task), OkT N e (.hand w :: T) → P e (.hand w :: T) → P (e.opens (w.2.toNat - 1)) (.put (w.2.toNat - 1) (e.tx (w.2.toNat - 1)).want :: T)
 late : ∀ (N : Nat) (e : Eng) (i : Nat) (w : Int × Int) (T : List Task), OkT N e (.put i w :: T) → e.late i w.1 → P e (.put i w :: T) → P (e.left i 10) ((e.heirs i).map .hand ++ T)
 put : ∀ (N : Nat) (e : Eng) (i : Nat) (w : Int × Int) (T : List Task), OkT N e (.put i w :: T) → ¬ e.late i w.1 → (e.tx i).level ≠ 2 → P e (.put i w :: T) → P (e.wput i w) T
 puts : ∀ (N : Nat) (e : Eng) (i : Nat) (w : Int × Int) (T : List Task), OkT N e (.put i w :: T) → ¬ e.late i w.1 → (e.tx i).level = 2 → P e (.put i w :: T) → P (e.wput i w) (.ask i w.1 (List.range e.txs.length) :: T)
 asked : ∀ (N : Nat) (e : Eng) (i : Nat) (key : Int) (T : List Task), OkT N e (.ask i key [] :: T) → P e (.ask i key [] :: T) → P e T
 skip : ∀ (N : Nat) (e : Eng) (i j : Nat) (key : Int) (l : List Nat) (T : List Task), OkT N e (.ask i key (j :: l) :: T) → skips e i key j = true → P e (.ask i key (j :: l) :: T) → P e (.ask i key l :: T)
 note : ∀ (N : Nat) (e : Eng) (i j : Nat) (key : Int) (l : List Nat) (T : List Task), OkT N e (.ask i key (j :: l) :: T) → skips e i key j = false → (e.note j i).bad j i = false → P e (.ask i key (j :: l) :: T) → P (e.note j i) (.ask i key l :: T)
 wrong : ∀ (N : Nat) (e : Eng) (i j : Nat) (key : Int) (l : List Nat) (T : List Task), OkT N e (.ask i key (j :: l) :: T) → skips e i key j = false → (e.note j i).bad j i = true → P e (.ask i key (j :: l) :: T) → P ((e.note j i).left i 13) (((e.note j i).heirs i).map .hand ++ T)
theorem OkT.put_lt {w : Int × Int} (h : OkT N e (.put i w :: T)) : i < e.txs.length ∧ (e.tx i).alive = true := by
 have hk := h.ok _ (List.mem_cons_self ..)
 exact ⟨hk.lt, by simp [Tx.alive, (hk.put _ _ rfl).1]⟩
theorem OkT.ask_lt {key : Int} {l : List Nat} (h : OkT N e (.ask i key l :: T)) : i < e.txs.length ∧ (e.tx i).alive = true := by
 have hk := h.ok _ (List.mem_cons_self ..)
 exact ⟨hk.lt, by simp [Tx.alive, (hk.ask _ _ _ rfl).1]⟩
theorem OkT.hand_lt {w : Int × Int} (h : OkT N e (.hand w :: T)) : w.2.toNat - 1 < e.txs.length ∧ (e.tx (w.2.toNat - 1)).alive = true ∧ (e.tx (w.2.toNat - 1)).state = 1 ∧ ((w.2.toNat - 1 : Nat) : Int) + 1 = w.2 := by
 have hk := h.ok _ (List.mem_cons_self ..)
 have h2 := hk.hand _ rfl
 have h3 : (e.tx (w.2.toNat - 1)).state = 1 := h2.2.1
 exact ⟨hk.lt, by simp [Tx.alive, h3], h3, by have := h2.1; omega⟩
theorem Rule.run {P : Eng → List Task → Prop} (hP : Rule P) (hr : Runs e T e') : ∀ N, OkT N e T → P e T → P e' [] := by
 induction hr with
 | done e => exact fun N h p => p
 | hand _ ih => exact fun N h p => ih N h.hand (hP.hand N _ _ _ h p)
 | late hl _ ih => exact fun N h p => ih N (OkT.left (h.tail (by simp)) h.put_lt.1 h.put_lt.2 h.who_ne 10).1 (hP.late N _ _ _ _ h hl p)
 | put hl h2 _ ih => exact fun N h p => ih N h.wput.1 (hP.put N _ _ _ _ h hl h2 p)
 | puts hl h2 _ ih => exact fun N h p => ih N (h.wput.2 h2) (hP.puts N _ _ _ _ h hl h2 p)
 | asked _ ih => exact fun N h p => ih N (h.tail (by simp)) (hP.asked N _ _ _ _ h p)
 | skip hs _ ih => exact fun N h p => ih N h.skipped (hP.skip N _ _ _ _ _ _ h hs p)
 | note hs hb _ ih => exact fun N h p => ih N h.noted (hP.note N _ _ _ _ _ _ h hs hb p)
 | wrong hs hb _ ih =>
  intro N h p
  have hn := h.noted
  exact ih N (OkT.left (hn.tail (by simp)) hn.ask_lt.1 hn.ask_lt.2 hn.who_ne 13).1 (hP.wrong N _ _ _ _ _ _ h hs hb p)
theorem goes_run (h : OkT N e []) (hi : i < e.txs.length) (ha : (e.tx i).alive = true) (why : Int) : Runs (e.left i why) ((e.heirs i).map .hand) (e.goes i why) := by
 have := (goesOk e.open_ N e i why [] h hi ha (by simp) (Nat.le_refl _)).2.2 _ (.done _)
 rw [List.append_nil] at this
 exact this
theorem Rule.goes {P : Eng → List Task → Prop} (hP : Rule P) (h : OkT N e []) (hi : i < e.txs.length) (ha : (e.tx i).alive = true) (why : Int) (hp : P (e.left i why) ((e.heirs i).map .hand)) : P (e.goes i why) [] := by
 have h1 := (h.left hi ha (by simp) why).1
 rw [List.append_nil] at h1
 exact hP.run (goes_run h hi ha why) N h1 hp
theorem Rule.putsE {P : Eng → List Task → Prop} (hP : Rule P) {w : Int × Int} (h : OkT N e [.put i w]) (hp : P e [.put i w]) : P (e.puts i w) [] :=
 hP.run ((putsG_ok (goesOk e.open_) h (Nat.le_refl _)).2.2 _ (.done _)) N h hp
theorem Rule.frees {P : Eng → List Task → Prop} (hP : Rule P) (h : OkT N e []) (hi : i < e.txs.length) (ha : (e.tx i).alive = true) (hp : P ((e.over2 i).lets i) (((e.over2 i).heirs i).map .hand)) : P ((e.over2 i).frees i) [] := by
 obtain ⟨h1, _⟩ := h.over2 hi ha
 have h2 := (freesL_ok (goesOk (e.over2 i).open_) ((e.over2 i).heirs i) N ((e.over2 i).lets i) [] (by rw [List.append_nil]; exact h1) (Nat.le_refl _)).2.2 _ (.done _)
 rw [List.append_nil] at h2
 exact hP.run h2 N h1 hp
theorem sawNew_keep {P : Eng → Prop} (hn : ∀ e a b, P e → P (e.note a b)) : ∀ (l : List Int) (e : Eng), P e → P (sawNew i l e).1
 | [], e, h => h
 | a :: l, e, h => by
  unfold sawNew
  dsimp only
  split
  ·split
   ·exact hn _ _ _ h
   ·exact sawNew_keep hn l _ (hn _ _ _ h)
  ·exact sawNew_keep hn l e h
theorem sawOpen_keep {P : Eng → Prop} (hn : ∀ e a b, P e → P (e.note a b)) {key : Int} : ∀ (l : List Nat) (e : Eng), P e → P (sawOpen i key l e)
 | [], e, h => h
 | a :: l, e, h => by
  unfold sawOpen
  split
  ·exact sawOpen_keep hn l _ (hn _ _ _ h)
  ·exact sawOpen_keep hn l e h
theorem sees_keep {P : Eng → Prop} (hn : ∀ e a b, P e → P (e.note a b)) {key : Int} (h : P e) : P (e.sees i key).1 := by
 unfold Eng.sees
 dsimp only
 split
 ·exact sawOpen_keep hn _ _ (sawNew_keep hn _ _ h)
 ·exact sawNew_keep hn _ _ h
structure Same (e e' : Eng) : Prop where
 V : e'.V = e.V
 last : e'.last = e.last
 wr : e'.wr = e.wr
 hist : e'.hist = e.hist
 len : e'.txs.length = e.txs.length
 fix : ∀ j, (e'.tx j).level = (e.tx j).level ∧ (e'.tx j).start = (e.tx j).start ∧ (e'.tx j).begun = (e.tx j).begun ∧ (e'.tx j).reads = (e.tx j).reads
 over : ∀ j, (e.tx j).alive = false → (e'.tx j).state = (e.tx j).state ∧ (e'.tx j).ended = (e.tx j).ended ∧ (e'.tx j).writes = (e.tx j).writes
 live : ∀ j, (e.tx j).alive = true → (e'.tx j).alive = true ∨ ((e'.tx j).state = 3 ∧ e.count < (e'.tx j).ended)
 count : e.count ≤ e'.count
theorem Same.refl (e : Eng) : Same e e := ⟨rfl, rfl, rfl, rfl, rfl, fun _ => ⟨rfl, rfl, rfl, rfl⟩, fun _ _ => ⟨rfl, rfl, rfl⟩, fun _ h => .inl h, Int.le_refl _⟩
theorem alive_of_state {x y : Tx} (h : x.state = y.state) : x.alive = y.alive := by unfold Tx.alive; rw [h]
theorem Same.upd (h : Same e0 e) (ha : (e.tx i).alive = true) (f : Tx → Tx) (hf : ∀ x, (f x).level = x.level ∧ (f x).start = x.start ∧ (f x).begun = x.begun ∧ (f x).reads = x.reads)
  (hl : (f (e.tx i)).alive = true ∨ ((f (e.tx i)).state = 3 ∧ e.count < (f (e.tx i)).ended)) : Same e0 (e.upd i f) := by
 refine ⟨h.V, h.last, h.wr, h.hist, by rw [Eng.upd_len]; exact h.len, fun j => ?_, fun j hj => ?_, fun j hj => ?_, h.count⟩
 ·rw [Eng.upd_keep (·.level) f (fun x => (hf x).1), Eng.upd_keep (·.start) f (fun x => (hf x).2.1), Eng.upd_keep (·.begun) f (fun x => (hf x).2.2.1), Eng.upd_keep (·.reads) f (fun x => (hf x).2.2.2)]
  exact h.fix j
 ·have hji : i ≠ j := by
   intro e1; subst e1
   rw [alive_of_state (h.over i hj).1, hj] at ha
   cases ha
  rw [Eng.upd_ne hji]; exact h.over j hj
 ·rw [Eng.upd_tx]
  split
  ·rename_i hc
   obtain ⟨rfl, _⟩ := hc
   rcases hl with hl | hl
   ·exact .inl hl
   ·exact .inr ⟨hl.1, by have := h.count; omega⟩
  ·exact h.live j hj
theorem Same.note (h : Same e0 e) (a b : Nat) : Same e0 (e.note a b) := by
 have hk : ∀ {β : Type} (g : Tx → β) (_ : ∀ x l, g { x with aft := l } = g x) (_ : ∀ x l, g { x with fore := l } = g x) (j : Nat), g ((e.note a b).tx j) = g (e.tx j) := fun g h1 h2 j => Eng.note_keep g h1 h2 a b j
 refine ⟨h.V, h.last, h.wr, h.hist, by rw [Eng.note_len]; exact h.len, fun j => ?_, fun j hj => ?_, fun j hj => ?_, h.count⟩
 ·rw [hk (·.level) (fun _ _ => rfl) (fun _ _ => rfl), hk (·.start) (fun _ _ => rfl) (fun _ _ => rfl), hk (·.begun) (fun _ _ => rfl) (fun _ _ => rfl), hk (·.reads) (fun _ _ => rfl) (fun _ _ => rfl)]
  exact h.fix j
 ·rw [hk (·.state) (fun _ _ => rfl) (fun _ _ => rfl), hk (·.ended) (fun _ _ => rfl) (fun _ _ => rfl), hk (·.writes) (fun _ _ => rfl) (fun _ _ => rfl)]
  exact h.over j hj
 ·rw [hk (·.alive) (fun _ _ => rfl) (fun _ _ => rfl), hk (·.state) (fun _ _ => rfl) (fun _ _ => rfl), hk (·.ended) (fun _ _ => rfl) (fun _ _ => rfl)]
  exact h.live j hj
theorem Same.left (h : Same e0 e) (ha : (e.tx i).alive = true) (why : Int) : Same e0 (e.left i why) := by
 have h1 := h.upd ha (fun x => { x with state := 3, why := why, ended := e.count + 1 }) (fun _ => ⟨rfl, rfl, rfl, rfl⟩) (.inr ⟨rfl, by show e.count < e.count + 1; omega⟩)
 exact ⟨h1.V, h1.last, h1.wr, h1.hist, h1.len, h1.fix, h1.over, h1.live, by have := h.count; show e0.count ≤ e.count + 1; omega⟩
theorem Same.opens (h : Same e0 e) (ha : (e.tx i).alive = true) : Same e0 (e.opens i) := h.upd ha _ (fun _ => ⟨rfl, rfl, rfl, rfl⟩) (.inl (by simp [Tx.alive]))
theorem Same.wput (h : Same e0 e) (ha : (e.tx i).alive = true) (w : Int × Int) : Same e0 (e.wput i w) := h.upd ha _ (fun _ => ⟨rfl, rfl, rfl, rfl⟩) (.inl (by simpa [Tx.alive] using ha))
theorem same_rule (e0 : Eng) : Rule fun e _ => Same e0 e where
 hand _ _ _ _ h p := p.opens h.hand_lt.2.1
 late _ _ _ _ _ h _ p := p.left h.put_lt.2 10
 put _ _ _ _ _ h _ _ p := p.wput h.put_lt.2 _
 puts _ _ _ _ _ h _ _ p := p.wput h.put_lt.2 _
 asked _ _ _ _ _ _ p := p
 skip _ _ _ _ _ _ _ _ _ p := p
 note _ _ _ _ _ _ _ _ _ _ p := p.note _ _
 wrong _ _ _ _ _ _ _ h _ _ p := (p.note _ _).left h.noted.ask_lt.2 13
theorem same_goes (h : OkT N e []) (hi : i < e.txs.length) (ha : (e.tx i).alive = true) (why : Int) : Same e (e.goes i why) := (same_rule e).goes h hi ha why ((Same.refl e).left ha why)
def Eng.noted (e : Eng) (i : Nat) (key : Int) : Eng := e.upd i fun x => { x with reads := x.reads ++ [(key, (mget e.wr (((readV (e.row key) (e.asOf i)).map (·.1)).getD 0)).getD 0)] }
inductive ReadCase (e : Eng) (n key : Int) : Eng × Int × Int → Prop
 | err (x : Int) (h0 : x ≠ 0) (h8 : x ≠ 8) : ReadCase e n key (e, 0, x)
 | own (i : Nat) (v : Int) (hn : n = (i : Int) + 1) (hi : i < e.txs.length) (hs : (e.tx i).state = 0) (hv : mget (e.tx i).writes key = some v) : ReadCase e n key (e, v, 0)
 | plain (i : Nat) (hn : n = (i : Int) + 1) (hi : i < e.txs.length) (hs : (e.tx i).state = 0) (hv : mget (e.tx i).writes key = none) (hk : keyOk key) (hl : (e.tx i).level ≠ 2) :
   ReadCase e n key (e.noted i key, ((readV (e.row key) (e.asOf i)).map (·.2)).getD 0, if (readV (e.row key) (e.asOf i)).isSome then 0 else 8)
 | seen (i : Nat) (hn : n = (i : Int) + 1) (hi : i < e.txs.length) (hs : (e.tx i).state = 0) (hv : mget (e.tx i).writes key = none) (hk : keyOk key) (hl : (e.tx i).level = 2) (hr : ((e.noted i key).sees i key).2 = true) :
   ReadCase e n key (((e.noted i key).sees i key).1, ((readV (e.row key) (e.asOf i)).map (·.2)).getD 0, if (readV (e.row key) (e.asOf i)).isSome then 0 else 8)
 | gone (i : Nat) (hn : n = (i : Int) + 1) (hi : i < e.txs.length) (hs : (e.tx i).state = 0) (hv : mget (e.tx i).writes key = none) (hk : keyOk key) (hl : (e.tx i).level = 2) (hr : ((e.noted i key).sees i key).2 = false) :
   ReadCase e n key (((e.noted i key).sees i key).1.goes i 13, 0, 13)
theorem err_ne8 (e : Eng) (n : Int) (op : Bool) : e.err n op ≠ 8 := by
 unfold Eng.err
 split
 ·decide
 ·split <;> decide
theorem read_case (e : Eng) (n key : Int) : ReadCase e n key (e.read n key) := by
 unfold Eng.read
 by_cases he : e.err n true ≠ 0
 ·rw [if_pos he]; exact .err _ he (err_ne8 e n true)
 ·rw [if_neg he]
  obtain ⟨i, rfl, hi, hst⟩ := err_num (Decidable.not_not.1 he)
  have hi2 : ((i : Int) + 1).toNat - 1 = i := by omega
  have hst := hst rfl
  simp only [hi2]
  split
  ·rename_i v hv; exact .own i v rfl hi hst hv
  ·rename_i hv
   by_cases hk : keyOk key
   ·rw [if_neg (by simpa using hk)]
    by_cases hl : (e.tx i).level = 2
    ·rw [if_pos hl]
     by_cases hr : ((e.noted i key).sees i key).2 = true
     ·have := ReadCase.seen (n := (i : Int) + 1) i rfl hi hst hv hk hl hr
      unfold Eng.noted at this hr
      rw [if_pos hr]; exact this
     ·have hr' : ((e.noted i key).sees i key).2 = false := by simpa using hr
      have := ReadCase.gone (n := (i : Int) + 1) i rfl hi hst hv hk hl hr'
      unfold Eng.noted at this hr
      rw [if_neg hr]; exact this
    ·rw [if_neg hl]; exact .plain i rfl hi hst hv hk hl
   ·rw [if_pos hk]; exact .err 2 (by decide) (by decide)
def Eng.wanting (e : Eng) (i : Nat) (w : Int × Int) : Eng := e.upd i fun x => { x with want := w }
def Eng.table (e : Eng) (t : Tbl) : Eng := { e with t := t }
def waitT (t : Tbl) (n key : Int) : Tbl := { t with wait := mput t.wait n key, line := mput t.line key (lineAt t key ++ [n]) }
inductive WriteCase (e : Eng) (n key value : Int) : Eng × Bool × Int → Prop
 | err (x : Int) (h0 : x ≠ 0) : WriteCase e n key value (e, false, x)
 | cycle (i : Nat) (hn : n = (i : Int) + 1) (hi : i < e.txs.length) (hs : (e.tx i).state = 0) (hk : keyOk key) (hv : valOk value) : WriteCase e n key value (((e.wanting i (key, value)).table e.t).goes i 11, false, 11)
 | waits (i : Nat) (a : Int) (hn : n = (i : Int) + 1) (hi : i < e.txs.length) (hs : (e.tx i).state = 0) (hk : keyOk key) (hv : valOk value) (hh : mget e.t.hold key = some a) (ha : a ≠ (i : Int) + 1) :
   WriteCase e n key value (((e.wanting i (key, value)).table (waitT e.t ((i : Int) + 1) key)).upd i (fun x => { x with state := 1 }), false, 0)
 | puts (i : Nat) (t' : Tbl) (hn : n = (i : Int) + 1) (hi : i < e.txs.length) (hs : (e.tx i).state = 0) (hk : keyOk key) (hv : valOk value) (ht : t' = { e.t with hold := mput e.t.hold key ((i : Int) + 1) } ∧ mget e.t.hold key = none ∨ t' = e.t ∧ mget e.t.hold key = some ((i : Int) + 1))
   (r : Bool × Int) (hr : if (((((e.wanting i (key, value)).table t').puts i (key, value))).tx i).state = 3 then r.1 = false ∧ r.2 = (((((e.wanting i (key, value)).table t').puts i (key, value))).tx i).why else r = (true, 0)) :
   WriteCase e n key value (((e.wanting i (key, value)).table t').puts i (key, value), r)
theorem write_case (h : OkT N e []) (n key value : Int) : WriteCase e n key value (e.write n key value) := by
 unfold Eng.write
 by_cases he : e.err n true ≠ 0
 ·rw [if_pos he]; exact .err _ he
 ·rw [if_neg he]
  obtain ⟨i, rfl, hi, hst⟩ := err_num (Decidable.not_not.1 he)
  have hi2 : ((i : Int) + 1).toNat - 1 = i := by omega
  have hst := hst rfl
  by_cases hk : keyOk key
  ·rw [if_neg (by simpa using hk)]
   by_cases hv : valOk value
   ·rw [if_neg (by simpa using hv)]
    simp only [hi2]
    have hw := h.wait_none (i := i) (by omega)
    have h0 : ¬ (key < 0 ∨ 10 ≤ key ∨ (i : Int) + 1 < 1) := by have := hk.1; have := hk.2; omega
    have hfin : ∀ t' : Tbl, (t' = { e.t with hold := mput e.t.hold key ((i : Int) + 1) } ∧ mget e.t.hold key = none ∨ t' = e.t ∧ mget e.t.hold key = some ((i : Int) + 1)) →
      WriteCase e ((i : Int) + 1) key value (if (((((e.wanting i (key, value)).table t').puts i (key, value))).tx i).state = 3 then ((((e.wanting i (key, value)).table t').puts i (key, value)), false, (((((e.wanting i (key, value)).table t').puts i (key, value))).tx i).why) else ((((e.wanting i (key, value)).table t').puts i (key, value)), true, 0)) := fun t' ht => by
     split
     ·rename_i hs3; exact .puts i t' rfl hi hst hk hv ht (false, _) (by rw [if_pos hs3]; exact ⟨rfl, rfl⟩)
     ·rename_i hs3; exact .puts i t' rfl hi hst hk hv ht (true, 0) (by rw [if_neg hs3])
    unfold tbAsk
    rw [if_neg h0, hw]
    simp only [Option.isSome_none, Bool.false_eq_true, if_false]
    cases hh : mget e.t.hold key with
    | none =>
     simp only [ne_eq, not_true_eq_false, if_false, Bool.true_eq_false]
     exact hfin _ (.inl ⟨rfl, hh⟩)
    | some a =>
     simp only
     by_cases ha : a = (i : Int) + 1
     ·rw [if_pos ha]
      simp only [ne_eq, not_true_eq_false, if_false, Bool.true_eq_false]
      exact hfin _ (.inr ⟨rfl, by rw [hh, ha]⟩)
     ·rw [if_neg ha]
      by_cases hc : comesRound e.t ((i : Int) + 1) key = true
      ·rw [if_pos hc]
       rw [if_pos (show (11 : Int) ≠ 0 by decide)]
       exact .cycle i rfl hi hst hk hv
      ·rw [if_neg hc]
       simp only [ne_eq, not_true_eq_false, if_false, if_true]
       exact .waits i a rfl hi hst hk hv hh ha
   ·rw [if_pos hv]; exact .err 1 (by decide)
  ·rw [if_pos hk]; exact .err 2 (by decide)
end
end Go.Proofs.YtcbokjocahnlcaaGreatDoor
