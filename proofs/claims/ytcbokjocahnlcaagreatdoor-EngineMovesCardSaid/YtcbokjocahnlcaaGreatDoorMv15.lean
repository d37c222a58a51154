/- interleafkeep's tale: does, whatever it is; what holds of a tale, act by act; what a law sees of it. Condition: the package variable errors.errorType holds the handle of the type error. -/
import Derived.Test.YtcbokjocahnlcaaGreatDoorMv14
import Derived.Test.YtcbokjocahnlcaaGreatDoorMv12
/- interleafkeep's tale: does, when one of the last few does something: it writes. -/
namespace Go.Proofs.YtcbokjocahnlcaaGreatDoor
open Go Go.RowKit Go.Sep

set_option linter.unusedSimpArgs false in
set_option maxRecDepth 100000 in
set_option maxHeartbeats 16000000 in
theorem does_act2 (w0 w : World) (b be : Nat) (t0 : Tale) (what lvl0 tx0 key0 lv0 : Int) (L : List HProp) (N : Nat) (hwx : what = 2) (hok0 : TaleOk N t0) (hst0 : t0.steps < 1000000) (hw0 : what ≠ 0) (hw5 : what ≠ 5) (hrn : t0.recs ≠ []) (hs : S w0 w (tale2 b be t0 :: L)) :
    Calls Tryz.prog 8 #[.pointer (some ⟨b, 0, none⟩), actV what lvl0 tx0 key0, .int .i64 lv0] w fun r w' => r = .returned (.tuple #[]) ∧ S w0 w' (tale2 b be (t0.does ⟨what, lvl0, tx0, key0⟩ lv0) :: L) := by
  have HWX := hid hwx
  clear hwx
  obtain ⟨bs, k, h⟩ := hs.t2_open
  obtain ⟨⟨c7, f7⟩, h1⟩ := does_pre (what := what) (level := lvl0) (tx := tx0) (key := key0) h
  have hst := hok0.steps
  have hok := hok0.step hst0
  obtain ⟨t, ht⟩ : ∃ t, t = t0.step := ⟨_, rfl⟩
  obtain ⟨n, hn⟩ : ∃ n, n = t.recs.length := ⟨_, rfl⟩
  obtain ⟨p, hp⟩ : ∃ p, p = pickN tx0 (min 6 n) := ⟨_, rfl⟩
  obtain ⟨ky, hK⟩ : ∃ ky, ky = pickN key0 4 := ⟨_, rfl⟩
  obtain ⟨x, hx⟩ : ∃ x, x = n - p - 1 := ⟨_, rfl⟩
  have hdo : t0.does ⟨what, lvl0, tx0, key0⟩ lv0 = (t.act what x ky).overs := by
    rw [hK]
    unfold Tale.does
    simp only [if_neg hw0, if_neg hw5, if_neg hrn]
    rw [hx, hp, hn, ht]
    rfl
  have hre : t0.recs = t.recs := by rw [ht]; rfl
  have hee : t0.e = t.e := by rw [ht]; rfl
  rw [← ht, hre, hee] at h1
  rw [← ht] at hok
  rw [hre] at hrn
  have hnpos : 0 < n := by rw [hn]; exact List.length_pos_iff.2 hrn
  have hpl : p < min 6 n := by rw [hp]; exact pickN_lt tx0 (by omega)
  have hnx : (n : Int) - (p : Int) = (x : Int) + 1 := by omega
  have hxn : x < n := by omega
  have hn200 : n ≤ 200 := by rw [hn, hok.len]; exact hok.ok.few
  obtain ⟨a0, a1, a2, a3⟩ := act_see h1
  have c1 := h1.tale_see.1.level
  obtain ⟨al, cl, hlv, _, _, _⟩ := h1.tale_see.2.1
  rw [hlv, ← hn] at c1
  have hb0 : (what == 0) = false := by simpa using hw0
  have hb5 : (what == 5) = false := by simpa using hw5
  have hbn : ((n : Int) == 0) = false := by simpa using (by omega : n ≠ 0)
  have hpk4 : ∀ W, Calls Tryz.prog 16 #[.int .i64 key0, .int .i64 4] W fun e w' => e = .returned (.int .i64 ky) ∧ W = w' := fun W => by rw [hK]; exact pick_any key0 4 W (by omega) (by omega)
  have hK4 : ky < 4 := by rw [hK]; exact pickN_lt key0 (by omega)
  have HPK4 := hid hpk4
  have hpk : ∀ W, Calls Tryz.prog 16 #[.int .i64 tx0, .int .i64 (min 6 (n : Int))] W fun e w' => e = .returned (.int .i64 p) ∧ W = w' := fun W => by
    have h3 := pick_any tx0 (min 6 (n : Int)) W (by omega) (by omega)
    have e3 : (min 6 (n : Int)).toNat = min 6 n := by omega
    rw [e3, ← hp] at h3
    exact h3
  have hnw : IntKind.i64.wrap ((x : Int) + 1) = (x : Int) + 1 := IntWalk.i64_in _ (by omega)
  have hx1 : (x : Int) + 1 - 1 = (x : Int) := by omega
  have hq : ∀ W, S w0 W (taleB b be k t :: all (recPs k.vs t.recs) :: engP be bs t.e :: blk w.heap.size 28 [.int .i64 what, .int .i64 lvl0, .int .i64 tx0, .int .i64 key0] :: L) → W.cell? ⟨b, 1, none⟩ = some (.slice al n cl) ∧ W.cell? ⟨w.heap.size, 2, none⟩ = some (.int .i64 tx0) := fun W h => by
    refine ⟨?_, (act_see h).2.2.1⟩
    have := h.tale_see.1.level
    rw [hlv, ← hn] at this
    exact this
  have HPK := hid hpk; have HQ := hid hq
  have H1 := hid h1; have HDO := hid hdo; have HOK := hid hok; have HN := hid hn; have HP := hid hp; have HLV := hid hlv
  clear hs h h1 hdo hok0 hw0 hw5 hrn hlv hok hst0 ht hre hee hn hp hx hpk hq hpk4 hK
  unfold actV
  go_enter Tryz.func8, Tryz.ntmps8
  go_upto_if 139 with (go_at_call 16; with_reducible refine (HPK4.out _).mono ?_; rintro r w' ⟨rfl, rfl⟩)
  clear HPK4
  go_upto_region 16 with fail
  clear a0 a1 a2 a3 c1 c7 f7
  have H2 := H1
  refine wp_region_held_drew (S := fun w' => w'.cell? ⟨b, 1, none⟩ = some (.slice al n cl) ∧ w'.cell? ⟨w.heap.size, 2, none⟩ = some (.int .i64 tx0)) (by kernel_rfl) (HQ.out _ H2.out.drew) (fun hHeld => ?_)
  refine wpAnyH_take (i := 0) (v := ?_) rfl (by kernel_rfl) (by kernel_rfl) (by kernel_rfl) (fun _ _ _ h => h) (Or.inl ⟨by rfl, ?_⟩) hHeld ?_
  rotate_left
  · (intro w hSw; (try dsimp only at hSw); go_simp) <;> with_reducible rfl
  try simp only [putU]
  refine wpAnyH_take (i := 1) (v := ?_) rfl (by kernel_rfl) (by kernel_rfl) (by kernel_rfl) (fun _ _ _ h => h) (Or.inl ⟨by rfl, ?_⟩) hHeld ?_
  rotate_left
  · (intro w hSw; (try dsimp only at hSw); go_simp) <;> with_reducible rfl
  try simp only [putU]
  refine wpAnyH_take (i := 2) (v := ?_) rfl (by kernel_rfl) (by kernel_rfl) (by kernel_rfl) (fun _ _ _ h => h) (Or.inl ⟨by rfl, ?_⟩) hHeld ?_
  rotate_left
  · (intro w hSw; (try dsimp only at hSw); go_simp) <;> with_reducible rfl
  try simp only [putU]
  refine wpAnyH_take (i := 3) (v := ?_) rfl (by kernel_rfl) (by kernel_rfl) (by kernel_rfl) (fun _ _ _ h => h) (Or.inl ⟨by rfl, ?_⟩) hHeld ?_
  rotate_left
  · (intro w hSw; (try dsimp only at hSw); go_simp) <;> with_reducible rfl
  try simp only [putU]
  refine wpAnyH_take (i := 4) (v := ?_) rfl (by kernel_rfl) (by kernel_rfl) (by kernel_rfl) (fun _ _ _ h => h) (Or.inl ⟨by rfl, ?_⟩) hHeld ?_
  rotate_left
  · (intro w hSw; (try dsimp only at hSw); go_simp) <;> with_reducible rfl
  try simp only [putU]
  refine wpAnyH_take (i := 5) (v := ?_) rfl (by kernel_rfl) (by kernel_rfl) (by kernel_rfl) (fun _ _ _ h => h) (Or.inl ⟨by rfl, ?_⟩) hHeld ?_
  rotate_left
  · (intro w hSw; (try dsimp only at hSw); go_simp) <;> with_reducible rfl
  try simp only [putU]
  refine wpAnyH_take (i := 6) (v := ?_) rfl (by kernel_rfl) (by kernel_rfl) (by kernel_rfl) (fun _ _ _ h => h) (Or.inl ⟨by rfl, ?_⟩) hHeld ?_
  rotate_left
  · (intro w hSw; (try dsimp only at hSw); go_simp) <;> with_reducible rfl
  try simp only [putU]
  refine wpAnyH_take (i := 7) (v := ?_) rfl (by kernel_rfl) (by kernel_rfl) (by kernel_rfl) (fun _ _ _ h => h) (Or.inl ⟨by rfl, ?_⟩) hHeld ?_
  rotate_left
  · (intro w hSw; (try dsimp only at hSw); go_simp) <;> with_reducible rfl
  try simp only [putU]
  refine wpAnyH_take (i := 8) (v := ?_) rfl (by kernel_rfl) (by kernel_rfl) (by kernel_rfl) (fun _ _ _ h => h) (Or.inl ⟨by rfl, ?_⟩) hHeld ?_
  rotate_left
  · (intro w hSw; (try dsimp only at hSw); go_simp) <;> with_reducible rfl
  try simp only [putU]
  refine wpAnyH_take (i := 9) (v := ?_) rfl (by kernel_rfl) (by kernel_rfl) (by kernel_rfl) (fun _ _ _ h => h) (Or.inl ⟨by rfl, ?_⟩) hHeld ?_
  rotate_left
  · (intro w hSw; (try dsimp only at hSw); go_simp) <;> with_reducible rfl
  try simp only [putU]
  refine wpAnyH_take (i := 10) (v := ?_) rfl (by kernel_rfl) (by kernel_rfl) (by kernel_rfl) (fun _ _ _ h => h) (Or.inl ⟨by rfl, ?_⟩) hHeld ?_
  rotate_left
  · (intro w hSw; (try dsimp only at hSw); go_simp) <;> with_reducible rfl
  try simp only [putU]
  refine wpAnyH_take (i := 11) (v := ?_) rfl (by kernel_rfl) (by kernel_rfl) (by kernel_rfl) (fun _ _ _ h => h) (Or.inl ⟨by rfl, ?_⟩) hHeld ?_
  rotate_left
  · (intro w hSw; (try dsimp only at hSw); go_simp) <;> with_reducible rfl
  try simp only [putU]
  have HS := hid H2.out.drew
  clear hHeld
  refine anyH_world (fun w => Hid (S w0 w _)) HS (fun w1 HS => ?_)
  refine wpAnyH_ready (rs := [12]) (by kernel_rfl) (by simp) ?_
  refine AllReadyH.cons rfl (fun K hK => ?_) AllReadyH.nil
  go_simp
  refine hK.out _ _ (HQ.out _ HS.out) (fun _ => ?_)
  clear hK K
  refine wpAnyH_ready (rs := [13]) (by kernel_rfl) (by simp) ?_
  refine AllReadyH.cons rfl (fun K hK => ?_) AllReadyH.nil
  go_simp
  go_at_call 16
  with_reducible refine (HPK.out _).mono ?_
  rintro r w' ⟨rfl, rfl⟩
  refine hK.out _ _ (HQ.out _ HS.out) (fun _ => ?_)
  clear hK K
  refine wpAnyH_take (i := 14) (v := ?_) rfl (by kernel_rfl) (by kernel_rfl) (by kernel_rfl) (fun _ _ _ h => h) (Or.inl ⟨by rfl, ?_⟩) (HQ.out _ HS.out) ?_
  rotate_left
  · (intro w hSw; (try dsimp only at hSw); go_simp) <;> with_reducible rfl
  try simp only [putU]
  refine wpAnyH_take (i := 15) (v := ?_) rfl (by kernel_rfl) (by kernel_rfl) (by kernel_rfl) (fun _ _ _ h => h) (Or.inl ⟨by rfl, ?_⟩) (HQ.out _ HS.out) ?_
  rotate_left
  · (intro w hSw; (try dsimp only at hSw); go_simp) <;> with_reducible rfl
  try simp only [putU]
  refine wpAnyH_done (by kernel_rfl) ?_ _
  obtain ⟨a0, a1, a2, a3⟩ := act_see HS.out
  go_upto_block 0 with fail
  go_cut [] from 168 to 347 (fun wx => ∃ t' bs' k', t' = t.act what x ky ∧ t'.recs.length = n ∧ S w0 wx (taleB b be k' t' :: all (recPs k'.vs t'.recs) :: engP be bs' t'.e :: blk w.heap.size 28 [.int .i64 what, .int .i64 lvl0, .int .i64 tx0, .int .i64 key0] :: L))
  case first =>
    clear HDO HPK HQ HP hbn hnw hnx hpl H1 H2 hst
    have c0 := HS.out.tale_see.1.e
    have hfew : N ≤ 90000000 := Nat.le_trans HOK.out.few (by omega)
    have hx2 : x < t.recs.length := by rw [← HN.out]; exact hxn
    · skip
      · skip
        · skip
          · have h2 := HWX.out
            subst h2
            have hw4 : taleB b be k { t with n := t.n + 1 } = taleB b be k { t with n := t.n + 1 } := rfl
            clear hw4
            obtain ⟨E1, hE1⟩ : ∃ y, y = (t.e.write ((x : Int) + 1) ky (t.n + 1)).1 := ⟨_, rfl⟩
            obtain ⟨okb, hokb⟩ : ∃ y, y = (t.e.write ((x : Int) + 1) ky (t.n + 1)).2.1 := ⟨_, rfl⟩
            obtain ⟨er, her⟩ : ∃ y, y = (t.e.write ((x : Int) + 1) ky (t.n + 1)).2.2 := ⟨_, rfl⟩
            obtain ⟨st, hst⟩ : ∃ y, y = (t.e.state ((x : Int) + 1)).1 := ⟨_, rfl⟩
            obtain ⟨se, hse⟩ : ∃ y, y = (t.e.state ((x : Int) + 1)).2.2 := ⟨_, rfl⟩
            obtain ⟨so, hso⟩ : ∃ y, y = (E1.state ((x : Int) + 1)).1 := ⟨_, rfl⟩
            obtain ⟨m, hm⟩ : ∃ m, m = t.n + 1 := ⟨_, rfl⟩
            obtain ⟨t0', ht0'⟩ : ∃ y : Tale, y = { t with n := m } := ⟨_, rfl⟩
            obtain ⟨t1, ht1⟩ : ∃ y : Tale, y = { t with e := E1, n := m } := ⟨_, rfl⟩
            have hact : t.act 2 x ky = if se = 0 ∧ st = 0 ∧ er = 0 then (t1.updR x fun q => { q with own := mput q.own (ky : Int) m }).marked (decide (okb ≠ decide (so = 0))) else t1 := by
              rw [ht1, hso, hokb, her, hst, hse, hE1, hm]
              rfl
            have hre : t1.recs = t.recs := by rw [ht1]
            have hre0 : t0'.recs = t.recs := by rw [ht0']
            have he1 : t1.e = E1 := by rw [ht1]
            have hB1 : taleB b be k t1 = taleB b be k t0' := by rw [ht1, ht0']; rfl
            have hl1 : t1.recs.length = n := by rw [hre]; exact HN.out.symm
            have hl0 : t0'.recs.length = n := by rw [hre0]; exact HN.out.symm
            have hn8 : t0'.n = m := by rw [ht0']
            have hn81 : t1.n = m := by rw [ht1]
            obtain ⟨gl, ol, cl', gs, os, cs, go, oo, co, gr, or_, cr, b1, b2, b3, b4, b5, b6, b7, b8, hkr, hsee⟩ := read_see HN.out.symm hxn HS.out
            unfold maxLen at b2 b4 b6 b8
            have hset : ∀ W M, S w0 W (taleB b be k t :: M) → S w0 (W.setCell ⟨b, 8, none⟩ (.int .i64 m)) (taleB b be k t0' :: M) := fun W M h => by
              rw [ht0']; exact h.tale_set rfl (by decide) rfl
            have hstt := fun W M h => state2_any w0 W be bs t.e ((x : Int) + 1) M h
            rw [← hst, ← hse] at hstt
            have hwr := fun W M h => ewrite_any w0 W be bs t.e ((x : Int) + 1) ky (t.n + 1) M N HOK.out.ok hfew h
            rw [← hE1, ← hokb, ← her, ← hm] at hwr
            have hst2 := fun W M h => state2_any w0 W be bs E1 ((x : Int) + 1) M h
            rw [← hso] at hst2
            have hnb := HOK.out.n
            have hnw2 : IntKind.i64.wrap (t.n + 1) = m := by rw [hm]; exact IntWalk.i64_in _ (by omega)
            have cn := (hsee _ _ _ HN.out.symm HS.out).num
            have fn := (hsee _ _ _ HN.out.symm HS.out).free 8
            have h0s := hset _ _ HS.out
            rw [← hre0] at h0s
            have HS0 := hid h0s
            have HSET := hid hset; have HSTT := hid hstt; have HWR := hid hwr; have HST2 := hid hst2; have HACT := hid hact; have HSEE := hid hsee; have HRE := hid hre; have HRE0 := hid hre0; have HB1 := hid hB1; have HE1 := hid he1
            have HL1 := hid hl1; have HL0 := hid hl0; have HX2 := hid hx2; have HN8 := hid hn8; have HN81 := hid hn81
            clear hset hstt hwr hst2 hact hsee hre hre0 hB1 he1 hl1 hl0 hx2 hn8 hn81 hE1 hokb her hst hse hso hm ht0' ht1 HOK hfew a1 a2 a3 hb0 hb5 hkr h0s
            go_upto_region 38 with fail
            clear cn fn c0 a0 HS HSET
            have c0 := (HSEE.out _ _ _ HL0.out HS0.out).e
            have HT := hid (HSTT.out _ _ (HS0.out.conv (M := engP be bs t.e :: taleB b be k t0' :: all (recPs k.vs t0'.recs) :: blk w.heap.size 28 [.int .i64 2, .int .i64 lvl0, .int .i64 tx0, .int .i64 key0] :: L) (by simp only [all]; ac_rfl)))
            clear HSTT HS0
            go_wp2_with (go_at_call 14; with_reducible refine HT.out.mono ?_; rintro r w3 ⟨rfl, hs3⟩; have HS3 := hid hs3; clear hs3)
            have hq : ∀ W (e' : Eng), S w0 W (engP be bs e' :: taleB b be k t0' :: all (recPs k.vs t0'.recs) :: blk w.heap.size 28 [.int .i64 2, .int .i64 lvl0, .int .i64 tx0, .int .i64 key0] :: L) → W.cell? ⟨b, 0, none⟩ = some (.pointer (some ⟨be, 0, none⟩)) ∧ W.cell? ⟨b, 8, none⟩ = some (.int .i64 m) := fun W e' h => by
              have := HSEE.out _ _ _ HL0.out h.swap
              exact ⟨this.e, by rw [← HN8.out]; exact this.num⟩
            have HQ := hid hq
            have hq2 : ∀ W, S w0 W (taleB b be k t1 :: all (recPs k.vs t1.recs) :: engP be bs E1 :: blk w.heap.size 28 [.int .i64 2, .int .i64 lvl0, .int .i64 tx0, .int .i64 key0] :: L) → W.cell? ⟨b, 3, none⟩ = some (.slice (some ⟨go, oo, none⟩) n co) ∧ W.cell? ⟨go, oo + x, none⟩ = some (.map (some (k.v x).mb)) ∧ W.cell? ⟨b, 8, none⟩ = some (.int .i64 m) := fun W h => by
              have := HSEE.out _ _ _ HL1.out h
              exact ⟨this.own, this.xown, by rw [← HN81.out]; exact this.num⟩
            have HQ2 := hid hq2
            have hup : ∀ W, S w0 W (taleB b be k t1 :: all (recPs k.vs t1.recs) :: engP be bs E1 :: blk w.heap.size 28 [.int .i64 2, .int .i64 lvl0, .int .i64 tx0, .int .i64 key0] :: L) →
                ∃ w', (Instr.mapUpdate 57 (.map (some (k.v x).mb)) (.int .i64 ky) (.int .i64 m)).run Tryz.prog W = .ok () w' ∧ S w0 w' (taleB b be k (t1.updR x fun q => { q with own := mput q.own (ky : Int) m }) :: all (recPs k.vs (t1.updR x fun q => { q with own := mput q.own (ky : Int) m }).recs) :: engP be bs E1 :: blk w.heap.size 28 [.int .i64 2, .int .i64 lvl0, .int .i64 tx0, .int .i64 key0] :: L) := fun W h =>
              h.tale_own (by rw [HL1.out]; exact hxn) (ky : Int) m
            have HUP := hid hup
            have HS0 := HS3
            clear hq hq2 hup HS3 HT
            clear c0
            go_upto_region 39 with fail
            refine wp_region_held_drew (S := fun w' => w'.cell? ⟨b, 0, none⟩ = some (.pointer (some ⟨be, 0, none⟩)) ∧ w'.cell? ⟨b, 8, none⟩ = some (.int .i64 m)) (by kernel_rfl) (HQ.out _ _ HS0.out.drew) (fun hHeld => ?_)
            refine wpAnyH_take (i := 0) (v := ?_) rfl (by kernel_rfl) (by kernel_rfl) (by kernel_rfl) (fun _ _ _ h => h) (Or.inl ⟨by rfl, ?_⟩) hHeld ?_
            rotate_left
            · (intro w hSw; (try dsimp only at hSw); go_simp) <;> with_reducible rfl
            try simp only [putU]
            refine wpAnyH_take (i := 1) (v := ?_) rfl (by kernel_rfl) (by kernel_rfl) (by kernel_rfl) (fun _ _ _ h => h) (Or.inl ⟨by rfl, ?_⟩) hHeld ?_
            rotate_left
            · (intro w hSw; (try dsimp only at hSw); go_simp) <;> with_reducible rfl
            try simp only [putU]
            refine wpAnyH_take (i := 2) (v := ?_) rfl (by kernel_rfl) (by kernel_rfl) (by kernel_rfl) (fun _ _ _ h => h) (Or.inl ⟨by rfl, ?_⟩) hHeld ?_
            rotate_left
            · (intro w hSw; (try dsimp only at hSw); go_simp) <;> with_reducible rfl
            try simp only [putU]
            refine wpAnyH_take (i := 3) (v := ?_) rfl (by kernel_rfl) (by kernel_rfl) (by kernel_rfl) (fun _ _ _ h => h) (Or.inl ⟨by rfl, ?_⟩) hHeld ?_
            rotate_left
            · (intro w hSw; (try dsimp only at hSw); go_simp) <;> with_reducible rfl
            try simp only [putU]
            refine wpAnyH_take (i := 4) (v := ?_) rfl (by kernel_rfl) (by kernel_rfl) (by kernel_rfl) (fun _ _ _ h => h) (Or.inl ⟨by rfl, ?_⟩) hHeld ?_
            rotate_left
            · (intro w hSw; (try dsimp only at hSw); go_simp) <;> with_reducible rfl
            try simp only [putU]
            refine wpAnyH_take (i := 5) (v := ?_) rfl (by kernel_rfl) (by kernel_rfl) (by kernel_rfl) (fun _ _ _ h => h) (Or.inl ⟨by rfl, ?_⟩) hHeld ?_
            rotate_left
            · (intro w hSw; (try dsimp only at hSw); go_simp) <;> with_reducible rfl
            try simp only [putU]
            refine wpAnyH_take (i := 6) (v := ?_) rfl (by kernel_rfl) (by kernel_rfl) (by kernel_rfl) (fun _ _ _ h => h) (Or.inl ⟨by rfl, ?_⟩) hHeld ?_
            rotate_left
            · (intro w hSw; (try dsimp only at hSw); go_simp) <;> with_reducible rfl
            try simp only [putU]
            refine wpAnyH_take (i := 7) (v := ?_) rfl (by kernel_rfl) (by kernel_rfl) (by kernel_rfl) (fun _ _ _ h => h) (Or.inl ⟨by rfl, ?_⟩) hHeld ?_
            rotate_left
            · (intro w hSw; (try dsimp only at hSw); go_simp) <;> with_reducible rfl
            try simp only [putU]
            refine wpAnyH_take (i := 8) (v := ?_) rfl (by kernel_rfl) (by kernel_rfl) (by kernel_rfl) (fun _ _ _ h => h) (Or.inl ⟨by rfl, ?_⟩) hHeld ?_
            rotate_left
            · (intro w hSw; (try dsimp only at hSw); go_simp) <;> with_reducible rfl
            try simp only [putU]
            refine wpAnyH_take (i := 9) (v := ?_) rfl (by kernel_rfl) (by kernel_rfl) (by kernel_rfl) (fun _ _ _ h => h) (Or.inl ⟨by rfl, ?_⟩) hHeld ?_
            rotate_left
            · (intro w hSw; (try dsimp only at hSw); go_simp) <;> with_reducible rfl
            try simp only [putU]
            have HS := hid HS0.out.drew
            clear hHeld
            refine anyH_world (fun w => Hid (S w0 w _)) HS (fun w1 HS => ?_)
            clear HS0
            refine wpAnyH_ready (rs := [10]) (by kernel_rfl) (by simp) ?_
            refine AllReadyH.cons rfl (fun K hK => ?_) AllReadyH.nil
            go_simp
            go_at_call 26
            with_reducible refine (HWR.out _ _ HS.out).mono ?_
            rintro r w4 ⟨rfl, hs4⟩
            replace HS := hid hs4
            clear hs4
            refine hK.out _ _ (HQ.out _ _ HS.out) (fun _ => ?_)
            clear hK K
            refine wpAnyH_take (i := 11) (v := ?_) rfl (by kernel_rfl) (by kernel_rfl) (by kernel_rfl) (fun _ _ _ h => h) (Or.inl ⟨by rfl, ?_⟩) (HQ.out _ _ HS.out) ?_
            rotate_left
            · (intro w hSw; (try dsimp only at hSw); go_simp) <;> with_reducible rfl
            try simp only [putU]
            refine wpAnyH_take (i := 12) (v := ?_) rfl (by kernel_rfl) (by kernel_rfl) (by kernel_rfl) (fun _ _ _ h => h) (Or.inl ⟨by rfl, ?_⟩) (HQ.out _ _ HS.out) ?_
            rotate_left
            · (intro w hSw; (try dsimp only at hSw); go_simp) <;> with_reducible rfl
            try simp only [putU]
            refine wpAnyH_take (i := 13) (v := ?_) rfl (by kernel_rfl) (by kernel_rfl) (by kernel_rfl) (fun _ _ _ h => h) (Or.inl ⟨by rfl, ?_⟩) (HQ.out _ _ HS.out) ?_
            rotate_left
            · (intro w hSw; (try dsimp only at hSw); go_simp) <;> with_reducible rfl
            try simp only [putU]
            refine wpAnyH_take (i := 14) (v := ?_) rfl (by kernel_rfl) (by kernel_rfl) (by kernel_rfl) (fun _ _ _ h => h) (Or.inl ⟨by rfl, ?_⟩) (HQ.out _ _ HS.out) ?_
            rotate_left
            · (intro w hSw; (try dsimp only at hSw); go_simp) <;> with_reducible rfl
            try simp only [putU]
            refine wpAnyH_take (i := 15) (v := ?_) rfl (by kernel_rfl) (by kernel_rfl) (by kernel_rfl) (fun _ _ _ h => h) (Or.inl ⟨by rfl, ?_⟩) (HQ.out _ _ HS.out) ?_
            rotate_left
            · (intro w hSw; (try dsimp only at hSw); go_simp) <;> with_reducible rfl
            try simp only [putU]
            refine wpAnyH_done (by kernel_rfl) ?_ _
            have H4 := hid (show S w0 _ (taleB b be k t1 :: all (recPs k.vs t1.recs) :: engP be bs E1 :: blk w.heap.size 28 [.int .i64 2, .int .i64 lvl0, .int .i64 tx0, .int .i64 key0] :: L) from HS.out.conv (by rw [HB1.out, HRE.out, HRE0.out]; simp only [all]; ac_rfl))
            clear HS HWR HQ
            by_cases hA : se = 0 ∧ st = 0 ∧ er = 0
            · have ha := HACT.out
              rw [if_pos hA] at ha
              obtain ⟨e1, e2, e3⟩ := hA
              have HAC := hid ha
              have HS0 := H4
              rw [e1, e2, e3, errV_0]
              clear ha HACT H4 e1 e2 e3
              go_upto_region 41 with fail
              refine region_U (S := fun w' => w'.cell? ⟨b, 3, none⟩ = some (.slice (some ⟨go, oo, none⟩) n co) ∧ w'.cell? ⟨go, oo + x, none⟩ = some (.map (some (k.v x).mb)) ∧ w'.cell? ⟨b, 8, none⟩ = some (.int .i64 m)) (u := 12) (by kernel_rfl) (HQ2.out _ HS0.out.drew) (fun hHeld => ?_)
              refine anyU_take (i := 0) (v := ?_) rfl (by kernel_rfl) (fun _ _ _ h => h) (Or.inl ⟨by rfl, ?_⟩) hHeld ?_
              rotate_left
              · (intro w hSw; (try dsimp only at hSw); go_simp) <;> with_reducible rfl
              try simp only [putU]
              refine anyU_take (i := 1) (v := ?_) rfl (by kernel_rfl) (fun _ _ _ h => h) (Or.inl ⟨by rfl, ?_⟩) hHeld ?_
              rotate_left
              · (intro w hSw; (try dsimp only at hSw); go_simp) <;> with_reducible rfl
              try simp only [putU]
              refine anyU_take (i := 2) (v := ?_) rfl (by kernel_rfl) (fun _ _ _ h => h) (Or.inl ⟨by rfl, ?_⟩) hHeld ?_
              rotate_left
              · (intro w hSw; (try dsimp only at hSw); go_simp) <;> with_reducible rfl
              try simp only [putU]
              refine anyU_take (i := 3) (v := ?_) rfl (by kernel_rfl) (fun _ _ _ h => h) (Or.inl ⟨by rfl, ?_⟩) hHeld ?_
              rotate_left
              · (intro w hSw; (try dsimp only at hSw); go_simp) <;> with_reducible rfl
              try simp only [putU]
              refine anyU_take (i := 4) (v := ?_) rfl (by kernel_rfl) (fun _ _ _ h => h) (Or.inl ⟨by rfl, ?_⟩) hHeld ?_
              rotate_left
              · (intro w hSw; (try dsimp only at hSw); go_simp) <;> with_reducible rfl
              try simp only [putU]
              refine anyU_take (i := 5) (v := ?_) rfl (by kernel_rfl) (fun _ _ _ h => h) (Or.inl ⟨by rfl, ?_⟩) hHeld ?_
              rotate_left
              · (intro w hSw; (try dsimp only at hSw); go_simp) <;> with_reducible rfl
              try simp only [putU]
              refine anyU_take (i := 6) (v := ?_) rfl (by kernel_rfl) (fun _ _ _ h => h) (Or.inl ⟨by rfl, ?_⟩) hHeld ?_
              rotate_left
              · (intro w hSw; (try dsimp only at hSw); go_simp) <;> with_reducible rfl
              try simp only [putU]
              refine anyU_take (i := 7) (v := ?_) rfl (by kernel_rfl) (fun _ _ _ h => h) (Or.inl ⟨by rfl, ?_⟩) hHeld ?_
              rotate_left
              · (intro w hSw; (try dsimp only at hSw); go_simp) <;> with_reducible rfl
              try simp only [putU]
              refine anyU_take (i := 8) (v := ?_) rfl (by kernel_rfl) (fun _ _ _ h => h) (Or.inl ⟨by rfl, ?_⟩) hHeld ?_
              rotate_left
              · (intro w hSw; (try dsimp only at hSw); go_simp) <;> with_reducible rfl
              try simp only [putU]
              refine anyU_take (i := 9) (v := ?_) rfl (by kernel_rfl) (fun _ _ _ h => h) (Or.inl ⟨by rfl, ?_⟩) hHeld ?_
              rotate_left
              · (intro w hSw; (try dsimp only at hSw); go_simp) <;> with_reducible rfl
              try simp only [putU]
              refine anyU_take (i := 10) (v := ?_) rfl (by kernel_rfl) (fun _ _ _ h => h) (Or.inl ⟨by rfl, ?_⟩) hHeld ?_
              rotate_left
              · (intro w hSw; (try dsimp only at hSw); go_simp) <;> with_reducible rfl
              try simp only [putU]
              refine anyU_take (i := 11) (v := ?_) rfl (by kernel_rfl) (fun _ _ _ h => h) (Or.inl ⟨by rfl, ?_⟩) hHeld ?_
              rotate_left
              · (intro w hSw; (try dsimp only at hSw); go_simp) <;> with_reducible rfl
              try simp only [putU]
              have HS := hid HS0.out.drew
              clear hHeld
              refine anyU_world (fun w => Hid (S w0 w _)) HS (fun w1 HS => ?_)
              clear HS0
              refine anyU_next (rs := [12]) (by kernel_rfl) (by simp) ?_
              refine NextU.cons rfl (fun K hK => ?_) NextU.nil
              refine step_mapuE rfl 57 (.tmp 309) (.tmp 310) (.tmp 314) rfl (by rfl) (by rfl) (by rfl) (HUP.out _ HS.out) ?_
              intro w5 hs5
              have H6 := hid hs5
              clear hs5
              refine hK.out _ _ goneU ?_
              clear hK K
              try simp only [putU]
              refine anyU_done (by kernel_rfl) ?_ _
              obtain ⟨t2, ht2⟩ : ∃ y, y = t1.updR x fun q => { q with own := mput q.own (ky : Int) m } := ⟨_, rfl⟩
              have h6 := H6.out
              have ha := HAC.out
              rw [← ht2] at h6 ha
              have hl2 : t2.recs.length = n := by rw [ht2, updR_len]; exact HL1.out
              have he2 : t2.e = E1 := by rw [ht2]; exact HE1.out
              have HAC2 := hid ha; have HL2 := hid hl2; have HE2 := hid he2
              have c0 := (h6.tale_see.1).e
              have c9 := h6.tale_see.1.broken
              have f9 := h6.tale_see.1.free 9
              have hT := HST2.out _ _ (h6.conv (M := engP be bs E1 :: taleB b be k t2 :: all (recPs k.vs t2.recs) :: blk w.heap.size 28 [.int .i64 2, .int .i64 lvl0, .int .i64 tx0, .int .i64 key0] :: L) (by simp only [all]; ac_rfl))
              have HT := hid hT
              clear h6 ha ht2 hl2 he2 hT H6 HAC c9 f9 HUP HQ2
              by_cases hs : so = 0
              · have ns : (so == 0) = true := by simpa using hs
                cases okb with
                | true =>
                  have hd : decide (true ≠ decide (so = 0)) = false := by simp [hs]
                  have HD := hid hd
                  clear hs hd
                  go_upto_if 328 with (go_at_call 14; with_reducible refine HT.out.mono ?_; rintro r w7 ⟨rfl, hs7⟩; have H7 := hid (hs7.conv (M := taleB b be k t2 :: all (recPs k.vs t2.recs) :: engP be bs E1 :: blk w.heap.size 28 [.int .i64 2, .int .i64 lvl0, .int .i64 tx0, .int .i64 key0] :: L) (by simp only [all]; ac_rfl)); clear hs7)
                  have c9 := H7.out.tale_see.1.broken
                  have f9 := H7.out.tale_see.1.free 9
                  clear HT c0
                  go_wp2_with fail
                  go_meet
                  exact ⟨t2, bs, k, by rw [HAC2.out, HD.out, marked_false], HL2.out, by rw [HE2.out]; exact H7.out⟩
                | false =>
                  have hd : decide (false ≠ decide (so = 0)) = true := by simp [hs]
                  have HD := hid hd
                  clear hs hd
                  go_upto_if 328 with (go_at_call 14; with_reducible refine HT.out.mono ?_; rintro r w7 ⟨rfl, hs7⟩; have H7 := hid (hs7.conv (M := taleB b be k t2 :: all (recPs k.vs t2.recs) :: engP be bs E1 :: blk w.heap.size 28 [.int .i64 2, .int .i64 lvl0, .int .i64 tx0, .int .i64 key0] :: L) (by simp only [all]; ac_rfl)); clear hs7)
                  have c9 := H7.out.tale_see.1.broken
                  have f9 := H7.out.tale_see.1.free 9
                  clear HT c0
                  go_wp2_with fail
                  go_meet
                  exact ⟨t2.marked true, bs, k, by rw [HAC2.out, HD.out], HL2.out, by show S w0 _ (_ :: all (recPs k.vs t2.recs) :: engP be bs t2.e :: _); rw [HE2.out]; exact H7.out.tale_mark⟩
              · have ns : (so == 0) = false := by simpa using hs
                cases okb with
                | true =>
                  have hd : decide (true ≠ decide (so = 0)) = true := by simp [hs]
                  have HD := hid hd
                  clear hs hd
                  go_upto_if 328 with (go_at_call 14; with_reducible refine HT.out.mono ?_; rintro r w7 ⟨rfl, hs7⟩; have H7 := hid (hs7.conv (M := taleB b be k t2 :: all (recPs k.vs t2.recs) :: engP be bs E1 :: blk w.heap.size 28 [.int .i64 2, .int .i64 lvl0, .int .i64 tx0, .int .i64 key0] :: L) (by simp only [all]; ac_rfl)); clear hs7)
                  have c9 := H7.out.tale_see.1.broken
                  have f9 := H7.out.tale_see.1.free 9
                  clear HT c0
                  go_wp2_with fail
                  go_meet
                  exact ⟨t2.marked true, bs, k, by rw [HAC2.out, HD.out], HL2.out, by show S w0 _ (_ :: all (recPs k.vs t2.recs) :: engP be bs t2.e :: _); rw [HE2.out]; exact H7.out.tale_mark⟩
                | false =>
                  have hd : decide (false ≠ decide (so = 0)) = false := by simp [hs]
                  have HD := hid hd
                  clear hs hd
                  go_upto_if 328 with (go_at_call 14; with_reducible refine HT.out.mono ?_; rintro r w7 ⟨rfl, hs7⟩; have H7 := hid (hs7.conv (M := taleB b be k t2 :: all (recPs k.vs t2.recs) :: engP be bs E1 :: blk w.heap.size 28 [.int .i64 2, .int .i64 lvl0, .int .i64 tx0, .int .i64 key0] :: L) (by simp only [all]; ac_rfl)); clear hs7)
                  have c9 := H7.out.tale_see.1.broken
                  have f9 := H7.out.tale_see.1.free 9
                  clear HT c0
                  go_wp2_with fail
                  go_meet
                  exact ⟨t2, bs, k, by rw [HAC2.out, HD.out, marked_false], HL2.out, by rw [HE2.out]; exact H7.out⟩
            · have ha := HACT.out
              rw [if_neg hA] at ha
              have HAC := hid ha
              have HF := hid (show S w0 _ (taleB b be k t1 :: all (recPs k.vs t1.recs) :: engP be bs t1.e :: blk w.heap.size 28 [.int .i64 2, .int .i64 lvl0, .int .i64 tx0, .int .i64 key0] :: L) by rw [HE1.out]; exact H4.out)
              clear ha HACT H4 HUP HQ2 HSEE HST2
              by_cases h1 : se = 0
              · by_cases h2 : st = 0
                · have h3 : er ≠ 0 := fun h3 => hA ⟨h1, h2, h3⟩
                  rw [h1, h2, errV_0, errV_ne h3]
                  clear hA h1 h2 h3
                  go_wp2_with fail
                  go_meet
                  exact ⟨t1, bs, k, HAC.out.symm, HL1.out, HF.out⟩
                · have n2 : (st == 0) = false := by simpa using h2
                  rw [h1, errV_0]
                  clear hA h1 h2
                  go_wp2_with fail
                  go_meet
                  exact ⟨t1, bs, k, HAC.out.symm, HL1.out, HF.out⟩
              · rw [errV_ne h1]
                clear hA h1
                go_wp2_with fail
                go_meet
                exact ⟨t1, bs, k, HAC.out.symm, HL1.out, HF.out⟩
  · rename World => wX
    obtain ⟨t', bs', k', ht', hl', hs'⟩ := hcut
    have hsT : S w0 wX (taleB b be k' t' :: all (recPs k'.vs t'.recs) :: engP be bs' t'.e :: L) := (hs'.conv (M := blk w.heap.size 28 [.int .i64 what, .int .i64 lvl0, .int .i64 tx0, .int .i64 key0] :: taleB b be k' t' :: all (recPs k'.vs t'.recs) :: engP be bs' t'.e :: L) (by simp only [all]; ac_rfl)).tail
    obtain ⟨al', cl', gw, ow, cw, b1, b2, b3, b4, hlv, hwv, hoc⟩ := over_see hl' hnpos hsT
    have hend : (t'.oversTo n) = t0.does ⟨what, lvl0, tx0, key0⟩ lv0 := by rw [HDO.out, ← ht']; exact t'.oversTo_all hl'.symm
    have hstA := fun W M j (h : S w0 W (engP be bs' t'.e :: M)) => state2_any w0 W be bs' t'.e ((j : Int) + 1) M h
    obtain ⟨stp, hstp⟩ : ∃ s, s = t'.steps := ⟨_, rfl⟩
    have hone := fun j (hj : j < n) => t'.oversTo_one (j := j) (by rw [hl']; exact hj)
    have hstay := fun j (hj : j < n) => t'.oversTo_stay (j := j) (by rw [hl']; exact hj)
    have hturn := fun j (hj : j < n) => t'.oversTo_turn (j := j) (by rw [hl']; exact hj)
    have hl2 : ∀ j, (t'.oversTo j).recs.length = n := fun j => by rw [t'.oversTo_len, hl']
    have hst0' : t'.oversTo 0 = t' := t'.oversTo_zero
    have hsT0 : S w0 wX (taleB b be k' (t'.oversTo 0) :: all (recPs k'.vs (t'.oversTo 0).recs) :: engP be bs' t'.e :: L) := by rw [hst0']; exact hsT
    unfold maxLen at b2 b4
    have HS0 := hid hsT0; have HOC := hid hoc; have HEND := hid hend; have HST := hid hstA; have HONE := hid hone; have HSTAY := hid hstay; have HTURN := hid hturn; have HL2 := hid hl2; have HWV := hid hwv; have HSTP := hid hstp
    clear hs' hsT hsT0 hoc hend hstA hone hstay hturn hl2 hlv hwv hst0' ht' hl' HS H1 H2 HDO HOK HN HP HLV HPK HQ a0 a1 a2 a3 hb0 hb5 hbn hnw hx1 hnx hpl hstp
    have hc1 := (HOC.out _ _ _ (HL2.out 0) HS0.out).level
    go_wp2_with fail
    go_loopw [27] (fun c wr => ∃ j : Nat, j ≤ n ∧ c = .int .i64 j ∧ Hid (S w0 wr (taleB b be k' (t'.oversTo j) :: all (recPs k'.vs (t'.oversTo j).recs) :: engP be bs' t'.e :: L))) (fun c _ => n - (intOf c).toNat)
    case atStart => exact ⟨0, Nat.zero_le _, rfl, HS0⟩
    case round =>
      rename World => wR
      obtain ⟨j, hj, rfl, HR⟩ := hrel
      clear hc1 HS0
      obtain ⟨c0, c1, c6, c7, hrow⟩ := HOC.out _ _ _ (HL2.out j) HR.out
      by_cases hlt : j < n
      · obtain ⟨c8, f8⟩ := hrow j hlt
        rw [HONE.out j hlt] at c8
        have hst := HST.out wR _ j HR.out.rot3
        have ht := HTURN.out j hlt
        have hy := HSTAY.out j hlt
        generalize t'.e.state ((j : Int) + 1) = s at hst ht hy
        generalize hov : (t'.one j).over = ov at c8 ht hy
        have HOV := hid hov
        have HA := hid hst; have HT := hid ht; have HY := hid hy
        clear hst ht hy hrow hov
        go_wp2_with fail
        with_reducible refine HA.out.mono ?_
        rintro r w2 ⟨rfl, hs2⟩
        have HB := hid (hs2.conv (M := taleB b be k' (t'.oversTo j) :: all (recPs k'.vs (t'.oversTo j).recs) :: engP be bs' t'.e :: L) (by simp only [all]; ac_rfl))
        clear hs2 HA c0 c1 c6 c7 c8 f8
        obtain ⟨c0, c1, c6, c7, hrow⟩ := HOC.out _ _ _ (HL2.out j) HB.out
        obtain ⟨c8, f8⟩ := hrow j hlt
        rw [HONE.out j hlt] at c8
        rw [HOV.out] at c8
        by_cases ho : ov = 0
        · by_cases he : s.2.2 = 0
          · by_cases hc : 2 ≤ s.1
            · have ht := HT.out ⟨ho, he, hc⟩
              have hso : ∀ W, S w0 W (taleB b be k' (t'.oversTo j) :: all (recPs k'.vs (t'.oversTo j).recs) :: engP be bs' t'.e :: L) → S w0 (W.setCell ⟨gw, ow + j, none⟩ (.int .i64 t'.steps)) (taleB b be k' (t'.oversTo (j + 1)) :: all (recPs k'.vs (t'.oversTo (j + 1)).recs) :: engP be bs' t'.e :: L) := fun W h => by
                rw [ht]
                exact h.tale_over (by rw [HL2.out j]; exact hlt) (by rw [HL2.out j]; exact HWV.out) t'.steps
              have hbo : (ov == 0) = true := by simpa using ho
              have hbs : decide (s.1 ≥ 2) = true := by simpa using hc
              rw [he, errV_0]
              have HSO := hid hso
              have hq : ∀ W, S w0 W (taleB b be k' (t'.oversTo j) :: all (recPs k'.vs (t'.oversTo j).recs) :: engP be bs' t'.e :: L) → W.cell? ⟨b, 6, none⟩ = some (.slice (some ⟨gw, ow, none⟩) n cw) ∧ W.cell? ⟨b, 7, none⟩ = some (.int .i64 (t'.oversTo j).steps) := fun W h => by
                have := HOC.out _ _ _ (HL2.out j) h
                exact ⟨this.over, this.steps⟩
              have HQ := hid hq
              clear hso ht ho he HT HY hrow hq
              go_upto_region 54 with fail
              clear c0 c1 c6 c7 c8 f8
              refine region_U (S := fun w' => w'.cell? ⟨b, 6, none⟩ = some (.slice (some ⟨gw, ow, none⟩) n cw) ∧ w'.cell? ⟨b, 7, none⟩ = some (.int .i64 (t'.oversTo j).steps)) (u := 10) (by kernel_rfl) (HQ.out _ HB.out.drew) (fun hHeld => ?_)
              refine anyU_take (i := 0) (v := ?_) rfl (by kernel_rfl) (fun _ _ _ h => h) (Or.inl ⟨by rfl, ?_⟩) hHeld ?_
              rotate_left
              · (intro w hSw; (try dsimp only at hSw); go_simp) <;> with_reducible rfl
              try simp only [putU]
              refine anyU_take (i := 1) (v := ?_) rfl (by kernel_rfl) (fun _ _ _ h => h) (Or.inl ⟨by rfl, ?_⟩) hHeld ?_
              rotate_left
              · (intro w hSw; (try dsimp only at hSw); go_simp) <;> with_reducible rfl
              try simp only [putU]
              refine anyU_take (i := 2) (v := ?_) rfl (by kernel_rfl) (fun _ _ _ h => h) (Or.inl ⟨by rfl, ?_⟩) hHeld ?_
              rotate_left
              · (intro w hSw; (try dsimp only at hSw); go_simp) <;> with_reducible rfl
              try simp only [putU]
              refine anyU_take (i := 3) (v := ?_) rfl (by kernel_rfl) (fun _ _ _ h => h) (Or.inl ⟨by rfl, ?_⟩) hHeld ?_
              rotate_left
              · (intro w hSw; (try dsimp only at hSw); go_simp) <;> with_reducible rfl
              try simp only [putU]
              refine anyU_take (i := 4) (v := ?_) rfl (by kernel_rfl) (fun _ _ _ h => h) (Or.inl ⟨by rfl, ?_⟩) hHeld ?_
              rotate_left
              · (intro w hSw; (try dsimp only at hSw); go_simp) <;> with_reducible rfl
              try simp only [putU]
              refine anyU_take (i := 5) (v := ?_) rfl (by kernel_rfl) (fun _ _ _ h => h) (Or.inl ⟨by rfl, ?_⟩) hHeld ?_
              rotate_left
              · (intro w hSw; (try dsimp only at hSw); go_simp) <;> with_reducible rfl
              try simp only [putU]
              refine anyU_take (i := 6) (v := ?_) rfl (by kernel_rfl) (fun _ _ _ h => h) (Or.inl ⟨by rfl, ?_⟩) hHeld ?_
              rotate_left
              · (intro w hSw; (try dsimp only at hSw); go_simp) <;> with_reducible rfl
              try simp only [putU]
              refine anyU_take (i := 7) (v := ?_) rfl (by kernel_rfl) (fun _ _ _ h => h) (Or.inl ⟨by rfl, ?_⟩) hHeld ?_
              rotate_left
              · (intro w hSw; (try dsimp only at hSw); go_simp) <;> with_reducible rfl
              try simp only [putU]
              refine anyU_take (i := 8) (v := ?_) rfl (by kernel_rfl) (fun _ _ _ h => h) (Or.inl ⟨by rfl, ?_⟩) hHeld ?_
              rotate_left
              · (intro w hSw; (try dsimp only at hSw); go_simp) <;> with_reducible rfl
              try simp only [putU]
              refine anyU_take (i := 9) (v := ?_) rfl (by kernel_rfl) (fun _ _ _ h => h) (Or.inl ⟨by rfl, ?_⟩) hHeld ?_
              rotate_left
              · (intro w hSw; (try dsimp only at hSw); go_simp) <;> with_reducible rfl
              try simp only [putU]
              have HS := hid HB.out.drew
              clear hHeld
              refine anyU_world (fun w => Hid (S w0 w _)) HS (fun w1 HS => ?_)
              refine anyU_next (rs := [10]) (by kernel_rfl) (by simp) ?_
              refine NextU.cons rfl (fun K hK => ?_) NextU.nil
              have hrw := (HOC.out _ _ _ (HL2.out j) HS.out).row j hlt
              obtain ⟨c8, f8⟩ := hrw
              go_simp
              refine hK.out _ _ goneU ?_
              clear hK K
              refine anyU_done (by kernel_rfl) ?_ _
              go_wp2_with fail
              go_roundw
              case rel => exact ⟨j + 1, by omega, by go_num, hid (HSO.out _ HS.out)⟩
              case measure => simp [intOf]; omega
            · have ht := HY.out (fun h => hc h.2.2)
              have hbo : (ov == 0) = true := by simpa using ho
              have hbs : decide (s.1 ≥ 2) = false := by simpa using hc
              rw [he, errV_0]
              rw [← ht] at HB
              have HSO := HB
              clear ht ho he HT HY hrow hc HB
              go_wp2_with fail
              go_roundw
              case rel => exact ⟨j + 1, by omega, by go_num, HSO⟩
              case measure => simp [intOf]; omega
          · have ht := HY.out (fun h => he h.2.1)
            have hbo : (ov == 0) = true := by simpa using ho
            rw [errV_ne he]
            rw [← ht] at HB
            have HSO := HB
            clear ht ho HT HY hrow HB he
            go_wp2_with fail
            go_roundw
            case rel => exact ⟨j + 1, by omega, by go_num, HSO⟩
            case measure => simp [intOf]; omega
        · have ht := HY.out (fun h => ho h.1)
          have hbo : (ov == 0) = false := by simpa using ho
          rw [← ht] at HB
          have HSO := HB
          clear ht HT HY hrow HB ho
          go_wp2_with fail
          go_roundw
          case rel => exact ⟨j + 1, by omega, by go_num, HSO⟩
          case measure => simp [intOf]; omega
      · obtain rfl : j = n := by omega
        have H9 := hid (S.t2_shut (t := t'.oversTo j) HR.out)
        clear hrow
        go_wp2_with fail
        refine bodyPost_end (v := .tuple #[]) (by simp [results, Tryz.results8, go_sem]) rfl ?_
        exact ⟨rfl, by rw [← HEND.out]; exact H9.out⟩
end Go.Proofs.YtcbokjocahnlcaaGreatDoor
/- interleafkeep's tale: does, when one of the last few does something: it commits, aborts, or does nothing. -/
namespace Go.Proofs.YtcbokjocahnlcaaGreatDoor
open Go Go.RowKit Go.Sep

set_option linter.unusedSimpArgs false in
set_option maxRecDepth 100000 in
set_option maxHeartbeats 16000000 in
theorem does_act3 (w0 w : World) (b be : Nat) (t0 : Tale) (what lvl0 tx0 key0 lv0 : Int) (L : List HProp) (N : Nat) (hE : ErrT w0) (hwx : what ≠ 1 ∧ what ≠ 2) (hok0 : TaleOk N t0) (hst0 : t0.steps < 1000000) (hw0 : what ≠ 0) (hw5 : what ≠ 5) (hrn : t0.recs ≠ []) (hs : S w0 w (tale2 b be t0 :: L)) :
    Calls Tryz.prog 8 #[.pointer (some ⟨b, 0, none⟩), actV what lvl0 tx0 key0, .int .i64 lv0] w fun r w' => r = .returned (.tuple #[]) ∧ S w0 w' (tale2 b be (t0.does ⟨what, lvl0, tx0, key0⟩ lv0) :: L) := by
  obtain ⟨bs, k, h⟩ := hs.t2_open
  obtain ⟨⟨c7, f7⟩, h1⟩ := does_pre (what := what) (level := lvl0) (tx := tx0) (key := key0) h
  have hst := hok0.steps
  have hok := hok0.step hst0
  obtain ⟨t, ht⟩ : ∃ t, t = t0.step := ⟨_, rfl⟩
  obtain ⟨n, hn⟩ : ∃ n, n = t.recs.length := ⟨_, rfl⟩
  obtain ⟨p, hp⟩ : ∃ p, p = pickN tx0 (min 6 n) := ⟨_, rfl⟩
  obtain ⟨ky, hK⟩ : ∃ ky, ky = pickN key0 4 := ⟨_, rfl⟩
  obtain ⟨x, hx⟩ : ∃ x, x = n - p - 1 := ⟨_, rfl⟩
  have hdo : t0.does ⟨what, lvl0, tx0, key0⟩ lv0 = (t.act what x ky).overs := by
    rw [hK]
    unfold Tale.does
    simp only [if_neg hw0, if_neg hw5, if_neg hrn]
    rw [hx, hp, hn, ht]
    rfl
  have hre : t0.recs = t.recs := by rw [ht]; rfl
  have hee : t0.e = t.e := by rw [ht]; rfl
  rw [← ht, hre, hee] at h1
  rw [← ht] at hok
  rw [hre] at hrn
  have hnpos : 0 < n := by rw [hn]; exact List.length_pos_iff.2 hrn
  have hpl : p < min 6 n := by rw [hp]; exact pickN_lt tx0 (by omega)
  have hnx : (n : Int) - (p : Int) = (x : Int) + 1 := by omega
  have hxn : x < n := by omega
  have hn200 : n ≤ 200 := by rw [hn, hok.len]; exact hok.ok.few
  obtain ⟨a0, a1, a2, a3⟩ := act_see h1
  have c1 := h1.tale_see.1.level
  obtain ⟨al, cl, hlv, _, _, _⟩ := h1.tale_see.2.1
  rw [hlv, ← hn] at c1
  have hb0 : (what == 0) = false := by simpa using hw0
  have hb5 : (what == 5) = false := by simpa using hw5
  have hbn : ((n : Int) == 0) = false := by simpa using (by omega : n ≠ 0)
  have hpk4 : ∀ W, Calls Tryz.prog 16 #[.int .i64 key0, .int .i64 4] W fun e w' => e = .returned (.int .i64 ky) ∧ W = w' := fun W => by rw [hK]; exact pick_any key0 4 W (by omega) (by omega)
  have hK4 : ky < 4 := by rw [hK]; exact pickN_lt key0 (by omega)
  have HPK4 := hid hpk4
  have hpk : ∀ W, Calls Tryz.prog 16 #[.int .i64 tx0, .int .i64 (min 6 (n : Int))] W fun e w' => e = .returned (.int .i64 p) ∧ W = w' := fun W => by
    have h3 := pick_any tx0 (min 6 (n : Int)) W (by omega) (by omega)
    have e3 : (min 6 (n : Int)).toNat = min 6 n := by omega
    rw [e3, ← hp] at h3
    exact h3
  have hnw : IntKind.i64.wrap ((x : Int) + 1) = (x : Int) + 1 := IntWalk.i64_in _ (by omega)
  have hx1 : (x : Int) + 1 - 1 = (x : Int) := by omega
  have hq : ∀ W, S w0 W (taleB b be k t :: all (recPs k.vs t.recs) :: engP be bs t.e :: blk w.heap.size 28 [.int .i64 what, .int .i64 lvl0, .int .i64 tx0, .int .i64 key0] :: L) → W.cell? ⟨b, 1, none⟩ = some (.slice al n cl) ∧ W.cell? ⟨w.heap.size, 2, none⟩ = some (.int .i64 tx0) := fun W h => by
    refine ⟨?_, (act_see h).2.2.1⟩
    have := h.tale_see.1.level
    rw [hlv, ← hn] at this
    exact this
  have HPK := hid hpk; have HQ := hid hq
  have H1 := hid h1; have HDO := hid hdo; have HOK := hid hok; have HN := hid hn; have HP := hid hp; have HLV := hid hlv
  clear hs h h1 hdo hok0 hw0 hw5 hrn hlv hok hst0 ht hre hee hn hp hx hpk hq hpk4 hK
  unfold actV
  go_enter Tryz.func8, Tryz.ntmps8
  go_upto_if 139 with (go_at_call 16; with_reducible refine (HPK4.out _).mono ?_; rintro r w' ⟨rfl, rfl⟩)
  clear HPK4
  go_upto_region 16 with fail
  clear a0 a1 a2 a3 c1 c7 f7
  have H2 := H1
  refine wp_region_held_drew (S := fun w' => w'.cell? ⟨b, 1, none⟩ = some (.slice al n cl) ∧ w'.cell? ⟨w.heap.size, 2, none⟩ = some (.int .i64 tx0)) (by kernel_rfl) (HQ.out _ H2.out.drew) (fun hHeld => ?_)
  refine wpAnyH_take (i := 0) (v := ?_) rfl (by kernel_rfl) (by kernel_rfl) (by kernel_rfl) (fun _ _ _ h => h) (Or.inl ⟨by rfl, ?_⟩) hHeld ?_
  rotate_left
  · (intro w hSw; (try dsimp only at hSw); go_simp) <;> with_reducible rfl
  try simp only [putU]
  refine wpAnyH_take (i := 1) (v := ?_) rfl (by kernel_rfl) (by kernel_rfl) (by kernel_rfl) (fun _ _ _ h => h) (Or.inl ⟨by rfl, ?_⟩) hHeld ?_
  rotate_left
  · (intro w hSw; (try dsimp only at hSw); go_simp) <;> with_reducible rfl
  try simp only [putU]
  refine wpAnyH_take (i := 2) (v := ?_) rfl (by kernel_rfl) (by kernel_rfl) (by kernel_rfl) (fun _ _ _ h => h) (Or.inl ⟨by rfl, ?_⟩) hHeld ?_
  rotate_left
  · (intro w hSw; (try dsimp only at hSw); go_simp) <;> with_reducible rfl
  try simp only [putU]
  refine wpAnyH_take (i := 3) (v := ?_) rfl (by kernel_rfl) (by kernel_rfl) (by kernel_rfl) (fun _ _ _ h => h) (Or.inl ⟨by rfl, ?_⟩) hHeld ?_
  rotate_left
  · (intro w hSw; (try dsimp only at hSw); go_simp) <;> with_reducible rfl
  try simp only [putU]
  refine wpAnyH_take (i := 4) (v := ?_) rfl (by kernel_rfl) (by kernel_rfl) (by kernel_rfl) (fun _ _ _ h => h) (Or.inl ⟨by rfl, ?_⟩) hHeld ?_
  rotate_left
  · (intro w hSw; (try dsimp only at hSw); go_simp) <;> with_reducible rfl
  try simp only [putU]
  refine wpAnyH_take (i := 5) (v := ?_) rfl (by kernel_rfl) (by kernel_rfl) (by kernel_rfl) (fun _ _ _ h => h) (Or.inl ⟨by rfl, ?_⟩) hHeld ?_
  rotate_left
  · (intro w hSw; (try dsimp only at hSw); go_simp) <;> with_reducible rfl
  try simp only [putU]
  refine wpAnyH_take (i := 6) (v := ?_) rfl (by kernel_rfl) (by kernel_rfl) (by kernel_rfl) (fun _ _ _ h => h) (Or.inl ⟨by rfl, ?_⟩) hHeld ?_
  rotate_left
  · (intro w hSw; (try dsimp only at hSw); go_simp) <;> with_reducible rfl
  try simp only [putU]
  refine wpAnyH_take (i := 7) (v := ?_) rfl (by kernel_rfl) (by kernel_rfl) (by kernel_rfl) (fun _ _ _ h => h) (Or.inl ⟨by rfl, ?_⟩) hHeld ?_
  rotate_left
  · (intro w hSw; (try dsimp only at hSw); go_simp) <;> with_reducible rfl
  try simp only [putU]
  refine wpAnyH_take (i := 8) (v := ?_) rfl (by kernel_rfl) (by kernel_rfl) (by kernel_rfl) (fun _ _ _ h => h) (Or.inl ⟨by rfl, ?_⟩) hHeld ?_
  rotate_left
  · (intro w hSw; (try dsimp only at hSw); go_simp) <;> with_reducible rfl
  try simp only [putU]
  refine wpAnyH_take (i := 9) (v := ?_) rfl (by kernel_rfl) (by kernel_rfl) (by kernel_rfl) (fun _ _ _ h => h) (Or.inl ⟨by rfl, ?_⟩) hHeld ?_
  rotate_left
  · (intro w hSw; (try dsimp only at hSw); go_simp) <;> with_reducible rfl
  try simp only [putU]
  refine wpAnyH_take (i := 10) (v := ?_) rfl (by kernel_rfl) (by kernel_rfl) (by kernel_rfl) (fun _ _ _ h => h) (Or.inl ⟨by rfl, ?_⟩) hHeld ?_
  rotate_left
  · (intro w hSw; (try dsimp only at hSw); go_simp) <;> with_reducible rfl
  try simp only [putU]
  refine wpAnyH_take (i := 11) (v := ?_) rfl (by kernel_rfl) (by kernel_rfl) (by kernel_rfl) (fun _ _ _ h => h) (Or.inl ⟨by rfl, ?_⟩) hHeld ?_
  rotate_left
  · (intro w hSw; (try dsimp only at hSw); go_simp) <;> with_reducible rfl
  try simp only [putU]
  have HS := hid H2.out.drew
  clear hHeld
  refine anyH_world (fun w => Hid (S w0 w _)) HS (fun w1 HS => ?_)
  refine wpAnyH_ready (rs := [12]) (by kernel_rfl) (by simp) ?_
  refine AllReadyH.cons rfl (fun K hK => ?_) AllReadyH.nil
  go_simp
  refine hK.out _ _ (HQ.out _ HS.out) (fun _ => ?_)
  clear hK K
  refine wpAnyH_ready (rs := [13]) (by kernel_rfl) (by simp) ?_
  refine AllReadyH.cons rfl (fun K hK => ?_) AllReadyH.nil
  go_simp
  go_at_call 16
  with_reducible refine (HPK.out _).mono ?_
  rintro r w' ⟨rfl, rfl⟩
  refine hK.out _ _ (HQ.out _ HS.out) (fun _ => ?_)
  clear hK K
  refine wpAnyH_take (i := 14) (v := ?_) rfl (by kernel_rfl) (by kernel_rfl) (by kernel_rfl) (fun _ _ _ h => h) (Or.inl ⟨by rfl, ?_⟩) (HQ.out _ HS.out) ?_
  rotate_left
  · (intro w hSw; (try dsimp only at hSw); go_simp) <;> with_reducible rfl
  try simp only [putU]
  refine wpAnyH_take (i := 15) (v := ?_) rfl (by kernel_rfl) (by kernel_rfl) (by kernel_rfl) (fun _ _ _ h => h) (Or.inl ⟨by rfl, ?_⟩) (HQ.out _ HS.out) ?_
  rotate_left
  · (intro w hSw; (try dsimp only at hSw); go_simp) <;> with_reducible rfl
  try simp only [putU]
  refine wpAnyH_done (by kernel_rfl) ?_ _
  obtain ⟨a0, a1, a2, a3⟩ := act_see HS.out
  go_upto_block 0 with fail
  go_cut [] from 168 to 347 (fun wx => ∃ t' bs' k', t' = t.act what x ky ∧ t'.recs.length = n ∧ S w0 wx (taleB b be k' t' :: all (recPs k'.vs t'.recs) :: engP be bs' t'.e :: blk w.heap.size 28 [.int .i64 what, .int .i64 lvl0, .int .i64 tx0, .int .i64 key0] :: L))
  case first =>
    clear HDO HPK HQ HP hbn hnw hnx hpl H1 H2 hst
    have c0 := HS.out.tale_see.1.e
    have hfew : N ≤ 90000000 := Nat.le_trans HOK.out.few (by omega)
    have hx2 : x < t.recs.length := by rw [← HN.out]; exact hxn
    by_cases h3 : what = 3
    · subst h3
      have hcm := ecommit_any w0 w1 be bs t.e ((x : Int) + 1) _ N hE HOK.out.ok hfew HS.out.rot3
      have HA := hid hcm
      have HR := hid HN.out
      clear hcm HS HOK HN a1 a2 a3 hb0 hb5
      go_wp2_with fail
      with_reducible refine HA.out.mono ?_
      rintro r w2 ⟨rfl, hs2⟩
      have HB := hid (hs2.conv (M := taleB b be k t :: all (recPs k.vs t.recs) :: engP be bs (t.e.commit ((x : Int) + 1)).1 :: blk w.heap.size 28 [.int .i64 3, .int .i64 lvl0, .int .i64 tx0, .int .i64 key0] :: L) (by simp only [all]; ac_rfl))
      clear hs2 HA c0 a0
      go_wp2_with fail
      go_meet
      exact ⟨{ t with e := (t.e.commit ((x : Int) + 1)).1 }, bs, k, by simp [Tale.act], HR.out.symm, HB.out⟩
    · by_cases h4 : what = 4
      · subst h4
        have hcm := abort_any w0 w1 be bs t.e ((x : Int) + 1) _ N HOK.out.ok (Nat.le_trans hfew (by omega)) HS.out.rot3
        have HA := hid hcm
        have HR := hid HN.out
        clear hcm HS HOK HN a1 a2 a3 hb0 hb5
        go_wp2_with fail
        with_reducible refine HA.out.mono ?_
        rintro r w2 ⟨rfl, hs2⟩
        have HB := hid (hs2.conv (M := taleB b be k t :: all (recPs k.vs t.recs) :: engP be bs (t.e.abort ((x : Int) + 1)).1 :: blk w.heap.size 28 [.int .i64 4, .int .i64 lvl0, .int .i64 tx0, .int .i64 key0] :: L) (by simp only [all]; ac_rfl))
        clear hs2 HA c0 a0
        go_wp2_with fail
        go_meet
        exact ⟨{ t with e := (t.e.abort ((x : Int) + 1)).1 }, bs, k, by simp [Tale.act], HR.out.symm, HB.out⟩
      · obtain ⟨h1, h2⟩ := hwx
        · skip
          · have e1 : (what == 1) = false := by simpa using h1
            have e2 : (what == 2) = false := by simpa using h2
            have e3 : (what == 3) = false := by simpa using h3
            have e4 : (what == 4) = false := by simpa using h4
            have ha : t.act what x ky = t := by unfold Tale.act; rw [if_neg h1, if_neg h2, if_neg h3, if_neg h4]
            have HR := hid HN.out; have HAC := hid ha
            clear h1 h2 h3 h4 ha HN HOK a1 a2 a3 hb0 hb5
            go_wp2_with fail
            go_meet
            exact ⟨t, bs, k, HAC.out.symm, HR.out.symm, HS.out⟩
  · rename World => wX
    obtain ⟨t', bs', k', ht', hl', hs'⟩ := hcut
    have hsT : S w0 wX (taleB b be k' t' :: all (recPs k'.vs t'.recs) :: engP be bs' t'.e :: L) := (hs'.conv (M := blk w.heap.size 28 [.int .i64 what, .int .i64 lvl0, .int .i64 tx0, .int .i64 key0] :: taleB b be k' t' :: all (recPs k'.vs t'.recs) :: engP be bs' t'.e :: L) (by simp only [all]; ac_rfl)).tail
    obtain ⟨al', cl', gw, ow, cw, b1, b2, b3, b4, hlv, hwv, hoc⟩ := over_see hl' hnpos hsT
    have hend : (t'.oversTo n) = t0.does ⟨what, lvl0, tx0, key0⟩ lv0 := by rw [HDO.out, ← ht']; exact t'.oversTo_all hl'.symm
    have hstA := fun W M j (h : S w0 W (engP be bs' t'.e :: M)) => state2_any w0 W be bs' t'.e ((j : Int) + 1) M h
    obtain ⟨stp, hstp⟩ : ∃ s, s = t'.steps := ⟨_, rfl⟩
    have hone := fun j (hj : j < n) => t'.oversTo_one (j := j) (by rw [hl']; exact hj)
    have hstay := fun j (hj : j < n) => t'.oversTo_stay (j := j) (by rw [hl']; exact hj)
    have hturn := fun j (hj : j < n) => t'.oversTo_turn (j := j) (by rw [hl']; exact hj)
    have hl2 : ∀ j, (t'.oversTo j).recs.length = n := fun j => by rw [t'.oversTo_len, hl']
    have hst0' : t'.oversTo 0 = t' := t'.oversTo_zero
    have hsT0 : S w0 wX (taleB b be k' (t'.oversTo 0) :: all (recPs k'.vs (t'.oversTo 0).recs) :: engP be bs' t'.e :: L) := by rw [hst0']; exact hsT
    unfold maxLen at b2 b4
    have HS0 := hid hsT0; have HOC := hid hoc; have HEND := hid hend; have HST := hid hstA; have HONE := hid hone; have HSTAY := hid hstay; have HTURN := hid hturn; have HL2 := hid hl2; have HWV := hid hwv; have HSTP := hid hstp
    clear hs' hsT hsT0 hoc hend hstA hone hstay hturn hl2 hlv hwv hst0' ht' hl' HS H1 H2 HDO HOK HN HP HLV HPK HQ a0 a1 a2 a3 hb0 hb5 hbn hnw hx1 hnx hpl hstp
    have hc1 := (HOC.out _ _ _ (HL2.out 0) HS0.out).level
    go_wp2_with fail
    go_loopw [27] (fun c wr => ∃ j : Nat, j ≤ n ∧ c = .int .i64 j ∧ Hid (S w0 wr (taleB b be k' (t'.oversTo j) :: all (recPs k'.vs (t'.oversTo j).recs) :: engP be bs' t'.e :: L))) (fun c _ => n - (intOf c).toNat)
    case atStart => exact ⟨0, Nat.zero_le _, rfl, HS0⟩
    case round =>
      rename World => wR
      obtain ⟨j, hj, rfl, HR⟩ := hrel
      clear hc1 HS0
      obtain ⟨c0, c1, c6, c7, hrow⟩ := HOC.out _ _ _ (HL2.out j) HR.out
      by_cases hlt : j < n
      · obtain ⟨c8, f8⟩ := hrow j hlt
        rw [HONE.out j hlt] at c8
        have hst := HST.out wR _ j HR.out.rot3
        have ht := HTURN.out j hlt
        have hy := HSTAY.out j hlt
        generalize t'.e.state ((j : Int) + 1) = s at hst ht hy
        generalize hov : (t'.one j).over = ov at c8 ht hy
        have HOV := hid hov
        have HA := hid hst; have HT := hid ht; have HY := hid hy
        clear hst ht hy hrow hov
        go_wp2_with fail
        with_reducible refine HA.out.mono ?_
        rintro r w2 ⟨rfl, hs2⟩
        have HB := hid (hs2.conv (M := taleB b be k' (t'.oversTo j) :: all (recPs k'.vs (t'.oversTo j).recs) :: engP be bs' t'.e :: L) (by simp only [all]; ac_rfl))
        clear hs2 HA c0 c1 c6 c7 c8 f8
        obtain ⟨c0, c1, c6, c7, hrow⟩ := HOC.out _ _ _ (HL2.out j) HB.out
        obtain ⟨c8, f8⟩ := hrow j hlt
        rw [HONE.out j hlt] at c8
        rw [HOV.out] at c8
        by_cases ho : ov = 0
        · by_cases he : s.2.2 = 0
          · by_cases hc : 2 ≤ s.1
            · have ht := HT.out ⟨ho, he, hc⟩
              have hso : ∀ W, S w0 W (taleB b be k' (t'.oversTo j) :: all (recPs k'.vs (t'.oversTo j).recs) :: engP be bs' t'.e :: L) → S w0 (W.setCell ⟨gw, ow + j, none⟩ (.int .i64 t'.steps)) (taleB b be k' (t'.oversTo (j + 1)) :: all (recPs k'.vs (t'.oversTo (j + 1)).recs) :: engP be bs' t'.e :: L) := fun W h => by
                rw [ht]
                exact h.tale_over (by rw [HL2.out j]; exact hlt) (by rw [HL2.out j]; exact HWV.out) t'.steps
              have hbo : (ov == 0) = true := by simpa using ho
              have hbs : decide (s.1 ≥ 2) = true := by simpa using hc
              rw [he, errV_0]
              have HSO := hid hso
              have hq : ∀ W, S w0 W (taleB b be k' (t'.oversTo j) :: all (recPs k'.vs (t'.oversTo j).recs) :: engP be bs' t'.e :: L) → W.cell? ⟨b, 6, none⟩ = some (.slice (some ⟨gw, ow, none⟩) n cw) ∧ W.cell? ⟨b, 7, none⟩ = some (.int .i64 (t'.oversTo j).steps) := fun W h => by
                have := HOC.out _ _ _ (HL2.out j) h
                exact ⟨this.over, this.steps⟩
              have HQ := hid hq
              clear hso ht ho he HT HY hrow hq
              go_upto_region 54 with fail
              clear c0 c1 c6 c7 c8 f8
              refine region_U (S := fun w' => w'.cell? ⟨b, 6, none⟩ = some (.slice (some ⟨gw, ow, none⟩) n cw) ∧ w'.cell? ⟨b, 7, none⟩ = some (.int .i64 (t'.oversTo j).steps)) (u := 10) (by kernel_rfl) (HQ.out _ HB.out.drew) (fun hHeld => ?_)
              refine anyU_take (i := 0) (v := ?_) rfl (by kernel_rfl) (fun _ _ _ h => h) (Or.inl ⟨by rfl, ?_⟩) hHeld ?_
              rotate_left
              · (intro w hSw; (try dsimp only at hSw); go_simp) <;> with_reducible rfl
              try simp only [putU]
              refine anyU_take (i := 1) (v := ?_) rfl (by kernel_rfl) (fun _ _ _ h => h) (Or.inl ⟨by rfl, ?_⟩) hHeld ?_
              rotate_left
              · (intro w hSw; (try dsimp only at hSw); go_simp) <;> with_reducible rfl
              try simp only [putU]
              refine anyU_take (i := 2) (v := ?_) rfl (by kernel_rfl) (fun _ _ _ h => h) (Or.inl ⟨by rfl, ?_⟩) hHeld ?_
              rotate_left
              · (intro w hSw; (try dsimp only at hSw); go_simp) <;> with_reducible rfl
              try simp only [putU]
              refine anyU_take (i := 3) (v := ?_) rfl (by kernel_rfl) (fun _ _ _ h => h) (Or.inl ⟨by rfl, ?_⟩) hHeld ?_
              rotate_left
              · (intro w hSw; (try dsimp only at hSw); go_simp) <;> with_reducible rfl
              try simp only [putU]
              refine anyU_take (i := 4) (v := ?_) rfl (by kernel_rfl) (fun _ _ _ h => h) (Or.inl ⟨by rfl, ?_⟩) hHeld ?_
              rotate_left
              · (intro w hSw; (try dsimp only at hSw); go_simp) <;> with_reducible rfl
              try simp only [putU]
              refine anyU_take (i := 5) (v := ?_) rfl (by kernel_rfl) (fun _ _ _ h => h) (Or.inl ⟨by rfl, ?_⟩) hHeld ?_
              rotate_left
              · (intro w hSw; (try dsimp only at hSw); go_simp) <;> with_reducible rfl
              try simp only [putU]
              refine anyU_take (i := 6) (v := ?_) rfl (by kernel_rfl) (fun _ _ _ h => h) (Or.inl ⟨by rfl, ?_⟩) hHeld ?_
              rotate_left
              · (intro w hSw; (try dsimp only at hSw); go_simp) <;> with_reducible rfl
              try simp only [putU]
              refine anyU_take (i := 7) (v := ?_) rfl (by kernel_rfl) (fun _ _ _ h => h) (Or.inl ⟨by rfl, ?_⟩) hHeld ?_
              rotate_left
              · (intro w hSw; (try dsimp only at hSw); go_simp) <;> with_reducible rfl
              try simp only [putU]
              refine anyU_take (i := 8) (v := ?_) rfl (by kernel_rfl) (fun _ _ _ h => h) (Or.inl ⟨by rfl, ?_⟩) hHeld ?_
              rotate_left
              · (intro w hSw; (try dsimp only at hSw); go_simp) <;> with_reducible rfl
              try simp only [putU]
              refine anyU_take (i := 9) (v := ?_) rfl (by kernel_rfl) (fun _ _ _ h => h) (Or.inl ⟨by rfl, ?_⟩) hHeld ?_
              rotate_left
              · (intro w hSw; (try dsimp only at hSw); go_simp) <;> with_reducible rfl
              try simp only [putU]
              have HS := hid HB.out.drew
              clear hHeld
              refine anyU_world (fun w => Hid (S w0 w _)) HS (fun w1 HS => ?_)
              refine anyU_next (rs := [10]) (by kernel_rfl) (by simp) ?_
              refine NextU.cons rfl (fun K hK => ?_) NextU.nil
              have hrw := (HOC.out _ _ _ (HL2.out j) HS.out).row j hlt
              obtain ⟨c8, f8⟩ := hrw
              go_simp
              refine hK.out _ _ goneU ?_
              clear hK K
              refine anyU_done (by kernel_rfl) ?_ _
              go_wp2_with fail
              go_roundw
              case rel => exact ⟨j + 1, by omega, by go_num, hid (HSO.out _ HS.out)⟩
              case measure => simp [intOf]; omega
            · have ht := HY.out (fun h => hc h.2.2)
              have hbo : (ov == 0) = true := by simpa using ho
              have hbs : decide (s.1 ≥ 2) = false := by simpa using hc
              rw [he, errV_0]
              rw [← ht] at HB
              have HSO := HB
              clear ht ho he HT HY hrow hc HB
              go_wp2_with fail
              go_roundw
              case rel => exact ⟨j + 1, by omega, by go_num, HSO⟩
              case measure => simp [intOf]; omega
          · have ht := HY.out (fun h => he h.2.1)
            have hbo : (ov == 0) = true := by simpa using ho
            rw [errV_ne he]
            rw [← ht] at HB
            have HSO := HB
            clear ht ho HT HY hrow HB he
            go_wp2_with fail
            go_roundw
            case rel => exact ⟨j + 1, by omega, by go_num, HSO⟩
            case measure => simp [intOf]; omega
        · have ht := HY.out (fun h => ho h.1)
          have hbo : (ov == 0) = false := by simpa using ho
          rw [← ht] at HB
          have HSO := HB
          clear ht HT HY hrow HB ho
          go_wp2_with fail
          go_roundw
          case rel => exact ⟨j + 1, by omega, by go_num, HSO⟩
          case measure => simp [intOf]; omega
      · obtain rfl : j = n := by omega
        have H9 := hid (S.t2_shut (t := t'.oversTo j) HR.out)
        clear hrow
        go_wp2_with fail
        refine bodyPost_end (v := .tuple #[]) (by simp [results, Tryz.results8, go_sem]) rfl ?_
        exact ⟨rfl, by rw [← HEND.out]; exact H9.out⟩
end Go.Proofs.YtcbokjocahnlcaaGreatDoor
/- interleafkeep's tale: does, when it sweeps, when there is none, and when one of the last few does something. -/
namespace Go.Proofs.YtcbokjocahnlcaaGreatDoor
open Go Go.RowKit Go.Sep

theorem does_act (w0 w : World) (b be : Nat) (t0 : Tale) (what lvl0 tx0 key0 lv0 : Int) (L : List HProp) (N : Nat) (hE : ErrT w0) (hok0 : TaleOk N t0) (hst0 : t0.steps < 1000000) (hw0 : what ≠ 0) (hw5 : what ≠ 5) (hrn : t0.recs ≠ []) (hs : S w0 w (tale2 b be t0 :: L)) :
    Calls Tryz.prog 8 #[.pointer (some ⟨b, 0, none⟩), actV what lvl0 tx0 key0, .int .i64 lv0] w fun r w' => r = .returned (.tuple #[]) ∧ S w0 w' (tale2 b be (t0.does ⟨what, lvl0, tx0, key0⟩ lv0) :: L) := by
  by_cases h1 : what = 1
  · exact does_act1 w0 w b be t0 what lvl0 tx0 key0 lv0 L N hE h1 hok0 hst0 hw0 hw5 hrn hs
  · by_cases h2 : what = 2
    · exact does_act2 w0 w b be t0 what lvl0 tx0 key0 lv0 L N h2 hok0 hst0 hw0 hw5 hrn hs
    · exact does_act3 w0 w b be t0 what lvl0 tx0 key0 lv0 L N hE ⟨h1, h2⟩ hok0 hst0 hw0 hw5 hrn hs
end Go.Proofs.YtcbokjocahnlcaaGreatDoor
namespace Go.Proofs.YtcbokjocahnlcaaGreatDoor
open Go Go.RowKit Go.Sep

/-- What holds of a tale behind so many acts. -/
structure TaleB (M : Nat) (t : Tale) : Prop where
  ok : OkT (M * 1000 + 10) t.e []
  law : TaleL t
  hist : HistOk t.e
  steps : t.steps = M
  n : 0 ≤ t.n ∧ t.n ≤ M
  reads : ∀ r ∈ t.recs, r.reads.length ≤ M ∧ r.snap.length ≤ 10
theorem TaleB.start : TaleB 0 .start := ⟨OkT.start, TaleL.start, HistOk.start, rfl, ⟨by decide, by decide⟩, by simp [Tale.start]⟩
section
variable {M : Nat} {t : Tale}
theorem TaleB.ok2 (h : TaleB M t) (hM : M ≤ 1000) : TaleOk (M * 1000 + 10) t :=
  ⟨h.ok, by omega, by rw [h.steps]; omega, by have := h.n; omega, h.law.len, fun r hr => by have := h.reads r hr; omega⟩
theorem mem_modify {α : Type} {f : α → α} : ∀ {l : List α} {i : Nat} {x : α}, x ∈ l.modify i f → x ∈ l ∨ ∃ y ∈ l, x = f y
  | [], i, x, h => by simp at h
  | a :: l, 0, x, h => by
    simp only [List.modify_zero_cons, List.mem_cons] at h
    rcases h with rfl | h
    · exact .inr ⟨a, List.mem_cons_self .., rfl⟩
    · exact .inl (List.mem_cons_of_mem _ h)
  | a :: l, i + 1, x, h => by
    simp only [List.modify_succ_cons, List.mem_cons] at h
    rcases h with rfl | h
    · exact .inl (List.mem_cons_self ..)
    · rcases mem_modify h with h | ⟨y, hy, e⟩
      · exact .inl (List.mem_cons_of_mem _ h)
      · exact .inr ⟨y, List.mem_cons_of_mem _ hy, e⟩
/-- How much an act may add. -/
def Recs (M : Nat) (rs : List Rec) : Prop := ∀ r ∈ rs, r.reads.length ≤ M ∧ r.snap.length ≤ 10
theorem recs_overs {t : Tale} (h : Recs M t.recs) : Recs M t.overs.recs := by
  intro r hr
  obtain ⟨i, hi, rfl⟩ := List.mem_mapIdx.1 hr
  rw [overStep_keep (fun r => r.reads) (fun _ _ => rfl), overStep_keep (fun r => r.snap) (fun _ _ => rfl)]
  exact h _ (List.getElem_mem _)
theorem recs_upd {f : Rec → Rec} {i : Nat} {rs : List Rec} (h : Recs M rs) (hf : ∀ r, (f r).reads.length ≤ r.reads.length + 1 ∧ (f r).snap = r.snap) : Recs (M + 1) (rs.modify i f) := by
  intro r hr
  rcases mem_modify hr with hr | ⟨y, hy, rfl⟩
  · have := h r hr; omega
  · have := h y hy
    have := hf y
    rw [this.2]; omega
theorem recs_up {rs : List Rec} (h : Recs M rs) : Recs (M + 1) rs := fun r hr => by have := h r hr; omega
theorem does_ok (h : OkT (M * 1000 + 10) t.e []) (a : Act1) (lv : Int) : OkT ((M + 1) * 1000 + 10) (t.does a lv).e [] := by
  have hup : ∀ {e : Eng}, OkT (M * 1000 + 10) e [] → OkT ((M + 1) * 1000 + 10) e [] := fun h => h.mono (by omega)
  have hup2 : ∀ {e : Eng}, OkT (M * 1000 + 10 + 1000) e [] → OkT ((M + 1) * 1000 + 10) e [] := fun h => h.mono (by omega)
  unfold Tale.does
  simp only
  split
  · rw [tale_began_e]; exact hup (h.begun _)
  · split
    · exact hup h.swept
    · split
      · exact hup h
      · generalize t.recs.length - pickN a.tx (min 6 t.recs.length) - 1 = x
        generalize (pickN a.key 4 : Int) = K
        show OkT _ (Tale.act _ _ _ _).e []
        unfold Tale.act
        split
        · rw [tale_read_e]; exact hup2 (h.red _ _)
        · split
          · rw [tale_write_e]; exact hup2 (h.wrote _ _ _)
          · split
            · exact hup (h.committed _)
            · split
              · exact hup (h.aborted _)
              · exact hup h
theorem began_steps (t : Tale) (lv : Int) : (t.began lv).steps = t.steps ∧ (t.began lv).n = t.n := by
  unfold Tale.began
  simp only
  by_cases h : (t.e.begin_ lv).2.2 = 0
  · rw [if_pos h]; exact ⟨rfl, rfl⟩
  · rw [if_neg h]; exact ⟨rfl, rfl⟩
theorem began_recs (t : Tale) (lv : Int) : (t.began lv).recs = t.recs ++ [⟨lv, t.e.allV, [], [], t.steps, 0⟩] ∨ (t.began lv).recs = t.recs := by
  unfold Tale.began
  simp only
  by_cases h : (t.e.begin_ lv).2.2 = 0
  · rw [if_pos h]; exact .inl rfl
  · rw [if_neg h]; exact .inr rfl
theorem does_steps (t : Tale) (a : Act1) (lv : Int) : (t.does a lv).steps = t.steps + 1 ∧ (t.n ≤ (t.does a lv).n ∧ (t.does a lv).n ≤ t.n + 1) := by
  unfold Tale.does
  simp only
  split
  · skip
    rw [(began_steps _ _).1, (began_steps _ _).2]
    exact ⟨rfl, Int.le_refl _, by show t.n ≤ t.n + 1; omega⟩
  · split
    · exact ⟨rfl, Int.le_refl _, by show t.n ≤ t.n + 1; omega⟩
    · split
      · exact ⟨rfl, Int.le_refl _, by show t.n ≤ t.n + 1; omega⟩
      · generalize t.recs.length - pickN a.tx (min 6 t.recs.length) - 1 = x
        generalize (pickN a.key 4 : Int) = K
        show (Tale.act _ _ _ _).steps = _ ∧ _ ≤ (Tale.act _ _ _ _).n ∧ (Tale.act _ _ _ _).n ≤ _
        unfold Tale.act
        split
        · unfold Tale.read
          simp only
          split
          · exact ⟨rfl, Int.le_refl _, by show t.n ≤ t.n + 1; omega⟩
          · split <;> exact ⟨rfl, Int.le_refl _, by show t.n ≤ t.n + 1; omega⟩
        · split
          · unfold Tale.write
            simp only
            split <;> exact ⟨rfl, by show t.n ≤ t.n + 1; omega, Int.le_refl _⟩
          · split
            · exact ⟨rfl, Int.le_refl _, by show t.n ≤ t.n + 1; omega⟩
            · split <;> exact ⟨rfl, Int.le_refl _, by show t.n ≤ t.n + 1; omega⟩
theorem does_recs (h : Recs M t.recs) (a : Act1) (lv : Int) : Recs (M + 1) (t.does a lv).recs := by
  unfold Tale.does
  simp only
  split
  · rcases began_recs { t with steps := t.steps + 1 } (if lv < 0 then (pickN a.level 3 : Int) else lv) with hb | hb
    · rw [hb]
      intro r hr
      rcases List.mem_append.1 hr with hr | hr
      · exact recs_up h r hr
      · simp only [List.mem_singleton] at hr
        subst hr
        exact ⟨by simp, allL_le _ 10⟩
    · rw [hb]; exact recs_up h
  · split
    · exact recs_up h
    · split
      · exact recs_up h
      · generalize t.recs.length - pickN a.tx (min 6 t.recs.length) - 1 = x
        generalize (pickN a.key 4 : Int) = K
        refine recs_overs ?_
        unfold Tale.act
        split
        · unfold Tale.read
          simp only
          split
          · exact recs_up h
          · split
            · exact recs_up h
            · exact recs_upd h fun r => ⟨by simp, rfl⟩
        · split
          · unfold Tale.write
            simp only
            split
            · exact recs_upd h fun r => ⟨by simp, rfl⟩
            · exact recs_up h
          · split
            · exact recs_up h
            · split
              · exact recs_up h
              · exact recs_up h
theorem TaleB.does (h : TaleB M t) (a : Act1) (lv : Int) : TaleB (M + 1) (t.does a lv) := by
  obtain ⟨s1, s2, s3⟩ := does_steps t a lv
  have hn := h.n
  exact ⟨does_ok h.ok a lv, h.law.does h.ok a lv, h.hist.does h.law.sure h.ok a lv, by rw [s1, h.steps]; omega, by omega, does_recs h.reads a lv⟩
end
theorem does_any (w0 w : World) (b be : Nat) (t : Tale) (a : Act1) (lv : Int) (L : List HProp) (M : Nat) (hE : ErrT w0) (hB : TaleB M t) (hM : M ≤ 900) (hs : S w0 w (tale2 b be t :: L)) :
    Calls Tryz.prog 8 #[.pointer (some ⟨b, 0, none⟩), actV a.what a.level a.tx a.key, .int .i64 lv] w fun r w' => r = .returned (.tuple #[]) ∧ S w0 w' (tale2 b be (t.does a lv) :: L) := by
  have hok := hB.ok2 (by omega)
  have hst : t.steps < 1000000 := by rw [hB.steps]; omega
  obtain ⟨what, level, tx, key⟩ := a
  by_cases h0 : what = 0
  · subst h0; exact does_begin w0 w b be t level tx key lv L _ hok hst hs
  · by_cases h5 : what = 5
    · subst h5; exact does_sweep w0 w b be t level tx key lv L _ hok hst hs
    · by_cases hr : t.recs = []
      · exact does_none w0 w b be t what level tx key lv L _ hok hst h0 h5 hr hs
      · exact does_act w0 w b be t what level tx key lv L _ hE hok hst h0 h5 hr hs
/-- committed, of a tale whose parts stay where they are. -/
theorem committedK_any (w0 w : World) (b be : Nat) (bs : List Nat) (k : TaleV) (t : Tale) (i : Nat) (L : List HProp) (hi : i < t.e.txs.length) (hl : t.e.txs.length ≤ 1000) (hs : S w0 w (taleB b be k t :: all (recPs k.vs t.recs) :: engP be bs t.e :: L)) :
    Calls Tryz.prog 9 #[.pointer (some ⟨b, 0, none⟩), .int .i64 i] w fun r w' => r = .returned (.bool (decide ((t.e.tx i).state = 2))) ∧ S w0 w' (taleB b be k t :: all (recPs k.vs t.recs) :: engP be bs t.e :: L) := by
  have c0 := hs.tale_see.1.e
  have hst := state2_any w0 w be bs t.e ((i : Int) + 1) _ hs.rot3
  rw [state_at hi] at hst
  dsimp only at hst
  rw [errV_0] at hst
  have HST := hid hst
  clear hst
  go_enter Tryz.func9, Tryz.ntmps9
  go_wp2_with fail
  with_reducible refine HST.out.mono ?_
  rintro r w' ⟨rfl, hs'⟩
  have H1 := hid (hs'.conv (M := taleB b be k t :: all (recPs k.vs t.recs) :: engP be bs t.e :: L) (by simp only [all]; ac_rfl))
  clear hs' HST hs c0
  by_cases h2 : (t.e.tx i).state = 2
  · have hb2 : ((t.e.tx i).state == 2) = true := by simpa using h2
    have hd : decide ((t.e.tx i).state = 2) = true := by simpa using h2
    have HD := hid hd
    clear h2 hd
    go_wp2_with fail
    go_ret
    exact ⟨by rw [HD.out]; rfl, H1.out⟩
  · have hb2 : ((t.e.tx i).state == 2) = false := by simpa using h2
    have hd : decide ((t.e.tx i).state = 2) = false := by simpa using h2
    have HD := hid hd
    clear h2 hd
    go_wp2_with fail
    go_ret
    exact ⟨by rw [HD.out]; rfl, H1.out⟩
/-- What a law sees of a tale. -/
structure LawC (w : World) (b be n : Nat) (gl ol cl gb ob cb gw ow cw : Nat) (t : Tale) : Prop where
  e : w.cell? ⟨b, 0, none⟩ = some (.pointer (some ⟨be, 0, none⟩))
  level : w.cell? ⟨b, 1, none⟩ = some (.slice (some ⟨gl, ol, none⟩) n cl)
  begun : w.cell? ⟨b, 5, none⟩ = some (.slice (some ⟨gb, ob, none⟩) n cb)
  over : w.cell? ⟨b, 6, none⟩ = some (.slice (some ⟨gw, ow, none⟩) n cw)
  xlevel : ∀ x, x < n → w.cell? ⟨gl, ol + x, none⟩ = some (.int .i64 (t.one x).level)
  xbegun : ∀ x, x < n → w.cell? ⟨gb, ob + x, none⟩ = some (.int .i64 (t.one x).begun)
  xover : ∀ x, x < n → w.cell? ⟨gw, ow + x, none⟩ = some (.int .i64 (t.one x).over)
theorem law_see {w w0 : World} {L : List HProp} {b be : Nat} {k : TaleV} {t : Tale} {n : Nat} (hn : t.recs.length = n) (hp : 0 < n) (h : S w0 w (taleB b be k t :: L)) :
    ∃ gl ol cl gb ob cb gw ow cw, n ≤ cl ∧ cl ≤ maxLen ∧ n ≤ cb ∧ cb ≤ maxLen ∧ n ≤ cw ∧ cw ≤ maxLen ∧ ∀ (W : World) (M : List HProp), S w0 W (taleB b be k t :: M) → LawC W b be n gl ol cl gb ob cb gw ow cw t := by
  obtain ⟨hc, ⟨al, cl, h1, h2, h3, h4⟩, _, _, _, ⟨ab, cb, i1, i2, i3, i4⟩, ⟨aw, cw, j1, j2, j3, j4⟩⟩ := h.tale_see
  rw [hn] at h1 h2 h4 i1 i2 i4 j1 j2 j4
  obtain ⟨gl, ol, rfl, _, _⟩ := h4 0 hp
  obtain ⟨gb, ob, rfl, _, _⟩ := i4 0 hp
  obtain ⟨gw, ow, rfl, _, _⟩ := j4 0 hp
  refine ⟨gl, ol, cl, gb, ob, cb, gw, ow, cw, h2, h3, i2, i3, j2, j3, fun W M h' => ?_⟩
  have pick : ∀ {v : Value} {g o c : Nat} {f : Nat → Value}, v = .slice (some ⟨g, o, none⟩) n c → RowAt W v t.recs.length f → ∀ x, x < n → W.cell? ⟨g, o + x, none⟩ = some (f x) := by
    intro v g o c f hv ⟨a, c', e1, _, _, e4⟩ x hx
    rw [hn] at e1 e4
    rw [hv] at e1
    simp only [Value.slice.injEq] at e1
    obtain ⟨e1, _, _⟩ := e1
    obtain ⟨g2, o2, q1, q2, q3⟩ := e4 x hx
    rw [← e1] at q1
    simp only [Option.some.injEq, Addr.mk.injEq] at q1
    obtain ⟨q1, q1', _⟩ := q1
    subst q1 q1'
    exact q2
  obtain ⟨hc', r1, _, _, _, r5, r6⟩ := h'.tale_see
  exact ⟨hc'.e, by rw [← h1]; exact hc'.level, by rw [← i1]; exact hc'.begun, by rw [← j1]; exact hc'.over, pick h1 r1, pick i1 r5, pick j1 r6⟩
def acells (a : Act1) : List Value := [.int .i64 a.what, .int .i64 a.level, .int .i64 a.tx, .int .i64 a.key]
theorem writes_at {e : Eng} {i : Nat} (hi : i < e.txs.length) : e.writes ((i : Int) + 1) = ((e.tx i).written, 0) := by
  have hi2 : ((i : Int) + 1).toNat - 1 = i := by omega
  have he : e.err ((i : Int) + 1) false = 0 := by
    unfold Eng.err
    rw [if_neg (by omega)]; simp
  unfold Eng.writes
  rw [if_neg (by simp [he]), hi2]
end Go.Proofs.YtcbokjocahnlcaaGreatDoor
