/- The law BaseCrashes returns true for every input, and its argument reads afterwards as before; conditions: the package variables that the row lists hold what it says. -/
import Derived.Test.YtaghjcdlghcjeaaGreatDoorZ13
import Derived.Test.YtaghjcdlghcjeaaGreatDoorZ5
import Derived.Test.YtaghjcdlghcjeaaGreatDoorZ1
import Derived.Deep.CutBlock
import Derived.Lay
import Derived.Deep.DeepWitnessRef
import Derived.Lib.LaidTab
import Derived.Shelf.Vars
/- interleafkeep.BaseCrashes: the walk. Conditions: the package variable errors.errorType holds the handle of the type error; the library's tables. -/
namespace Go.Proofs.YtaghjcdlghcjeaaGreatDoor
open Go Go.RowKit Go.Sep

/-- What is asked in one round. -/
structure ActC where
  what : Int
  level : Int
  tx : Int
  key : Int
def ccells (a : ActC) : List Value := [.int .i64 a.what, .int .i64 a.level, .int .i64 a.tx, .int .i64 a.key]
def ccell1 (x : Int) : List Value := [.int .i64 x]
theorem Tryz.lenC {w : World} {b : Nat} {D : List (Int × Int)} (h : MapAt encI (fun _ => True) w b (ienc D)) (ty : TypeId) : (Builtin.len_ #[36] ty #[.map (some b)]).run Tryz.prog w = .ok (.int .i64 (D.length : Nat)) w := by
  obtain ⟨es, clock, hobj, hm⟩ := h
  rw [run_len_map (P := Tryz.prog) w 36 ty b es clock (by kernel_rfl) hobj]
  have h1 := congrArg List.length hm.1
  have h2 : es.size = D.length := by simpa [ienc] using h1
  rw [h2]; rfl
theorem wantL_snoc (D : List (Int × Int)) {l : Vers} {q : Nat} {p : Int × Int} (h : l[q]? = some p) : wantL D (l.take (q + 1)) = mput (wantL D (l.take q)) p.1 p.2 := by
  rw [List.take_add_one, h]; simp [wantL]
/-- The memory of a round. -/
def Mem (w0 w : World) (d mb b eb : Nat) (bs : List Nat) (D : Dsk) (W : List (Int × Int)) (e : Eng) (used : Nat) (down : Bool) (torn : Int) : Prop :=
  S w0 w (bseB b d (.pointer (some ⟨eb, 0, none⟩)) used down torn :: engP eb bs e :: dskB d D :: mp encI (fun _ => True) mb (ienc W) :: [])
set_option linter.unusedSimpArgs false in
set_option maxRecDepth 100000 in
set_option maxHeartbeats 16000000 in
theorem crash_any (w0 : World) (v v2 v3 : Value) (ls : List ActC) (cs ts : List Int) (hE : ErrT w0) (hL : LibOk w0) (hv : ArgF ccells 4 w0 v ls) (hv2 : ArgF ccell1 1 w0 v2 cs) (hv3 : ArgF ccell1 1 w0 v3 ts) :
    Calls Tryz.prog 3 #[v, v2, v3] w0 fun e w' => e = .returned (.bool true) ∧ Below w0.heap.size w0 w' := by
  obtain ⟨a, cap, rfl, hcap, hcap2, hrow⟩ := hv
  obtain ⟨a2, cap2, rfl, hcap3, hcap4, hrow2⟩ := hv2
  obtain ⟨a3, cap3, rfl, hcap5, hcap6, hrow3⟩ := hv3
  unfold maxLen at hcap2 hcap4 hcap6
  have hs0 := S.start w0
  by_cases hbig : 90 < ls.length ∨ 60 < cs.length ∨ 60 < ts.length
  · clear hs0 hrow hrow2 hrow3 hE hL
    by_cases h1 : 90 < ls.length
    · go_enter Tryz.func3, Tryz.ntmps3
      go_wp2_with fail
      go_ret
      exact ⟨rfl, Below.refl _ _⟩
    have g1 : ls.length ≤ 90 := by omega
    by_cases h2 : 60 < cs.length
    · clear hbig h1
      go_enter Tryz.func3, Tryz.ntmps3
      go_wp2_with fail
      go_ret
      exact ⟨rfl, Below.refl _ _⟩
    have g2 : cs.length ≤ 60 := by omega
    have g3 : 60 < ts.length := by omega
    clear hbig h1 h2
    go_enter Tryz.func3, Tryz.ntmps3
    go_wp2_with fail
    go_ret
    exact ⟨rfl, Below.refl _ _⟩
  have g1 : ls.length ≤ 90 := by omega
  have g2 : cs.length ≤ 60 := by omega
  have g3 : ts.length ≤ 60 := by omega
  have HR := hid hrow; have HR2 := hid hrow2; have HR3 := hid hrow3
  clear hrow hrow2 hrow3 hbig
  go_enter Tryz.func3, Tryz.ntmps3
  go_wp2_with fail
  with_reducible refine (kept_any w0 _ [] hE hL hs0).mono ?_
  rintro r w1 ⟨rfl, hs1⟩
  have hs2 := hs1.alloc Tryz.zeroCells28 28
  obtain ⟨d, hd⟩ : ∃ d, w1.heap.size = d := ⟨_, rfl⟩
  have H2 := hid (dsk_made (hd ▸ hs2))
  clear hs0 hs1 hs2
  go_wp2_with fail
  with_reducible refine (open_any w0 _ d Dsk.zero [] [] hL DiskOk.start H2.out).mono ?_
  rintro r w2 ⟨b0, e0, rfl, hs3⟩
  have hs4 := (hs3.made (enc := encI) (ok := fun _ => True)).conv (M := bseB b0 d (.pointer (some ⟨e0, 0, none⟩)) 0 false (-1) :: engP e0 [] (Eng.over (([] : List Vers).length : Nat) (listD (wantD []))) :: dskB d Dsk.zero :: mp encI (fun _ => True) w2.heap.size (ienc (wantD [])) :: []) (by simp only [all]; ac_rfl)
  obtain ⟨mb, hmb⟩ : ∃ mb, w2.heap.size = mb := ⟨_, rfl⟩
  rw [hmb] at hs4
  have H4 : Hid (Mem w0 _ d mb b0 e0 [] Dsk.zero (wantD []) (Eng.over (([] : List Vers).length : Nat) (listD (wantD []))) ([] : List Vers).length false (-1)) := hid hs4
  have hmm := @run_makeMap Tryz.prog
  have HEN0 := hid (bengine_any w0 w2 b0 d _ _ _ _ _ hs3)
  clear hs3 hs4 H2
  go_wp2_with (go_at_call 6; with_reducible refine HEN0.out.mono ?_; rintro r w' ⟨rfl, rfl⟩)
  clear hmm HEN0 hmb hd
  go_loopw [8, 11, 12] (fun bv vv c wr => ∃ (i b eb : Nat) (bs : List Nat) (D : Dsk) (ms : List Vers) (e : Eng) (val : Nat) (torn : Int), i ≤ ls.length ∧ c = .int .i64 i ∧ vv = .int .i64 val ∧ val ≤ i ∧ bv = .pointer (some ⟨b, 0, none⟩) ∧ Hid (Cr i D ms e) ∧ Hid (Mem w0 wr d mb b eb bs D (wantD ms) e ms.length false torn)) (fun _ _ c _ => ls.length - (intOf c).toNat)
  case atStart => exact ⟨0, b0, e0, [], Dsk.zero, [], _, 0, -1, Nat.zero_le _, rfl, rfl, Nat.le_refl _, rfl, hid Cr.start, H4⟩
  case round =>
    clear H4
    rename World => wr
    obtain ⟨i, b, eb, bs, D, ms, e, val, torn, hi, rfl, rfl, hval, rfl, HC, HM⟩ := hrel
    by_cases hlt : i < ls.length
    · have hp : ls[i]? = some ls[i] := by simp [hlt]
      generalize ls[i] = p at hp
      obtain ⟨bb, oo, rfl, hbb, hcc⟩ := HR.out i p hp
      have hm : S w0 wr _ := HM.out
      have c0 := (hm.1.cell (p := ⟨bb, oo + i * 4 + 0, none⟩) hbb).trans (hcc 0 _ rfl)
      have c1 := (hm.1.cell (p := ⟨bb, oo + i * 4 + 1, none⟩) hbb).trans (hcc 1 _ rfl)
      have c2 := (hm.1.cell (p := ⟨bb, oo + i * 4 + 2, none⟩) hbb).trans (hcc 2 _ rfl)
      have c3 := (hm.1.cell (p := ⟨bb, oo + i * 4 + 3, none⟩) hbb).trans (hcc 3 _ rfl)
      rw [Nat.add_zero] at c0
      obtain ⟨what, level, tx, key⟩ := p
      simp only at c0 c1 c2 c3
      have hsx := hm.alloc #[.int .i64 what, .int .i64 level, .int .i64 tx, .int .i64 key] 38
      have hok := HC.out.eng
      have hfew := hok.few
      obtain ⟨N, hN⟩ : ∃ N, N = 10 + 1000 * i := ⟨_, rfl⟩
      have hN2 : N ≤ 90000000 := by omega
      rw [← hN] at hok
      have htx : ∀ W M, S w0 W (engP eb bs e :: M) → Calls Tryz.prog 7 #[.pointer (some ⟨eb, 0, none⟩)] W fun r w' => r = .returned (.int .i64 e.txs.length) ∧ W = w' := fun W M h => by
        obtain ⟨k, h⟩ := h.eng_open
        exact txs_any w0 W eb bs k e _ (h.conv (M := engO eb bs k e :: storeP 84 eb 0 e.V e.last :: tabP 3 eb 11 e.t :: M) (by simp only [all]; ac_rfl))
      have hpk : ∀ x : Int, ∀ m : Int, 0 < m → m ≤ 1000000 → ∀ W, Calls Tryz.prog 8 #[.int .i64 x, .int .i64 m] W fun e w' => e = .returned (.int .i64 (pickN x m.toNat)) ∧ W = w' := fun x m h1 h2 W => pick_any x m W h1 h2
      have hen1 := bengine_any w0 _ b d (.pointer (some ⟨eb, 0, none⟩)) ms.length false torn _ hsx.tail
      have htx1 := htx _ _ hsx.tail.tail.drew
      have hpk1 := hpk tx 6 (by omega) (by omega)
      rw [show ((6 : Int).toNat) = 6 from rfl] at hpk1
      have hp6 : pickN tx 6 < 6 := pickN_lt tx (by omega)
      generalize pickN tx 6 = pk at *
      have hwr : IntKind.i64.wrap ((e.txs.length : Int) - (pk : Int)) = (e.txs.length : Int) - (pk : Int) := IntWalk.i64_in _ (by omega)
      have q0 := hsx.drew.blk_cell 2 rfl
      obtain ⟨B, hB⟩ : ∃ B, wr.heap.size = B := ⟨_, rfl⟩
      rw [hB] at q0 hsx
      have HS := hid hsx.drew; have HEN := hid hen1; have HTX := hid htx1; have HPK := hid hpk; have HPK1 := hid hpk1; have HN := hid hN; have HOK := hid hok
      clear hm hsx hen1 htx1 hpk1 hpk htx hcc hp hN hok HR HM
      go_upto_region 16 with (go_at_call 6; with_reducible refine HEN.out.mono ?_; rintro r w' ⟨rfl, rfl⟩)
      go_region_held_law (fun w' => w'.cell? ⟨B, 2, none⟩ = some (.int .i64 tx)) (first | (with_reducible assumption) | (with_reducible exact q0))
        (first
          | (go_at_call 7; with_reducible refine HTX.out.mono ?_; rintro r w' ⟨rfl, rfl⟩)
          | (go_at_call 8; with_reducible refine (HPK1.out _).mono ?_; rintro r w' ⟨rfl, rfl⟩))
      generalize (e.txs.length : Int) - (pk : Int) = n at *
      have hp3 : ∀ (x : Int) W, Calls Tryz.prog 8 #[.int .i64 x, .int .i64 3] W fun e w' => e = .returned (.int .i64 (pickN x 3)) ∧ W = w' := fun x W => HPK.out x 3 (by omega) (by omega) W
      have hp4 : ∀ (x : Int) W, Calls Tryz.prog 8 #[.int .i64 x, .int .i64 4] W fun e w' => e = .returned (.int .i64 (pickN x 4)) ∧ W = w' := fun x W => HPK.out x 4 (by omega) (by omega) W
      have hp100 : ∀ (x : Int) W, Calls Tryz.prog 8 #[.int .i64 x, .int .i64 100] W fun e w' => e = .returned (.int .i64 (pickN x 100)) ∧ W = w' := fun x W => HPK.out x 100 (by omega) (by omega) W
      have HS0 : Hid (S w0 _ (engP eb bs e :: blk B 38 [.int .i64 what, .int .i64 level, .int .i64 tx, .int .i64 key] :: bseB b d (.pointer (some ⟨eb, 0, none⟩)) ms.length false torn :: dskB d D :: mp encI (fun _ => True) mb (ienc (wantD ms)) :: [])) := hid (HS.out.conv (by simp only [all]; ac_rfl))
      have z0 := HS.out.blk_cell 0 rfl
      have z1 := HS.out.blk_cell 1 rfl
      have z3 := HS.out.blk_cell 3 rfl
      have HP3 := hid hp3; have HP4 := hid hp4; have HP100 := hid hp100
      clear hp3 hp4 hp100 HPK HPK1 HTX HEN hB c0 c1 c2 c3 q0
      generalize World.drew _ = W1 at *
      go_upto_block 2 with fail
      go_cut [11, 16, 17, 18] from 78 to 167 (fun vv _ _ _ wx => ∃ (bs' : List Nat) (D' : Dsk) (ms' : List Vers) (e' : Eng) (used' : Nat) (down' : Bool) (torn' : Int) (val' : Nat), vv = .int .i64 val' ∧ val' ≤ i + 1 ∧ Hid (Cr (i + 1) D' ms' e') ∧ Hid (down' = false → used' = ms'.length) ∧ Hid (Mem w0 wx d mb b eb bs' D' (wantD ms') e' used' down' torn'))
      case first =>
        have hval1 : val ≤ i + 1 := by omega
        by_cases h0 : what = 0
        · as_aux_lemma =>
          subst h0
          have HO := hid (ebegin_any w0 _ eb bs e (pickN level 3) _ N HOK.out HS0.out)
          have HC2 := hid (HC.out.begun (pickN level 3))
          clear HOK HS HS0 HC
          go_wp2_with (first
            | (go_at_call 8; with_reducible refine (HP3.out _ _).mono ?_; rintro r w' ⟨rfl, rfl⟩)
            | (go_at_call 9; with_reducible refine HO.out.mono ?_; rintro r w3 ⟨rfl, bs3, hs3⟩; have H3 := hid hs3; clear hs3))
          go_meet
          exact ⟨bs3, D, ms, _, ms.length, false, torn, val, rfl, hval1, HC2, hid fun _ => rfl, hid (H3.out.swap.tail.swap)⟩
        have b0 : (what == 0) = false := by simpa using h0
        by_cases h1 : what = 1
        · as_aux_lemma =>
          subst h1
          have HO := hid (eread_any w0 _ eb bs e n (pickN key 4) _ N hE HOK.out hN2 HS0.out)
          have HC2 := hid (HC.out.red n (pickN key 4))
          clear HOK HS HS0 HC
          go_wp2_with (first
            | (go_at_call 8; with_reducible refine (HP4.out _ _).mono ?_; rintro r w' ⟨rfl, rfl⟩)
            | (go_at_call 10; with_reducible refine HO.out.mono ?_; rintro r w3 ⟨rfl, hs3⟩; have H3 := hid hs3; clear hs3))
          go_meet
          exact ⟨bs, D, ms, _, ms.length, false, torn, val, rfl, hval1, HC2, hid fun _ => rfl, hid (H3.out.swap.tail.swap)⟩
        have b1 : (what == 1) = false := by simpa using h1
        by_cases h2 : what = 2
        · as_aux_lemma =>
          subst h2
          have hk4 := pickN_lt key (show 0 < 4 by omega)
          have hsm : Sm ((pickN key 4 : Int), (((val + 1 : Nat) : Nat) : Int)) := ⟨by simp only; omega, by simp only; omega⟩
          have HO := hid (ewrite_any w0 _ eb bs e n (pickN key 4) ((val + 1 : Nat) : Nat) _ N HOK.out hN2 HS0.out)
          have HC2 := hid (HC.out.wrote n (pickN key 4) ((val + 1 : Nat) : Nat) hsm)
          have hcv : ((val + 1 : Nat) : Int) = (val : Int) + 1 := by omega
          clear HOK HS HS0 HC hsm hk4
          rw [hcv] at HO
          go_wp2_with (first
            | (go_at_call 8; with_reducible refine (HP4.out _ _).mono ?_; rintro r w' ⟨rfl, rfl⟩)
            | (go_at_call 11; with_reducible refine HO.out.mono ?_; rintro r w3 ⟨rfl, hs3⟩; have H3 := hid hs3; clear hs3))
          go_meet
          exact ⟨bs, D, ms, _, ms.length, false, torn, val + 1, by rw [hcv], by omega, HC2, hid fun _ => rfl, hid (by rw [hcv]; exact H3.out.swap.tail.swap)⟩
        have b2 : (what == 2) = false := by simpa using h2
        by_cases h4 : what = 4
        · as_aux_lemma =>
          subst h4
          have HO := hid (abort_any w0 _ eb bs e n _ N HOK.out (by omega) HS0.out)
          have HC2 := hid (HC.out.aborted n)
          clear HOK HS HS0 HC
          go_wp2_with (go_at_call 14; with_reducible refine HO.out.mono ?_; rintro r w3 ⟨rfl, hs3⟩; have H3 := hid hs3; clear hs3)
          go_meet
          exact ⟨bs, D, ms, _, ms.length, false, torn, val, rfl, hval1, HC2, hid fun _ => rfl, hid (H3.out.swap.tail.swap)⟩
        have b4 : (what == 4) = false := by simpa using h4
        by_cases h3 : what = 3
        · as_aux_lemma =>
          subst h3
          have HW := hid (ewrites_any w0 _ eb bs e n _ N [] HOK.out HS0.out)
          obtain ⟨B', x, hB'⟩ : ∃ B' x, (Bas.mk D e ms.length false torn).commit n = (B', x) := ⟨_, _, rfl⟩
          obtain ⟨ms', hcr, hdn, hwant⟩ := HC.out.committed (by omega) n torn hB'
          have hle := HC.out.few
          have hco : ∀ W (X : List HProp), S w0 W (bseB b d (.pointer (some ⟨eb, 0, none⟩)) ms.length false torn :: engP eb bs e :: dskB d D :: X) → Calls Tryz.prog 13 #[.pointer (some ⟨b, 0, none⟩), .int .i64 n] W fun r w' => r = .returned (errV x) ∧ S w0 w' (bseB b d (.pointer (some ⟨eb, 0, none⟩)) B'.used B'.down B'.torn :: engP eb bs B'.eng :: dskB d B'.dsk :: X) := fun W X h => by
            have hc := bcommit_any w0 W b d eb bs (Bas.mk D e ms.length false torn) n X N hE HOK.out hN2 (by show ms.length ≤ 250; omega) (fun hne _ => HC.out.seal (by omega) hL n hne) h
            rw [hB'] at hc
            exact hc
          have HCO := hid hco; have HCR := hid hcr; have HDN := hid hdn; have HWA := hid hwant
          clear HOK HS HS0 HC hB' hcr hdn hwant hco hle
          go_wp2_with fail
          with_reducible refine HW.out.mono ?_
          rintro r w3 ⟨v3, rfl, hs3⟩
          obtain ⟨l, hl⟩ : ∃ l, l = (e.writes n).1 := ⟨_, rfl⟩
          rw [← hl] at hs3 HWA
          generalize errV (e.writes n).2 = erw
          obtain ⟨al, cl, rfl, hcl1, hcl2, _⟩ := hs3.sl_val
          unfold maxLen at hcl2
          have H3 := hid (hs3.conv (M := bseB b d (.pointer (some ⟨eb, 0, none⟩)) ms.length false torn :: engP eb bs e :: dskB d D :: mp encI (fun _ => True) mb (ienc (wantD ms)) :: sl 51 2 (.slice al l.length cl) l.length (pcells l) :: blk B 38 [.int .i64 3, .int .i64 level, .int .i64 tx, .int .i64 key] :: []) (by simp only [all]; ac_rfl))
          clear hs3 HW hl
          by_cases hx : x ≠ 0
          · rw [errV_ne hx] at HCO
            have hwa := HWA.out
            rw [if_neg hx] at hwa
            go_wp2_with (go_at_call 13; with_reducible refine (HCO.out _ _ H3.out).mono ?_; rintro r w4 ⟨rfl, hs4⟩; have H4 := hid hs4; clear hs4)
            go_meet
            exact ⟨bs, B'.dsk, ms', B'.eng, B'.used, B'.down, B'.torn, val, rfl, hval1, HCR, HDN, hid (by unfold Mem; rw [hwa]; exact (H4.out.conv (M := sl 51 2 (.slice al l.length cl) l.length (pcells l) :: blk B 38 [.int .i64 3, .int .i64 level, .int .i64 tx, .int .i64 key] :: bseB b d (.pointer (some ⟨eb, 0, none⟩)) B'.used B'.down B'.torn :: engP eb bs B'.eng :: dskB d B'.dsk :: mp encI (fun _ => True) mb (ienc (wantD ms)) :: []) (by simp only [all]; ac_rfl)).tail.tail)⟩
          · obtain rfl : x = 0 := Classical.not_not.1 hx
            rw [errV_0] at HCO
            have hwa := HWA.out
            rw [if_pos rfl] at hwa
            have HWA2 := hid hwa
            obtain ⟨X, hX⟩ : ∃ X, X = all (bseB b d (.pointer (some ⟨eb, 0, none⟩)) B'.used B'.down B'.torn :: engP eb bs B'.eng :: dskB d B'.dsk :: []) := ⟨_, rfl⟩
            have HX := hid hX
            clear hwa HWA hx hX
            go_wp2_with (go_at_call 13; with_reducible refine (HCO.out _ _ H3.out).mono ?_; rintro r w4 ⟨rfl, hs4⟩; have H4 := hid (hs4.conv (M := blk B 38 [.int .i64 3, .int .i64 level, .int .i64 tx, .int .i64 key] :: mp encI (fun _ => True) mb (ienc (wantL (wantD ms) (l.take 0))) :: sl 51 2 (.slice al l.length cl) l.length (pcells l) :: X :: []) (by rw [HX.out]; simp only [all, sep_emp, List.take_zero, wantL, List.foldl_nil]; ac_rfl)).tail; clear hs4)
            clear HCO H3
            go_loopw [18] (fun c wq => ∃ q : Nat, q ≤ l.length ∧ c = .int .i64 q ∧ Hid (S w0 wq (mp encI (fun _ => True) mb (ienc (wantL (wantD ms) (l.take q))) :: sl 51 2 (.slice al l.length cl) l.length (pcells l) :: X :: []))) (fun c _ => l.length - (intOf c).toNat)
            case atStart => exact ⟨0, Nat.zero_le _, rfl, H4⟩
            case round =>
              clear H4
              rename World => wq
              obtain ⟨q, hq, rfl, H4⟩ := hrel
              by_cases hql : q < l.length
              · have hp : l[q]? = some l[q] := by simp [hql]
                generalize l[q] = p at hp
                obtain ⟨g, o5, rfl, _, d0, d1⟩ := H4.out.swap.sl_pair hp
                have hq1 : ∀ W, S w0 W (mp encI (fun _ => True) mb (ienc (wantL (wantD ms) (l.take q))) :: sl 51 2 (.slice (some ⟨g, o5, none⟩) l.length cl) l.length (pcells l) :: X :: []) → W.cell? ⟨g, o5 + q * 2, none⟩ = some (.int .i64 p.1) ∧ W.cell? ⟨g, o5 + q * 2 + 1, none⟩ = some (.int .i64 p.2) := fun W h => by
                  obtain ⟨g', o', e1, _, f0, f1⟩ := h.swap.sl_pair hp
                  cases e1
                  exact ⟨f0, f1⟩
                have hst := wantL_snoc (wantD ms) hp
                have hup : ∀ W, S w0 W (mp encI (fun _ => True) mb (ienc (wantL (wantD ms) (l.take q))) :: sl 51 2 (.slice (some ⟨g, o5, none⟩) l.length cl) l.length (pcells l) :: X :: []) → ∃ w', (Instr.mapUpdate 36 (.map (some mb)) (.int .i64 p.1) (.int .i64 p.2)).run Tryz.prog W = .ok () w' ∧ S w0 w' (mp encI (fun _ => True) mb (ienc (wantL (wantD ms) (l.take (q + 1)))) :: sl 51 2 (.slice (some ⟨g, o5, none⟩) l.length cl) l.length (pcells l) :: X :: []) := fun W h => by
                  obtain ⟨w', f1, f2⟩ := h.put Tryz.keyInt Tryz.underlying36 p.1 trivial (Sep.encI p.2)
                  rw [ienc_put, ← hst] at f2
                  exact ⟨w', f1, f2⟩
                have HQ := hid hq1; have HUP := hid hup; have HS0 := H4
                clear hq1 hup hst hp d0 d1 HX HWA2 HCR HDN
                go_upto_region 31 with fail
                refine region_U (S := fun w' => w'.cell? ⟨g, o5 + q * 2, none⟩ = some (.int .i64 p.1) ∧ w'.cell? ⟨g, o5 + q * 2 + 1, none⟩ = some (.int .i64 p.2)) (u := 11) (by kernel_rfl) (HQ.out _ HS0.out.drew) (fun hHeld => ?_)
                refine anyU_take (i := 0) (v := ?_) rfl (by kernel_rfl) (fun _ _ _ h => h) (Or.inl ⟨by rfl, ?_⟩) hHeld ?_
                rotate_left
                · (intro w hSw; (try dsimp only at hSw); go_simp) <;> with_reducible rfl
                try simp only [putU]
                refine anyU_take (i := 1) (v := ?_) rfl (by kernel_rfl) (fun _ _ _ h => h) (Or.inl ⟨by rfl, ?_⟩) hHeld ?_
                rotate_left
                · (intro w hSw; (try dsimp only at hSw); go_simp) <;> with_reducible rfl
                try simp only [putU]
                refine anyU_take (i := 2) (v := ?_) rfl (by kernel_rfl) (fun _ _ _ h => h) (Or.inl ⟨by rfl, ?_⟩) hHeld ?_
                rotate_left
                · (intro w hSw; (try dsimp only at hSw); go_simp) <;> with_reducible rfl
                try simp only [putU]
                refine anyU_take (i := 3) (v := ?_) rfl (by kernel_rfl) (fun _ _ _ h => h) (Or.inl ⟨by rfl, ?_⟩) hHeld ?_
                rotate_left
                · (intro w hSw; (try dsimp only at hSw); go_simp) <;> with_reducible rfl
                try simp only [putU]
                refine anyU_take (i := 4) (v := ?_) rfl (by kernel_rfl) (fun _ _ _ h => h) (Or.inl ⟨by rfl, ?_⟩) hHeld ?_
                rotate_left
                · (intro w hSw; (try dsimp only at hSw); go_simp) <;> with_reducible rfl
                try simp only [putU]
                refine anyU_take (i := 5) (v := ?_) rfl (by kernel_rfl) (fun _ _ _ h => h) (Or.inl ⟨by rfl, ?_⟩) hHeld ?_
                rotate_left
                · (intro w hSw; (try dsimp only at hSw); go_simp) <;> with_reducible rfl
                try simp only [putU]
                refine anyU_take (i := 6) (v := ?_) rfl (by kernel_rfl) (fun _ _ _ h => h) (Or.inl ⟨by rfl, ?_⟩) hHeld ?_
                rotate_left
                · (intro w hSw; (try dsimp only at hSw); go_simp) <;> with_reducible rfl
                try simp only [putU]
                refine anyU_take (i := 7) (v := ?_) rfl (by kernel_rfl) (fun _ _ _ h => h) (Or.inl ⟨by rfl, ?_⟩) hHeld ?_
                rotate_left
                · (intro w hSw; (try dsimp only at hSw); go_simp) <;> with_reducible rfl
                try simp only [putU]
                refine anyU_take (i := 8) (v := ?_) rfl (by kernel_rfl) (fun _ _ _ h => h) (Or.inl ⟨by rfl, ?_⟩) hHeld ?_
                rotate_left
                · (intro w hSw; (try dsimp only at hSw); go_simp) <;> with_reducible rfl
                try simp only [putU]
                refine anyU_take (i := 9) (v := ?_) rfl (by kernel_rfl) (fun _ _ _ h => h) (Or.inl ⟨by rfl, ?_⟩) hHeld ?_
                rotate_left
                · (intro w hSw; (try dsimp only at hSw); go_simp) <;> with_reducible rfl
                try simp only [putU]
                refine anyU_take (i := 10) (v := ?_) rfl (by kernel_rfl) (fun _ _ _ h => h) (Or.inl ⟨by rfl, ?_⟩) hHeld ?_
                rotate_left
                · (intro w hSw; (try dsimp only at hSw); go_simp) <;> with_reducible rfl
                try simp only [putU]
                have HS := hid HS0.out.drew
                clear hHeld
                refine anyU_world (fun w => Hid (S w0 w _)) HS (fun w1 HS => ?_)
                clear HS0
                refine anyU_next (rs := [11]) (by kernel_rfl) (by simp) ?_
                refine NextU.cons rfl (fun K hK => ?_) NextU.nil
                refine step_mapuE rfl 36 (.tmp 123) (.tmp 128) (.tmp 133) rfl (by rfl) (by rfl) (by rfl) (HUP.out _ HS.out) ?_
                intro w5 hs5
                have H6 := hid hs5
                clear hs5
                refine hK.out _ _ goneU ?_
                clear hK K
                try simp only [putU]
                refine anyU_done (by kernel_rfl) ?_ _
                go_wp2_with fail
                go_roundw
                case rel => exact ⟨q + 1, by omega, by go_num, H6⟩
                case measure => simp [intOf]; omega
              · obtain rfl : q = l.length := by omega
                have h4 := H4.out
                rw [List.take_length, ← HWA2.out, HX.out] at h4
                have H5 : Hid (Mem w0 wq d mb b eb bs B'.dsk (wantD ms') B'.eng B'.used B'.down B'.torn) := hid ((h4.conv (M := sl 51 2 (.slice al l.length cl) l.length (pcells l) :: bseB b d (.pointer (some ⟨eb, 0, none⟩)) B'.used B'.down B'.torn :: engP eb bs B'.eng :: dskB d B'.dsk :: mp encI (fun _ => True) mb (ienc (wantD ms')) :: []) (by simp only [all, sep_emp]; ac_rfl)).tail)
                clear h4 H4
                go_wp2_with fail
                go_meet
                exact ⟨bs, B'.dsk, ms', B'.eng, B'.used, B'.down, B'.torn, val, rfl, hval1, HCR, HDN, H5⟩
        have b3 : (what == 3) = false := by simpa using h3
        by_cases h5 : what = 5
        · as_aux_lemma =>
          subst h5
          have HC0 := HC.out
          clear HOK HC HS0 z1 z3 hN2
          have hcut : ∀ W (m : Int) (X : List HProp), S w0 W (dskB d D :: X) → Calls Tryz.prog 15 #[.pointer (some ⟨d, 0, none⟩), .int .i64 m] W fun r w' => r = .returned (.tuple #[]) ∧ S w0 w' (dskB d (D.setCut m) :: X) := fun W m X h => dcut_any w0 W d D m X h
          have htorn : ∀ W (m : Int) (X : List HProp), S w0 W (bseB b d (.pointer (some ⟨eb, 0, none⟩)) ms.length false torn :: X) → Calls Tryz.prog 16 #[.pointer (some ⟨b, 0, none⟩), .int .i64 m] W fun r w' => r = .returned (.tuple #[]) ∧ S w0 w' (bseB b d (.pointer (some ⟨eb, 0, none⟩)) ms.length false m :: X) := fun W m X h => btorn_any w0 W b d _ _ _ _ m X h
          have HCUT := hid hcut; have HTORN := hid htorn
          have HCR := hid HC0
          clear hcut htorn HC0
          by_cases hcs : cs = []
          · have n1 : decide ((0 : Int) < (cs.length : Int)) = false := by simp [hcs]
            have n1' : decide (0 < cs.length) = false := by simp [hcs]
            clear hcs
            by_cases hts : ts = []
            · have n2 : decide ((0 : Int) < (ts.length : Int)) = false := by simp [hts]
              have n2' : decide (0 < ts.length) = false := by simp [hts]
              have HC2 := hid HCR.out.next
              clear hts
              go_wp2_with fail
              go_meet
              exact ⟨bs, D, ms, e, ms.length, false, torn, val, rfl, hval1, HC2, hid fun _ => rfl, hid HS.out.tail⟩
            · have hwl3 : 0 < ts.length := List.length_pos_iff.2 hts
              have hql3 : i % ts.length < ts.length := Nat.mod_lt _ hwl3
              have hp3 : ts[i % ts.length]? = some ts[i % ts.length] := by simp [hql3]
              generalize ts[i % ts.length] = p3 at hp3
              obtain ⟨b3, o3, rfl, hb3, hc3⟩ := HR3.out _ p3 hp3
              have e0 : ∀ W X, S w0 W X → W.cell? ⟨b3, o3 + i % ts.length, none⟩ = some (.int .i64 p3) := fun W X h => by
                have d0 := (h.1.cell (p := ⟨b3, o3 + i % ts.length * 1 + 0, none⟩) hb3).trans (hc3 0 _ rfl)
                rw [Nat.mul_one, Nat.add_zero] at d0
                exact d0
              have hrem3 : Int.tmod (i : Int) (ts.length : Int) = ((i % ts.length : Nat) : Int) := by rw [Int.ofNat_tmod]
              have hnz3 : ((ts.length : Int) == 0) = false := by simp; omega
              have hpk3 : ∀ W, Calls Tryz.prog 8 #[.int .i64 p3, .int .i64 100] W fun e w' => e = .returned (.int .i64 (pickN p3 100)) ∧ W = w' := fun W => HP100.out p3 W
              have hpl3 := pickN_lt p3 (show 0 < 100 by omega)
              generalize pickN p3 100 = pt at hpk3 hpl3
              have HPT := hid hpk3; have HE0 := hid e0
              clear hts hp3 hc3 hpk3 hwl3 e0
              have HC2 := hid HCR.out.next
              have e1 := HE0.out _ _ HS.out
              have HS6 := hid (HS.out.conv (M := bseB b d (.pointer (some ⟨eb, 0, none⟩)) ms.length false torn :: blk B 38 [.int .i64 5, .int .i64 level, .int .i64 tx, .int .i64 key] :: engP eb bs e :: dskB d D :: mp encI (fun _ => True) mb (ienc (wantD ms)) :: []) (by simp only [all]; ac_rfl))
              clear HS HCR
              go_wp2_with (first
                | (go_at_call 8; with_reducible refine (HPT.out _).mono ?_; rintro r w' ⟨rfl, rfl⟩)
                | (go_at_call 16; with_reducible refine (HTORN.out _ _ _ HS6.out).mono ?_; rintro r w4 ⟨rfl, hs4⟩; have H4 := hid hs4; clear hs4))
              go_meet
              exact ⟨bs, D, ms, e, ms.length, false, _, val, rfl, hval1, HC2, hid fun _ => rfl, hid H4.out.swap.tail⟩
          · have hwl : 0 < cs.length := List.length_pos_iff.2 hcs
            have hql : i % cs.length < cs.length := Nat.mod_lt _ hwl
            have hp2 : cs[i % cs.length]? = some cs[i % cs.length] := by simp [hql]
            generalize cs[i % cs.length] = p2 at hp2
            obtain ⟨b2, o2, rfl, hb2, hc2⟩ := HR2.out _ p2 hp2
            have d0 := (HS.out.1.cell (p := ⟨b2, o2 + i % cs.length * 1 + 0, none⟩) hb2).trans (hc2 0 _ rfl)
            rw [Nat.mul_one, Nat.add_zero] at d0
            have hrem : Int.tmod (i : Int) (cs.length : Int) = ((i % cs.length : Nat) : Int) := by rw [Int.ofNat_tmod]
            have hnz : ((cs.length : Int) == 0) = false := by simp; omega
            have hpk : ∀ W, Calls Tryz.prog 8 #[.int .i64 p2, .int .i64 3] W fun e w' => e = .returned (.int .i64 (pickN p2 3)) ∧ W = w' := fun W => HP3.out p2 W
            generalize pickN p2 3 = pc at hpk
            have HPC := hid hpk
            have hsc := HS.out
            have HS5 := hid (hsc.conv (M := dskB d D :: blk B 38 [.int .i64 5, .int .i64 level, .int .i64 tx, .int .i64 key] :: bseB b d (.pointer (some ⟨eb, 0, none⟩)) ms.length false torn :: engP eb bs e :: mp encI (fun _ => True) mb (ienc (wantD ms)) :: []) (by simp only [all]; ac_rfl))
            have HCR2 := hid (HCR.out.cut (pc : Int))
            clear hcs hp2 hc2 hpk hsc HS HCR hwl
            by_cases hts : ts = []
            · have n2 : decide ((0 : Int) < (ts.length : Int)) = false := by simp [hts]
              have n2' : decide (0 < ts.length) = false := by simp [hts]
              have HC2 := hid HCR2.out.next
              clear hts
              go_wp2_with (first
                | (go_at_call 8; with_reducible refine (HPC.out _).mono ?_; rintro r w' ⟨rfl, rfl⟩)
                | (go_at_call 15; with_reducible refine (HCUT.out _ _ _ HS5.out).mono ?_; rintro r w4 ⟨rfl, hs4⟩; have H4 := hid (hs4.conv (M := blk B 38 [.int .i64 5, .int .i64 level, .int .i64 tx, .int .i64 key] :: bseB b d (.pointer (some ⟨eb, 0, none⟩)) ms.length false torn :: engP eb bs e :: dskB d (D.setCut pc) :: mp encI (fun _ => True) mb (ienc (wantD ms)) :: []) (by simp only [all]; ac_rfl)); clear hs4))
              go_meet
              exact ⟨bs, _, ms, e, ms.length, false, torn, val, rfl, hval1, HC2, hid fun _ => rfl, hid H4.out.tail⟩
            · have hwl3 : 0 < ts.length := List.length_pos_iff.2 hts
              have hql3 : i % ts.length < ts.length := Nat.mod_lt _ hwl3
              have hp3 : ts[i % ts.length]? = some ts[i % ts.length] := by simp [hql3]
              generalize ts[i % ts.length] = p3 at hp3
              obtain ⟨b3, o3, rfl, hb3, hc3⟩ := HR3.out _ p3 hp3
              have e0 : ∀ W X, S w0 W X → W.cell? ⟨b3, o3 + i % ts.length, none⟩ = some (.int .i64 p3) := fun W X h => by
                have d0 := (h.1.cell (p := ⟨b3, o3 + i % ts.length * 1 + 0, none⟩) hb3).trans (hc3 0 _ rfl)
                rw [Nat.mul_one, Nat.add_zero] at d0
                exact d0
              have hrem3 : Int.tmod (i : Int) (ts.length : Int) = ((i % ts.length : Nat) : Int) := by rw [Int.ofNat_tmod]
              have hnz3 : ((ts.length : Int) == 0) = false := by simp; omega
              have hpk3 : ∀ W, Calls Tryz.prog 8 #[.int .i64 p3, .int .i64 100] W fun e w' => e = .returned (.int .i64 (pickN p3 100)) ∧ W = w' := fun W => HP100.out p3 W
              have hpl3 := pickN_lt p3 (show 0 < 100 by omega)
              generalize pickN p3 100 = pt at hpk3 hpl3
              have HPT := hid hpk3; have HE0 := hid e0
              clear hts hp3 hc3 hpk3 hwl3 e0
              have HC2 := hid HCR2.out.next
              clear HCR2
              go_wp2_with (first
                | (go_at_call 8; with_reducible refine (HPC.out _).mono ?_; rintro r w' ⟨rfl, rfl⟩)
                | (go_at_call 15; with_reducible refine (HCUT.out _ _ _ HS5.out).mono ?_; rintro r w4 ⟨rfl, hs4⟩; have H4 := hid (hs4.conv (M := bseB b d (.pointer (some ⟨eb, 0, none⟩)) ms.length false torn :: blk B 38 [.int .i64 5, .int .i64 level, .int .i64 tx, .int .i64 key] :: engP eb bs e :: dskB d (D.setCut pc) :: mp encI (fun _ => True) mb (ienc (wantD ms)) :: []) (by simp only [all]; ac_rfl)); have e1 := HE0.out _ _ hs4; clear hs4)
                | (go_at_call 8; with_reducible refine (HPT.out _).mono ?_; rintro r w' ⟨rfl, rfl⟩)
                | (go_at_call 16; with_reducible refine (HTORN.out _ _ _ H4.out).mono ?_; rintro r w5 ⟨rfl, hs5⟩; have H5 := hid hs5; clear hs5))
              go_meet
              exact ⟨bs, _, ms, e, ms.length, false, _, val, rfl, hval1, HC2, hid fun _ => rfl, hid H5.out.swap.tail⟩
        have b5 : (what == 5) = false := by simpa using h5
        have HC2 := hid HC.out.next
        go_wp2_with fail
        go_meet
        exact ⟨bs, D, ms, e, ms.length, false, torn, val, rfl, hval1, HC2, hid fun _ => rfl, hid HS.out.tail⟩
      case rest =>
        as_aux_lemma =>
          obtain ⟨bs', D', ms', e', used', down', torn', val', rfl, hv', HC', HD', HM'⟩ := hcut
          clear HC HOK HS HS0 hN2 z0 z1 z3 hval hwr hp6
          obtain ⟨M2, hM2⟩ : ∃ M2, M2 = bseB b d (.pointer (some ⟨eb, 0, none⟩)) used' down' torn' :: engP eb bs' e' :: mp encI (fun _ => True) mb (ienc (wantD ms')) :: [] := ⟨_, rfl⟩
          have hm1 : S w0 wc (dskB d D' :: M2) := by
            have h : S w0 wc _ := HM'.out
            rw [hM2]
            exact h.conv (by simp only [all]; ac_rfl)
          have HOP := hid (open_any w0 _ d D' ms' M2 hL HC'.out.disk hm1)
          have htold := told_all _ ms' rfl HC'.out.disk.2.2.1
          have hlen := listD_length htold
          have hav := HC'.out.all
          have HM2 := hid hM2
          have HLEN := hid hlen; have HAV := hid hav
          clear hm1 hM2 htold hlen hav HM'
          go_wp2_with fail
          with_reducible refine HOP.out.mono ?_
          rintro r w3 ⟨cb, ce, rfl, hs3⟩
          have hen := bengine_any w0 w3 cb d _ _ _ _ _ hs3
          have hall := eall_any w0 w3 ce [] _ _ 10 [] (OkT.over _ _) hs3.swap
          rw [HAV.out] at hall
          have HEN := hid hen; have HALL := hid hall
          clear hs3 hen hall HOP HAV
          obtain ⟨al, hal⟩ : ∃ al, al = listD (wantD ms') := ⟨_, rfl⟩
          have hmem : ∀ p ∈ al, mget (wantD ms') p.1 = some p.2 := fun p hp => (listD_mem.1 (hal ▸ hp)).2
          rw [← hal] at HALL HLEN
          have HMEM := hid hmem
          clear hal hmem
          go_wp2_with (first
            | (go_at_call 6; with_reducible refine HEN.out.mono ?_; rintro r w' ⟨rfl, rfl⟩)
            | (go_at_call 17; with_reducible refine HALL.out.mono ?_; rintro r w7 ⟨v7, rfl, hs7⟩; obtain ⟨ga, gc, rfl, hgc, hgc2, _⟩ := hs7.sl_val; unfold maxLen at hgc2; have H7 := hid (hs7.conv (M := mp encI (fun _ => True) mb (ienc (wantD ms')) :: sl 51 2 (.slice ga al.length gc) al.length (pcells al) :: dskB d D' :: bseB b d (.pointer (some ⟨eb, 0, none⟩)) used' down' torn' :: engP eb bs' e' :: bseB cb d (.pointer (some ⟨ce, 0, none⟩)) ms'.length false (-1) :: engP ce [] (Eng.over ms'.length al) :: []) (by rw [HM2.out]; simp only [all]; ac_rfl)); have hln := Tryz.lenC H7.out.mapAt; rw [← HLEN.out] at hln; clear hs7))
          clear HALL HEN hln HLEN HM2
          go_loopw [22] (fun c wq => ∃ q : Nat, q ≤ al.length ∧ c = .int .i64 q ∧ Hid (S w0 wq (mp encI (fun _ => True) mb (ienc (wantD ms')) :: sl 51 2 (.slice ga al.length gc) al.length (pcells al) :: dskB d D' :: bseB b d (.pointer (some ⟨eb, 0, none⟩)) used' down' torn' :: engP eb bs' e' :: bseB cb d (.pointer (some ⟨ce, 0, none⟩)) ms'.length false (-1) :: engP ce [] (Eng.over ms'.length al) :: []))) (fun c _ => al.length - (intOf c).toNat)
          case atStart => exact ⟨0, Nat.zero_le _, rfl, H7⟩
          case round =>
            clear H7
            rename World => wq
            obtain ⟨q, hq, rfl, H7⟩ := hrel
            by_cases hql : q < al.length
            · have hp : al[q]? = some al[q] := by simp [hql]
              generalize al[q] = p at hp
              obtain ⟨g, o5, rfl, _, d0, d1⟩ := H7.out.swap.sl_pair hp
              have lk := Tryz.look2 H7.out.mapAt p.1
              rw [HMEM.out p (List.mem_of_getElem? hp)] at lk
              simp only [Option.getD_some, Option.isSome_some] at lk
              clear hp HC' HD' HMEM
              go_wp2_with fail
              go_roundw
              case rel => exact ⟨q + 1, by omega, by go_num, H7⟩
              case measure => simp [intOf]; omega
            · have hdn := bdown_any w0 wq b d (.pointer (some ⟨eb, 0, none⟩)) used' down' torn' _ (H7.out.conv (M := bseB b d (.pointer (some ⟨eb, 0, none⟩)) used' down' torn' :: mp encI (fun _ => True) mb (ienc (wantD ms')) :: sl 51 2 (.slice ga al.length gc) al.length (pcells al) :: dskB d D' :: engP eb bs' e' :: bseB cb d (.pointer (some ⟨ce, 0, none⟩)) ms'.length false (-1) :: engP ce [] (Eng.over ms'.length al) :: []) (by simp only [all]; ac_rfl))
              have HDN := hid hdn
              clear hdn HMEM
              cases down' with
              | false =>
                obtain rfl : used' = ms'.length := HD'.out rfl
                have H8 : Hid (Mem w0 wq d mb b eb bs' D' (wantD ms') e' ms'.length false torn') := hid ((H7.out.conv (M := sl 51 2 (.slice ga al.length gc) al.length (pcells al) :: bseB cb d (.pointer (some ⟨ce, 0, none⟩)) ms'.length false (-1) :: engP ce [] (Eng.over ms'.length al) :: bseB b d (.pointer (some ⟨eb, 0, none⟩)) ms'.length false torn' :: engP eb bs' e' :: dskB d D' :: mp encI (fun _ => True) mb (ienc (wantD ms')) :: []) (by simp only [all]; ac_rfl)).tail.tail.tail)
                clear H7 HD'
                go_wp2_with (go_at_call 18; with_reducible refine HDN.out.mono ?_; rintro r w' ⟨rfl, rfl⟩)
                go_roundw
                case rel => exact ⟨i + 1, b, eb, bs', D', ms', e', val', torn', by omega, by go_num, rfl, hv', rfl, HC', H8⟩
                case measure => simp [intOf]; omega
              | true =>
                have hct := dcut_any w0 wq d D' (-1) _ (H7.out.conv (M := dskB d D' :: bseB b d (.pointer (some ⟨eb, 0, none⟩)) used' true torn' :: sl 51 2 (.slice ga al.length gc) al.length (pcells al) :: engP eb bs' e' :: bseB cb d (.pointer (some ⟨ce, 0, none⟩)) ms'.length false (-1) :: engP ce [] (Eng.over ms'.length al) :: mp encI (fun _ => True) mb (ienc (wantD ms')) :: []) (by simp only [all]; ac_rfl))
                have hop2 : ∀ W X, S w0 W (dskB d (D'.setCut (-1)) :: X) → _ := fun W X h => open_any w0 W d (D'.setCut (-1)) ms' X hL (HC'.out.cut (-1)).disk h
                have HCT := hid hct; have HOP2 := hid hop2
                have HC2 := hid (HC'.out.again (-1))
                clear H7 HD' hct hop2 HC'
                go_wp2_with (first
                  | (go_at_call 18; with_reducible refine HDN.out.mono ?_; rintro r w' ⟨rfl, rfl⟩)
                  | (go_at_call 15; with_reducible refine HCT.out.mono ?_; rintro r w8 ⟨rfl, hs8⟩; have H8 := hid hs8; clear hs8)
                  | (go_at_call 5; with_reducible refine (HOP2.out _ _ H8.out).mono ?_; rintro r w9 ⟨b9, e9, rfl, hs9⟩; have H9 := hid hs9; have HEN9 := hid (bengine_any w0 w9 b9 d _ _ _ _ _ hs9); clear hs9)
                  | (go_at_call 6; with_reducible refine HEN9.out.mono ?_; rintro r w' ⟨rfl, rfl⟩))
                have H10 : Hid (Mem w0 _ d mb b9 e9 [] (D'.setCut (-1)) (wantD ms') (Eng.over ms'.length (listD (wantD ms'))) ms'.length false (-1)) := hid ((H9.out.conv (M := bseB b d (.pointer (some ⟨eb, 0, none⟩)) used' true torn' :: sl 51 2 (.slice ga al.length gc) al.length (pcells al) :: engP eb bs' e' :: bseB cb d (.pointer (some ⟨ce, 0, none⟩)) ms'.length false (-1) :: engP ce [] (Eng.over ms'.length al) :: bseB b9 d (.pointer (some ⟨e9, 0, none⟩)) ms'.length false (-1) :: engP e9 [] (Eng.over ms'.length (listD (wantD ms'))) :: dskB d (D'.setCut (-1)) :: mp encI (fun _ => True) mb (ienc (wantD ms')) :: []) (by simp only [all]; ac_rfl)).tail.tail.tail.tail.tail)
                clear H9
                go_wp2_with fail
                go_roundw
                case rel => exact ⟨i + 1, b9, e9, [], _, ms', _, val', -1, by omega, by go_num, rfl, hv', rfl, HC2, H10⟩
                case measure => simp [intOf]; omega
    · have hi2 : i = ls.length := by omega
      clear HC
      have HB := HM.out.1
      clear HM
      go_wp2_with fail
      go_ret
      exact ⟨rfl, HB⟩
end Go.Proofs.YtaghjcdlghcjeaaGreatDoor
namespace Go.Proofs.YtaghjcdlghcjeaaGreatDoor.baseCrashes
open Go Go.ChangeShapes Go.WideShapes Go.ChangeAt Go.RowKit Go.Sep Go.Deep

theorem cells1 : Tryz.prog.cellsOf 38 = 4 := by kernel_rfl
theorem cells2 : Tryz.prog.cellsOf 3 = 1 := by kernel_rfl
instance : Inhabited ActC := ⟨⟨0, 0, 0, 0⟩⟩
theorem elem {H : Type} {enc : TypeId × Value → H} {w : World} (cs : List Value) (k : Nat) (y : DataW H × List MemPlace) (h : DataW.trod enc Tryz.prog w 0 (fun _ => true) true k 38 cs = some y) : ∃ p : ActC, ccells p = cs := by
  obtain ⟨y0, y1, y2, y3, n, _, hl, g0, g1, g2, g3⟩ := Joins.trod_struct4 Tryz.underlying38 h
  rw [cells1] at hl
  simp only [cells2] at g0 g1 g2 g3
  match cs, hl with
  | [a, b, c, d], _ =>
    obtain ⟨n0, e0, _⟩ := DataW.trod_int Tryz.underlying3 (by simpa using g0)
    obtain ⟨n1, e1, _⟩ := DataW.trod_int Tryz.underlying3 (by simpa using g1)
    obtain ⟨n2, e2, _⟩ := DataW.trod_int Tryz.underlying3 (by simpa using g2)
    obtain ⟨n3, e3, _⟩ := DataW.trod_int Tryz.underlying3 (by simpa using g3)
    simp only [List.cons.injEq, and_true] at e0 e1 e2 e3
    exact ⟨⟨n0, n1, n2, n3⟩, by rw [e0, e1, e2, e3]; rfl⟩
theorem elem1 {H : Type} {enc : TypeId × Value → H} {w : World} (cs : List Value) (k : Nat) (y : DataW H × List MemPlace) (h : DataW.trod enc Tryz.prog w 0 (fun _ => true) true k 3 cs = some y) : ∃ p : Int, ccell1 p = cs := by
  obtain ⟨n0, e0, _⟩ := DataW.trod_int Tryz.underlying3 h
  exact ⟨n0, by rw [e0]; rfl⟩

theorem laid_tail {P : Program} {x : String × DataW Unit} {l : List (String × DataW Unit)} {W : World} (h : laidMet P (x :: l) W) : laidMet P l W := by
  obtain ⟨ps, ⟨g, t, cs, fuel, p, q, _, _, _, _, hq, rfl⟩, hn, hc⟩ := h
  exact ⟨q, hq, (List.nodup_append.1 hn).2.1, fun b off hb => hc b off (List.mem_append.2 (.inr hb))⟩
theorem laid_at {P : Program} {W : World} : ∀ (l : List (String × DataW Unit)), laidMet P l W → ∀ x ∈ l, ∃ r, laidMet P (x :: r) W
  | y :: l, h, x, hx => by
    rw [List.mem_cons] at hx
    rcases hx with rfl | hx
    · exact ⟨l, h⟩
    · exact laid_at l (laid_tail h) x hx
theorem parts {W : World} (h : laidMetH Tryz.prog Rows.baseCrashesRow.laid W) : laidMet Tryz.prog (Rows.baseCrashesRow.laid.filter fun x => x.2.handleName?.isNone) W ∧ laidMetH Tryz.prog [("errors.errorType", Rows.laid_errors_errorType)] W := by
  have h' : laidMet Tryz.prog (Rows.baseCrashesRow.laid.filter fun x => x.2.handleName?.isNone) W ∧ handlesMet Tryz.prog [("errors.errorType", Rows.laid_errors_errorType)] W := h
  exact ⟨h'.1, laidMet_nil _ _, h'.2⟩
set_option linter.unusedSimpArgs false in
theorem pow10 {W : World} (h : laidMetH Tryz.prog Rows.baseCrashesRow.laid W) : Pow10 W := by
  obtain ⟨r, hr⟩ := laid_at _ (parts h).1 ("internal/strconv.uint64pow10", Rows.laid_internal_strconv_uint64pow10) (by
    refine List.mem_filter.2 ⟨?_, rfl⟩
    unfold Rows.baseCrashesRow
    simp only [List.mem_cons, Prod.mk.injEq, true_and, true_or, or_true])
  exact Lib.tabIs_of_head (g := 3) (t := 214) (e := 124) (n := 20) (by kernel_rfl) (by kernel_rfl) (by kernel_rfl) (by kernel_rfl) (by kernel_rfl) (by kernel_rfl) hr
theorem libok {W : World} (h : laidMetH Tryz.prog Rows.baseCrashesRow.laid W) (hs : W.ShapedOpen Tryz.prog) : LibOk W :=
  ⟨pow10 h, Go.Proofs.cell_of_shapedOpen_int (zero := #[.int .i64 0]) (t := 3) hs (of_decide_eq_true (by kernel_rfl)) (by kernel_rfl) rfl (by kernel_rfl) (by kernel_rfl) Tryz.underlying3⟩

set_option maxRecDepth 100000 in
theorem contract (H : Type) (enc : TypeId × Value → H) (W : World) (base : Nat) (args : Array Value) (ds gs : List (DataW H)) (before : List MemPlace)
    (hval : ∀ (j : Nat) t v, Tryz.f3.params[j]? = some t → args[j]? = some v → Value.okWide Tryz.prog W .any base t v)
    (hW : DataW.Whole enc Tryz.prog Tryz.f3.params.toList Rows.baseCrashesSpec.vars false W args.toList ds gs before) (hL : laidMetH Tryz.prog Rows.baseCrashesRow.laid W) (hSh : W.ShapedOpen Tryz.prog) :
    Calls Tryz.prog 3 args W fun e W' => ∃ v, e = .returned v ∧ Rows.baseCrashesSpec.post enc Tryz.prog Tryz.f3 false true false false W args v W' := by
  have hW' := hW
  obtain ⟨p, q, hA0, hV, rfl, hfz, hnd⟩ := hW
  have hA : DataW.TrodAll enc Tryz.prog W 0 (fun _ => true) true Tryz.f3.params.toList args.toList ds p := hA0
  rw [Tryz.params3] at hA hval
  obtain ⟨v0, vs0, d0, ds0, p0, q0, hargs, rfl, rfl, h0, r0⟩ := trodAll_cons hA
  obtain ⟨v1, vs1, d1, ds1, p1, q1, rfl, rfl, rfl, h1, r1⟩ := trodAll_cons r0
  obtain ⟨v2, vs2, d2, ds2, p2, q2, rfl, rfl, rfl, h2, r2⟩ := trodAll_cons r1
  obtain ⟨rfl, rfl, rfl⟩ := trodAll_nil r2
  obtain rfl : args = #[v0, v1, v2] := Array.ext' hargs
  obtain ⟨a0, len0, cap0, rfl⟩ := okWide_slice Tryz.underlying22 (hval 0 22 _ rfl rfl)
  obtain ⟨fuel0, hf0⟩ := h0
  obtain ⟨a1, len1, cap1, rfl⟩ := okWide_slice Tryz.underlying23 (hval 1 23 _ rfl rfl)
  obtain ⟨fuel1, hf1⟩ := h1
  obtain ⟨a2, len2, cap2, rfl⟩ := okWide_slice Tryz.underlying23 (hval 2 23 _ rfl rfl)
  obtain ⟨fuel2, hf2⟩ := h2
  clear hA0 hA
  have hE := handle_of_laid (parts hL).2
  have hLib := libok hL hSh
  simp only [List.append_nil] at hW'
  obtain ⟨v, ls, hv, hr⟩ := argF_of ccells Tryz.underlying22 cells1 (by omega) elem hf0
  obtain ⟨u, cs, hu, hr2⟩ := argF_of ccell1 Tryz.underlying23 cells2 (by omega) elem1 hf1
  obtain ⟨x, ts, hx, hr3⟩ := argF_of ccell1 Tryz.underlying23 cells2 (by omega) elem1 hf2
  obtain rfl : Value.slice a0 len0 cap0 = v := by simpa [Value.cells] using hv
  obtain rfl : Value.slice a1 len1 cap1 = u := by simpa [Value.cells] using hu
  obtain rfl : Value.slice a2 len2 cap2 = x := by simpa [Value.cells] using hx
  refine (crash_any W _ _ _ ls cs ts hE hLib hr hr2 hr3).mono fun e W' ⟨he, hb⟩ => ⟨_, he, ?_⟩
  exact post_law Tryz.laidOut (by kernel_rfl) (by kernel_rfl) Tryz.underlying4 rfl rfl hW' hb

noncomputable def baseWorld (os : Os) : World :=
  { World.holding Tryz.prog os ⟨#[], #[], []⟩ with heap := (World.holding Tryz.prog os ⟨#[], #[], []⟩).heap.modify 0 fun
      | .cells _ t frozen => .cells #[.iface 161 (.agg #[.pointer (some ⟨9, 31, none⟩)])] t frozen
      | o => o }
def LL : List (String × DataW Unit) := Rows.baseCrashesRow.laid.filter fun x => x.2.handleName?.isNone
noncomputable def laidWorld (os : Os) : World := (baseWorld os).layVars Tryz.prog LL
theorem laid_met (os : Os) : laidMetH Tryz.prog Rows.baseCrashesRow.laid ((laidWorld os).forCall (fun _ _ => 0) ⟨#[], #[.slice none 0 0, .slice none 0 0, .slice none 0 0], []⟩).memory := by
  refine laidMetH_of_parts ?_ (by kernel_rfl)
  have e1 : (LL.filter fun x => (LL.map (·.1)).contains x.1) = LL := List.filter_eq_self.2 fun x hx => List.contains_iff_mem.2 (List.mem_map.2 ⟨x, hx, rfl⟩)
  have e2 : (LL.filter fun x => !(LL.map (·.1)).contains x.1) = [] := List.filter_eq_nil_iff.2 fun x hx => by rw [List.contains_iff_mem.2 (List.mem_map.2 ⟨x, hx, rfl⟩)]; simp
  have h : laidMet Tryz.prog LL (laidWorld os) := laidMet_layVars (w0 := baseWorld os) (LL.map (·.1)) [] (by rw [e1]; rfl) (by rw [e1]; kernel_rfl) (by rw [e1]; kernel_rfl) (by rw [e2]; exact LaidIn.none)
  exact h.of_heap (by simp [World.memory, World.forCall, Input.heap])
theorem reads (os : Os) {H : Type} (enc : TypeId × Value → H) : ∃ places, DataW.whole enc Tryz.prog ((laidWorld os).forCall (fun _ _ => 0) ⟨#[], #[.slice none 0 0, .slice none 0 0, .slice none 0 0], []⟩).memory Tryz.f3.params.toList Rows.baseCrashesSpec.vars false #[Value.slice none 0 0, .slice none 0 0, .slice none 0 0].toList 8 = some ([.nil, .nil, .nil], [], places) :=
  ⟨[], by kernel_rfl⟩

set_option maxRecDepth 100000 in
theorem lifted (os : Os) (started : os.Started) (H : Type) (enc : TypeId × Value → H) (F : Stop.Interp) :
    ReturnsInHanded {} Tryz.checked os 3 .any ((OpenSpec.ofChange Rows.baseCrashesSpec).preRow enc Tryz.prog Tryz.f3 Rows.baseCrashesRow.domain false Rows.baseCrashesRow.laid) (((OpenSpec.ofChange Rows.baseCrashesSpec).at F).post enc Tryz.prog Tryz.f3 false true false false) := by
  obtain ⟨places, hx⟩ := reads os enc
  refine returnsInHanded_of_row (C := Tryz.checked) (s := OpenSpec.ofChange Rows.baseCrashesSpec) Tryz.own started (by kernel_rfl) Tryz.func3
    (by
      obtain ⟨w, tape, i, h1, h2, h3, h4, h5, h6, _⟩ := OpenSpec.witness_stopped_atRef (enc := enc) (C := Tryz.checked) (f := 3) (fn := Tryz.f3) (s := OpenSpec.ofChange Rows.baseCrashesSpec) (conds := Rows.baseCrashesRow.domain) (apart := false) (laid := Rows.baseCrashesRow.laid) false (laidWorld os) #[.slice none 0 0, .slice none 0 0, .slice none 0 0] (World.layVars_os _ _ _) (by kernel_rfl) (by kernel_rfl) (by kernel_rfl)
        (OpenSpec.preRow_of_cond 8 hx (by kernel_rfl) (fun k hk => by cases hk) (by kernel_rfl) (laid_met os)) (fun _ _ _ => 0)
      exact ⟨w, tape, i, h1, h2, h3, h4, h5, h6⟩) ?_
  intro W base args ds gs before hval hW _ _ _ hL hSh _
  exact contract H enc W base args ds gs before hval hW hL hSh

theorem said : Rows.BaseCrashesSaid :=
  OpenClaim.holds_of_cond 3 Tryz.f3 rfl rfl rfl rfl rfl rfl rfl ⟨rfl, rfl, rfl, rfl, rfl⟩ rfl rfl rfl rfl rfl (by kernel_rfl) Tryz.func3 (by kernel_rfl)
    (of_decide_eq_true (by kernel_rfl)) (by unfold Func.isWrapper; first | (rw [if_pos (by decide +kernel)]; kernel_rfl) | (rw [if_neg (by decide +kernel)]; exact ⟨rfl, rfl⟩))
    (fun os started H enc _ F => by rw [OpenClaim.pre_eq_preRow]; exact lifted os started H enc F)

theorem plain (f : FuncId) (fn : Func) (hf : Tryz.pinned.checked.prog.funcNamed "interleaf/interleafkeep.BaseCrashes" = some f) (hfn : Tryz.pinned.checked.prog.funcs[f]? = some fn) :
    true = Tryz.pinned.checked.prog.looks [] ∧ ∀ (j : Nat) t, fn.params[j]? = some t → Tryz.pinned.checked.prog.wantsStandIn t = false := by
  obtain rfl : f = 3 := Option.some.inj ((show Tryz.prog.funcNamed "interleaf/interleafkeep.BaseCrashes" = some 3 by kernel_rfl).symm.trans hf) |>.symm
  obtain rfl : fn = Tryz.f3 := (Option.some.inj (Tryz.func3.symm.trans hfn)).symm
  refine ⟨by kernel_rfl, fun j t ht => ?_⟩
  rw [Tryz.params3] at ht
  have hall : (#[22, 23, 23] : Array Nat).all (fun t => decide (Tryz.prog.wantsStandIn t = false)) = true := by kernel_rfl
  exact (of_decide_eq_true (Array.all_eq_true_iff_forall_mem.1 hall t (Array.mem_of_getElem? ht)) : Tryz.prog.wantsStandIn t = false)

theorem card : Rows.BaseCrashesCardSaid :=
  Claim7.holds_tied_plain_at .later [] _ _ _ _ said (fun _ h => by cases h) (by kernel_rfl) (fun _ h => by cases h) baseCrashes_row_tie rfl ⟨rfl, rfl⟩ (by kernel_rfl) rfl plain (by kernel_rfl)
end Go.Proofs.YtaghjcdlghcjeaaGreatDoor.baseCrashes
