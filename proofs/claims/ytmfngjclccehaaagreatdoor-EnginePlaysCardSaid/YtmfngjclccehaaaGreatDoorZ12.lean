/- Transactions at the same time: versions, what a commit installs, what a sweep leaves; what is as it was later on. No walk in sight. -/
import Derived.Test.YtmfngjclccehaaaGreatDoorZ0
import Derived.Test.YtmfngjclccehaaaGreatDoorZ5
import Derived.Test.YtmfngjclccehaaaGreatDoorZ11
import Derived.Test.YtmfngjclccehaaaGreatDoorZ10
/- The reference's table: Ask. -/
namespace Go.Proofs.YtmfngjclccehaaaGreatDoor
open Go Go.RowKit Go.Sep
set_option maxRecDepth 40000 in
set_option maxHeartbeats 16000000 in
theorem rask_any (w0 w : World) {bo : Nat} (b : Nat) (t : Tbl) (Qs : List (List Int)) (tx key : Int) (cc : Bool) (L : List HProp) (hs : S w0 w (rtabP 3 b bo Qs :: L)) (hST : SameT t Qs) (hN : ∀ q ∈ Qs, q.length ≤ 900000)
  (hch : ∀ a, mget t.hold key = some a → ∃ n, chase t tx n a = some cc) :
  Calls Tryz.prog 59 #[.pointer (some ⟨b, bo, none⟩), .int .i64 tx, .int .i64 key] w fun e w' => e = .returned (.tuple #[.bool (raskT Qs tx key cc).2.1, .int .i64 (raskT Qs tx key cc).2.2]) ∧ S w0 w' (rtabP 3 b bo (raskT Qs tx key cc).1 :: L) := by
 obtain ⟨kv, hs1⟩ := hs.ex_elim
 have hN0 : ∀ q ∈ Qs, q.length ≤ 1000000 := fun q hq => by have := hN q hq; omega
 have H := hid hs1; have HN0 := hid hN0; have HN9 := hid hN; have HST := hid hST; have HCH := hid hch
 have HP : Hid (S w0 w (rtabP 3 b bo Qs :: L)) := hid hs
 clear hs hs1 hN0 hN hST hch
 by_cases hk : 0 ≤ key ∧ key ≤ 9
 ·have hb : decide ((0 : Int) ≤ key ∧ key ≤ 9) = true := decide_eq_true hk
  by_cases htx : tx < 1
  ·have hr : raskT Qs tx key cc = (Qs, false, 2) := by unfold raskT; rw [if_pos (by omega)]
   have HR := hid hr
   clear hr
   go_enter Tryz.func59, Tryz.ntmps59
   go_wp2_with (first | (go_at_call 44; with_reducible refine (in_any _ _ _ _).mono ?_; rw [hb]; rintro e w' ⟨rfl, rfl⟩) | (go_at_call 77; with_reducible refine (rwaits_any w0 _ b kv Qs _ L H.out HN0.out).mono ?_; rintro e w' ⟨rfl, rfl⟩) | (go_at_call 76; with_reducible refine (rholds_any w0 _ b kv Qs _ L H.out).mono ?_; rintro e w' ⟨rfl, rfl⟩))
   go_ret2
   exact ⟨by rw [HR.out]; rfl, by rw [HR.out]; exact HP.out⟩
  ·have htx1 : 1 ≤ tx := by omega
   clear htx
   by_cases hw : 0 ≤ rwaits Qs tx
   ·have hr : raskT Qs tx key cc = (Qs, false, 6) := by unfold raskT; rw [if_neg (by omega), if_pos hw]
    have HR := hid hr
    clear hr
    go_enter Tryz.func59, Tryz.ntmps59
    go_wp2_with (first | (go_at_call 44; with_reducible refine (in_any _ _ _ _).mono ?_; rw [hb]; rintro e w' ⟨rfl, rfl⟩) | (go_at_call 77; with_reducible refine (rwaits_any w0 _ b kv Qs _ L H.out HN0.out).mono ?_; rintro e w' ⟨rfl, rfl⟩) | (go_at_call 76; with_reducible refine (rholds_any w0 _ b kv Qs _ L H.out).mono ?_; rintro e w' ⟨rfl, rfl⟩))
    go_ret2
    exact ⟨by rw [HR.out]; rfl, by rw [HR.out]; exact HP.out⟩
   ·have hw1 : rwaits Qs tx < 0 := by omega
    have HW := hid hw
    clear hw
    by_cases hh : rholds Qs key = tx
    ·have hr : raskT Qs tx key cc = (Qs, true, 0) := by unfold raskT; rw [if_neg (by omega), if_neg (show ¬ 0 ≤ rwaits Qs tx by have := HW.out; omega), if_pos hh]
     have HR := hid hr
     clear hr
     go_enter Tryz.func59, Tryz.ntmps59
     go_wp2_with (first | (go_at_call 44; with_reducible refine (in_any _ _ _ _).mono ?_; rw [hb]; rintro e w' ⟨rfl, rfl⟩) | (go_at_call 77; with_reducible refine (rwaits_any w0 _ b kv Qs _ L H.out HN0.out).mono ?_; rintro e w' ⟨rfl, rfl⟩) | (go_at_call 76; with_reducible refine (rholds_any w0 _ b kv Qs _ L H.out).mono ?_; rintro e w' ⟨rfl, rfl⟩))
     go_ret2
     exact ⟨by rw [HR.out]; rfl, by rw [HR.out]; exact HP.out⟩
    have hhb : (rholds Qs key == tx) = false := by simpa using hh
    have HH := hid hh
    clear hh
    obtain ⟨r, hrk⟩ := HST.out.rk
    have hrank := Rk.ranked HST.out.tab hrk
    have HRK := hid hrank
    clear hrk hrank
    obtain ⟨k, rfl⟩ : ∃ k : Nat, key = k := ⟨key.toNat, by omega⟩
    have hk10 : k < 10 := by omega
    obtain ⟨v, q, X, hkv, hQ, hsl, hcell, _, hput⟩ := H.out.rtabK_key k hk10
    have hq9 := HN9.out q (List.mem_of_getElem? hQ)
    obtain ⟨a, c, rfl, hc1, hc2, _⟩ := hsl.sl_val
    have hqf : qf Qs k = q := by rw [qf_nat, hQ]; rfl
    have hnq := news_old (w := w) (ad := a) (xs := icells q) fun j u hj => by
     obtain ⟨g2, o2, c2, hv2, _, _, _, hlt2, hcc2, _⟩ := hsl.sl_some (by have := (List.getElem?_eq_some_iff.1 hj).1; omega)
     simp only [Value.slice.injEq] at hv2
     exact ⟨g2, o2, hv2.1, hlt2, hcc2 j u hj⟩
    have hjx : ∀ (W : World) (M : List HProp), S w W M → S w0 W (X :: sl 3 1 (.slice a q.length c) q.length (icells q) :: (M ++ L)) := fun W M h =>
     (hsl.join h).conv (by rw [all_append]; simp only [all, all_append]; ac_rfl)
    have hkp : ∀ (W : World) (M : List HProp), S w W M → W.cell? ⟨b, bo + k, none⟩ = some (.slice a q.length c) ∧ W.frozen? ⟨b, bo + k, none⟩ = false := fun W M h => by
     obtain ⟨x1, x2, _⟩ := hcell W _ (hjx W M h)
     exact ⟨x1, x2⟩
    have hfin : ∀ (v' : Value) (W : World), S w W [sl 3 1 v' (q.length + 1) (icells q ++ icells [tx]), sl 3 1 (.slice (some ⟨0, 0, none⟩) 0 0) 0 []] → True := fun _ _ _ => trivial
    have hfin2 : ∀ (W : World) (v' : Value) (B : HProp), S w W [sl 3 1 v' (q.length + 1) (icells q ++ icells [tx]), B] → S w0 (W.setCell ⟨b, bo + k, none⟩ v') (rtabP 3 b bo (Qs.set k (q ++ [tx])) :: L) := fun W v' B h => by
     have h1 : S w0 W (B :: sl 3 1 (.slice a q.length c) q.length (icells q) :: sl 3 1 v' (q ++ [tx]).length (icells (q ++ [tx])) :: X :: L) := (hsl.join h).conv (by
      rw [icells_append, List.length_append, List.length_singleton]
      simp only [List.cons_append, List.nil_append, all]; ac_rfl)
     have h2 := hput W v' (q ++ [tx]) L h1.tail.tail
     exact .ex_intro _ h2
    have HFIN := hid hfin2; have KP := hid hkp; have HN := hid hnq; have HQF := hid hqf
    have H63a : Hid (0 + q.length ≤ 1000000) := hid (by omega)
    have H63b : Hid (q.length + 1 ≤ 1000000) := hid (by omega)
    have hb0 : (0 : Int) ≤ (k : Int) := by omega
    have hb2 : (k : Int) < 10 := by omega
    obtain ⟨i0, hi0, hz0, hz1, hz2⟩ := info_parts Tryz.info3
    clear hkv hQ hsl hcell hput hjx hkp hfin hfin2 hnq hqf hk
    have hst0 : rholds Qs (k : Int) = 0 ∨ (1 ≤ rholds Qs (k : Int) ∧ ∃ n, chase t tx n (rholds Qs (k : Int)) = some cc) := by
     have hh0 := HST.out.tab.hold k
     rcases hq0 : qf Qs (k : Int) with _ | ⟨y, l⟩
     ·left; unfold rholds; rw [hq0]; rfl
     ·right
      rw [hq0] at hh0
      have e : rholds Qs (k : Int) = y := by unfold rholds; rw [hq0]; rfl
      rw [e]
      exact ⟨HST.out.pos k y (by rw [hq0]; simp), HCH.out y hh0⟩
    have HST0 := hid hst0
    clear hst0
    go_enter Tryz.func59, Tryz.ntmps59
    go_upto_block 0 with (first | (go_at_call 44; with_reducible refine (in_any _ _ _ _).mono ?_; rw [hb]; rintro e w' ⟨rfl, rfl⟩) | (go_at_call 77; with_reducible refine (rwaits_any w0 _ b kv Qs _ L H.out HN0.out).mono ?_; rintro e w' ⟨rfl, rfl⟩) | (go_at_call 76; with_reducible refine (rholds_any w0 _ b kv Qs _ L H.out).mono ?_; rintro e w' ⟨rfl, rfl⟩))
    go_cut [] (fun wx => wx = w ∧ (rholds Qs (k : Int) = 0 ∨ cc = false))
    case first =>
     go_wp2_with fail
     go_loop [9] (fun c => ∃ y : Int, c = .int .i64 y ∧ Hid ((y = 0 ∧ rholds Qs (k : Int) = 0) ∨ (1 ≤ y ∧ y ≠ tx ∧ rholds Qs (k : Int) ≠ 0 ∧ ∃ n, chase t tx n y = some cc))) (fun c => r (intOf c))
     case atStart =>
      refine ⟨_, rfl, hid ?_⟩
      rcases HST0.out with h | ⟨h1, h2⟩
      ·exact .inl ⟨h, h⟩
      ·exact .inr ⟨h1, HH.out, by omega, h2⟩
     case round =>
      obtain ⟨y, rfl, hy⟩ := hrel
      rcases hy.out with ⟨rfl, h0⟩ | ⟨h1, h2, h3, n, hn⟩
      ·have HX := hid h0
       clear hy h0
       go_wp2_with fail
       go_meet
       exact ⟨rfl, .inl HX.out⟩
      ·have hy0 : (y != 0) = true := by simp only [bne_iff_ne, ne_eq]; omega
       have hwn := HST.out.waits_nonneg y
       have hw2 := HST.out.waits y
       obtain ⟨n, rfl⟩ : ∃ m, n = m + 1 := by
        cases n with
        | zero => simp [chase] at hn
        | succ m => exact ⟨m, rfl⟩
       unfold chase at hn
       rw [if_neg h2] at hn
       by_cases hk0 : rwaits Qs y < 0
       ·have hcf : cc = false := by
         cases hm : mget t.wait y with
         | none => rw [hm] at hn; simp only [Option.some.injEq] at hn; exact hn.symm
         | some j => rw [hm, Option.isSome_some] at hwn; have := of_decide_eq_true hwn.symm; omega
        have HX := hid hcf
        clear hy h2 h3 hn hwn hw2 hcf h1
        go_wp2_with (first | (go_at_call 44; with_reducible refine (in_any _ _ _ _).mono ?_; rw [hb]; rintro e w' ⟨rfl, rfl⟩) | (go_at_call 77; with_reducible refine (rwaits_any w0 _ b kv Qs _ L H.out HN0.out).mono ?_; rintro e w' ⟨rfl, rfl⟩) | (go_at_call 76; with_reducible refine (rholds_any w0 _ b kv Qs _ L H.out).mono ?_; rintro e w' ⟨rfl, rfl⟩))
        go_meet
        exact ⟨rfl, .inr HX.out⟩
       ·obtain ⟨j, hm⟩ : ∃ j, mget t.wait y = some j := by
         cases hm : mget t.wait y with
         | none => rw [hm] at hwn; have := of_decide_eq_false (hwn.symm.trans rfl); omega
         | some j => exact ⟨j, rfl⟩
        rw [hm] at hn hw2
        simp only [Option.getD_some] at hn hw2
        have hj : (mget t.hold j).getD 0 = rholds Qs j := HST.out.holds j
        have hrk := HRK.out y j hm
        rw [hj] at hn hrk
        have hp1 : 1 ≤ rholds Qs j := by
         have hyt := (HST.out.tab.wait y j).1 hm
         rcases hq0 : qf Qs j with _ | ⟨z, l⟩
         ·rw [hq0] at hyt; simp at hyt
         ·have e : rholds Qs j = z := by unfold rholds; rw [hq0]; rfl
          rw [e]; exact HST.out.pos j z (by rw [hq0]; simp)
        have hk1 : ¬ j < 0 := by omega
        have hk2 : 0 ≤ j := by omega
        have hwe : rwaits Qs y = j := hw2.symm
        by_cases hjt : rholds Qs j = tx
        ·have hct : cc = true := by
          rw [hjt] at hn
          cases n with
          | zero => simp [chase] at hn
          | succ m => unfold chase at hn; rw [if_pos rfl] at hn; simpa using hn.symm
         have hr : raskT Qs tx k cc = (Qs, false, 11) := by unfold raskT; rw [if_neg (by omega), if_neg (show ¬ 0 ≤ rwaits Qs tx by have := HW.out; omega), if_neg HH.out, if_pos ⟨h3, hct⟩]
         have HR := hid hr
         clear hy h2 h3 hn hwn hw2 hct hr h1 hm hj hrk hp1 hk0 hk1
         go_wp2_with (first | (go_at_call 44; with_reducible refine (in_any _ _ _ _).mono ?_; rw [hb]; rintro e w' ⟨rfl, rfl⟩) | (go_at_call 77; with_reducible refine (rwaits_any w0 _ b kv Qs _ L H.out HN0.out).mono ?_; rintro e w' ⟨rfl, rfl⟩) | (go_at_call 76; with_reducible refine (rholds_any w0 _ b kv Qs _ L H.out).mono ?_; rintro e w' ⟨rfl, rfl⟩))
         go_ret2
         exact ⟨by rw [HR.out]; rfl, by rw [HR.out]; exact HP.out⟩
        ·have hjb : (rholds Qs j == tx) = false := by simpa using hjt
         have HX : Hid (1 ≤ rholds Qs j ∧ rholds Qs j ≠ tx ∧ rholds Qs (k : Int) ≠ 0 ∧ ∃ n, chase t tx n (rholds Qs j) = some cc) := hid ⟨hp1, hjt, h3, n, hn⟩
         have HM := hid hrk
         clear hy h2 h3 hn hwn hw2 h1 hm hj hrk hp1 hk0 hk1 hjt
         go_wp2_with (first | (go_at_call 44; with_reducible refine (in_any _ _ _ _).mono ?_; rw [hb]; rintro e w' ⟨rfl, rfl⟩) | (go_at_call 77; with_reducible refine (rwaits_any w0 _ b kv Qs _ L H.out HN0.out).mono ?_; rintro e w' ⟨rfl, rfl⟩) | (go_at_call 76; with_reducible refine (rholds_any w0 _ b kv Qs _ L H.out).mono ?_; rintro e w' ⟨rfl, rfl⟩))
         go_round
         case rel => exact ⟨_, rfl, hid (.inr HX.out)⟩
         case measure => exact HM.out
    case rest =>
    obtain ⟨rfl, hcc⟩ := hcut
    have hr : raskT Qs tx k cc = (Qs.set k (q ++ [tx]), decide (rholds Qs (k : Int) = 0), 0) := by
     unfold raskT
     rw [if_neg (by omega), if_neg (show ¬ 0 ≤ rwaits Qs tx by have := HW.out; omega), if_neg HH.out, if_neg (by rintro ⟨x1, x2⟩; rcases hcc with h | h; exact x1 h; rw [h] at x2; cases x2), HQF.out]
     rfl
    have HR := hid hr
    clear hr hcc
    go_wp2_with fail
    go_cut [] (fun wx => S w0 wx (rtabP 3 b bo (Qs.set k (q ++ [tx])) :: L))
    case first =>
     refine wp_region_held_drew (S := fun _ => True) (by kernel_rfl) trivial (fun hHeld => ?_)
     refine wpAnyH_take (i := 0) (v := ?_) rfl (by kernel_rfl) (by kernel_rfl) (by kernel_rfl) (fun _ _ _ h => h) (Or.inl ⟨by rfl, ?_⟩) hHeld ?_
     rotate_left
     ·(intro w hSw; (try dsimp only at hSw); go_simp) <;> with_reducible rfl
     try simp only [Act.put, List.setIfInBounds_toArray]
     refine wpAnyH_take (i := 1) (v := ?_) rfl (by kernel_rfl) (by kernel_rfl) (by kernel_rfl) (fun _ _ _ h => h) (Or.inl ⟨by rfl, ?_⟩) hHeld ?_
     rotate_left
     ·(intro w hSw; (try dsimp only at hSw); go_simp) <;> with_reducible rfl
     try simp only [Act.put]
     refine wpAnyH_take (i := 3) (v := ?_) rfl (by kernel_rfl) (by kernel_rfl) (by kernel_rfl) (fun _ _ _ h => h) (Or.inl ⟨by rfl, ?_⟩) hHeld ?_
     rotate_left
     ·(intro w hSw; (try dsimp only at hSw); go_simp) <;> with_reducible rfl
     try simp only [Act.put]
     refine wpAnyH_take (i := 4) (v := ?_) rfl (by kernel_rfl) (by kernel_rfl) (by kernel_rfl) (fun _ _ _ h => h) (Or.inl ⟨by rfl, ?_⟩) hHeld ?_
     rotate_left
     ·(intro w hSw; (try dsimp only at hSw); go_simp) <;> with_reducible rfl
     try simp only [Act.put]
     refine wpAnyH_take (i := 5) (v := ?_) rfl (by kernel_rfl) (by kernel_rfl) (by kernel_rfl) (fun _ _ _ h => h) (Or.inl ⟨by rfl, ?_⟩) hHeld ?_
     rotate_left
     ·(intro w hSw; (try dsimp only at hSw); go_simp) <;> with_reducible rfl
     try simp only [Act.put]
     refine wpAnyH_take (i := 6) (v := ?_) rfl (by kernel_rfl) (by kernel_rfl) (by kernel_rfl) (fun _ _ _ h => h) (Or.inl ⟨by rfl, ?_⟩) hHeld ?_
     rotate_left
     ·(intro w hSw; (try dsimp only at hSw); go_simp) <;> with_reducible rfl
     try simp only [Act.put]
     refine wpAnyH_take (i := 7) (v := ?_) rfl (by kernel_rfl) (by kernel_rfl) (by kernel_rfl) (fun _ _ _ h => h) (Or.inl ⟨by rfl, ?_⟩) hHeld ?_
     rotate_left
     ·(intro w hSw; (try dsimp only at hSw); go_simp) <;> with_reducible rfl
     try simp only [Act.put]
     refine wpAnyH_take (i := 10) (v := ?_) rfl (by kernel_rfl) (by kernel_rfl) (by kernel_rfl) (fun _ _ _ h => h) (Or.inl ⟨by rfl, ?_⟩) hHeld ?_
     rotate_left
     ·(intro w hSw; (try dsimp only at hSw); go_simp) <;> with_reducible rfl
     try simp only [Act.put]
     refine wpAnyH_take (i := 13) (v := ?_) rfl (by kernel_rfl) (by kernel_rfl) (by kernel_rfl) (fun _ _ _ h => h) (Or.inl ⟨by rfl, ?_⟩) hHeld ?_
     rotate_left
     ·(intro w hSw; (try dsimp only at hSw); go_simp) <;> with_reducible rfl
     try simp only [Act.put]
     refine wpAnyH_take (i := 14) (v := ?_) rfl (by kernel_rfl) (by kernel_rfl) (by kernel_rfl) (fun _ _ _ h => h) (Or.inl ⟨by rfl, ?_⟩) hHeld ?_
     rotate_left
     ·(intro w hSw; (try dsimp only at hSw); go_simp) <;> with_reducible rfl
     try simp only [Act.put]
     have HS := hid (S.start wc).drew
     clear hHeld
     generalize wc.drew = w1 at HS ⊢
     refine wpAnyH_ready (rs := [2, 8, 11]) (by kernel_rfl) (by simp) ?_
     refine AllReadyH.cons rfl (fun K hK => ?_) ?_
     ·go_simp
      replace HS := hid (HS.out.alloc_sl (e := 3) [] _ rfl nil_max)
      refine hK.out _ _ trivial (fun _ => ?_)
      clear hK K
      generalize w1.heap.size = b2 at HS ⊢
      generalize World.alloc w1 _ = w2 at HS ⊢
      refine wpAnyH_ready (rs := [8, 11]) (by kernel_rfl) (by simp) ?_
      refine AllReadyH.cons rfl (fun K hK => ?_) ?_
      ·have q := (KP.out _ _ HS.out).1
       go_simp
       refine hK.out _ _ trivial (fun _ => ?_)
       clear hK K q
       refine wpAnyH_ready (rs := [9, 11]) (by kernel_rfl) (by simp) ?_
       refine AllReadyH.cons rfl (fun K hK => ?_) ?_
       ·refine step_app rfl (.tmp 44) (.tmp 50) 48 rfl 3 i0 _ 8 Tryz.underlying48 hi0 hz0 hz1 hz2 rfl HS.out 0 (by rfl) (by rfl) a q.length c (icells q) (by rfl) (icells_length q) (HN.out _ _ HS.out) (icells_one _) H63a.out (Nat.le_refl 8) ?_
        intro v_a9 w3 hs
        replace HS := hid hs.norm0
        clear hs
        refine hK.out _ _ trivial (fun _ => ?_)
        clear hK K
        try simp only [Act.put, List.setIfInBounds_toArray]
        refine wpAnyH_ready (rs := [11]) (by kernel_rfl) (by simp) ?_
        refine AllReadyH.cons rfl (fun K hK => ?_) ?_
        ·go_simp
         replace HS := hid (HS.out.alloc_sl (e := 3) [.int .i64 tx] _ rfl (one_max tx))
         refine hK.out _ _ trivial (fun _ => ?_)
         clear hK K
         generalize w3.heap.size = b11 at HS ⊢
         generalize World.alloc w3 _ = w4 at HS ⊢
         refine wpAnyH_ready (rs := [12]) (by kernel_rfl) (by simp) ?_
         refine AllReadyH.cons rfl (fun K hK => ?_) ?_
         ·refine step_app rfl (.tmp 51) (.tmp 53) 48 rfl 3 i0 _ 8 Tryz.underlying48 hi0 hz0 hz1 hz2 rfl HS.out 1 (by rfl) (by rfl) _ 1 1 (icells [tx]) (by rfl) rfl (S.news_sl HS.out 0 (by rfl)) (icells_one _) H63b.out (Nat.le_refl 8) ?_
          intro v_a12 w5 hs
          replace HS := hid hs
          clear hs
          refine hK.out _ _ trivial (fun _ => ?_)
          clear hK K
          try simp only [Act.put, List.setIfInBounds_toArray]
          obtain ⟨aN, cN, rfl, _, _, _⟩ := HS.out.sl_val
          refine wpAnyH_take (i := 15) (v := ?_) rfl (by kernel_rfl) (by kernel_rfl) (by kernel_rfl) (fun _ _ _ h => h) (Or.inl ⟨by rfl, ?_⟩) trivial ?_
          rotate_left
          ·(intro w hSw; (try dsimp only at hSw); go_simp) <;> with_reducible rfl
          try simp only [Act.put]
          refine wpAnyH_ready (rs := [16]) (by kernel_rfl) (by simp) ?_
          refine AllReadyH.cons rfl (fun K hK => ?_) ?_
          ·have q := (KP.out _ _ HS.out).1
           have q2 := (KP.out _ _ HS.out).2
           go_simp
           refine hK.out _ _ trivial (fun _ => ?_)
           clear hK K q q2
           refine wpAnyH_done (by kernel_rfl) ?_ _
           go_wp2_with fail
           go_meet
           exact HFIN.out _ _ _ (S.headTwo HS.out)
          exact AllReadyH.nil
         exact AllReadyH.nil
        exact AllReadyH.nil
       refine AllReadyH.cons rfl (fun K hK => ?_) ?_
       ·go_simp
        replace HS := hid (HS.out.alloc_sl (e := 3) [.int .i64 tx] _ rfl (one_max tx))
        refine hK.out _ _ trivial (fun _ => ?_)
        clear hK K
        generalize w2.heap.size = b11 at HS ⊢
        generalize World.alloc w2 _ = w3 at HS ⊢
        refine wpAnyH_ready (rs := [9]) (by kernel_rfl) (by simp) ?_
        refine AllReadyH.cons rfl (fun K hK => ?_) ?_
        ·refine step_app rfl (.tmp 44) (.tmp 50) 48 rfl 3 i0 _ 8 Tryz.underlying48 hi0 hz0 hz1 hz2 rfl HS.out 1 (by rfl) (by rfl) a q.length c (icells q) (by rfl) (icells_length q) (HN.out _ _ HS.out) (icells_one _) H63a.out (Nat.le_refl 8) ?_
         intro v_a9 w4 hs
         replace HS := hid hs.norm0
         clear hs
         refine hK.out _ _ trivial (fun _ => ?_)
         clear hK K
         try simp only [Act.put, List.setIfInBounds_toArray]
         refine wpAnyH_ready (rs := [12]) (by kernel_rfl) (by simp) ?_
         refine AllReadyH.cons rfl (fun K hK => ?_) ?_
         ·refine step_app rfl (.tmp 51) (.tmp 53) 48 rfl 3 i0 _ 8 Tryz.underlying48 hi0 hz0 hz1 hz2 rfl HS.out 0 (by rfl) (by rfl) _ 1 1 (icells [tx]) (by rfl) rfl (S.news_sl HS.out 1 (by rfl)) (icells_one _) H63b.out (Nat.le_refl 8) ?_
          intro v_a12 w5 hs
          replace HS := hid hs
          clear hs
          refine hK.out _ _ trivial (fun _ => ?_)
          clear hK K
          try simp only [Act.put]
          obtain ⟨aN, cN, rfl, _, _, _⟩ := HS.out.sl_val
          refine wpAnyH_take (i := 15) (v := ?_) rfl (by kernel_rfl) (by kernel_rfl) (by kernel_rfl) (fun _ _ _ h => h) (Or.inl ⟨by rfl, ?_⟩) trivial ?_
          rotate_left
          ·(intro w hSw; (try dsimp only at hSw); go_simp) <;> with_reducible rfl
          try simp only [Act.put]
          refine wpAnyH_ready (rs := [16]) (by kernel_rfl) (by simp) ?_
          refine AllReadyH.cons rfl (fun K hK => ?_) ?_
          ·have q := (KP.out _ _ HS.out).1
           have q2 := (KP.out _ _ HS.out).2
           go_simp
           refine hK.out _ _ trivial (fun _ => ?_)
           clear hK K q q2
           refine wpAnyH_done (by kernel_rfl) ?_ _
           go_wp2_with fail
           go_meet
           exact HFIN.out _ _ _ (S.headTwo HS.out)
          exact AllReadyH.nil
         exact AllReadyH.nil
        exact AllReadyH.nil
       exact AllReadyH.nil
      refine AllReadyH.cons rfl (fun K hK => ?_) ?_
      ·go_simp
       replace HS := hid (HS.out.alloc_sl (e := 3) [.int .i64 tx] _ rfl (one_max tx))
       refine hK.out _ _ trivial (fun _ => ?_)
       clear hK K
       generalize w2.heap.size = b11 at HS ⊢
       generalize World.alloc w2 _ = w3 at HS ⊢
       refine wpAnyH_ready (rs := [8]) (by kernel_rfl) (by simp) ?_
       refine AllReadyH.cons rfl (fun K hK => ?_) ?_
       ·have q := (KP.out _ _ HS.out).1
        go_simp
        refine hK.out _ _ trivial (fun _ => ?_)
        clear hK K q
        refine wpAnyH_ready (rs := [9]) (by kernel_rfl) (by simp) ?_
        refine AllReadyH.cons rfl (fun K hK => ?_) ?_
        ·refine step_app rfl (.tmp 44) (.tmp 50) 48 rfl 3 i0 _ 8 Tryz.underlying48 hi0 hz0 hz1 hz2 rfl HS.out 1 (by rfl) (by rfl) a q.length c (icells q) (by rfl) (icells_length q) (HN.out _ _ HS.out) (icells_one _) H63a.out (Nat.le_refl 8) ?_
         intro v_a9 w4 hs
         replace HS := hid hs.norm0
         clear hs
         refine hK.out _ _ trivial (fun _ => ?_)
         clear hK K
         try simp only [Act.put, List.setIfInBounds_toArray]
         refine wpAnyH_ready (rs := [12]) (by kernel_rfl) (by simp) ?_
         refine AllReadyH.cons rfl (fun K hK => ?_) ?_
         ·refine step_app rfl (.tmp 51) (.tmp 53) 48 rfl 3 i0 _ 8 Tryz.underlying48 hi0 hz0 hz1 hz2 rfl HS.out 0 (by rfl) (by rfl) _ 1 1 (icells [tx]) (by rfl) rfl (S.news_sl HS.out 1 (by rfl)) (icells_one _) H63b.out (Nat.le_refl 8) ?_
          intro v_a12 w5 hs
          replace HS := hid hs
          clear hs
          refine hK.out _ _ trivial (fun _ => ?_)
          clear hK K
          try simp only [Act.put]
          obtain ⟨aN, cN, rfl, _, _, _⟩ := HS.out.sl_val
          refine wpAnyH_take (i := 15) (v := ?_) rfl (by kernel_rfl) (by kernel_rfl) (by kernel_rfl) (fun _ _ _ h => h) (Or.inl ⟨by rfl, ?_⟩) trivial ?_
          rotate_left
          ·(intro w hSw; (try dsimp only at hSw); go_simp) <;> with_reducible rfl
          try simp only [Act.put]
          refine wpAnyH_ready (rs := [16]) (by kernel_rfl) (by simp) ?_
          refine AllReadyH.cons rfl (fun K hK => ?_) ?_
          ·have q := (KP.out _ _ HS.out).1
           have q2 := (KP.out _ _ HS.out).2
           go_simp
           refine hK.out _ _ trivial (fun _ => ?_)
           clear hK K q q2
           refine wpAnyH_done (by kernel_rfl) ?_ _
           go_wp2_with fail
           go_meet
           exact HFIN.out _ _ _ (S.headTwo HS.out)
          exact AllReadyH.nil
         exact AllReadyH.nil
        exact AllReadyH.nil
       exact AllReadyH.nil
      exact AllReadyH.nil
     refine AllReadyH.cons rfl (fun K hK => ?_) ?_
     ·have q := (KP.out _ _ HS.out).1
      go_simp
      refine hK.out _ _ trivial (fun _ => ?_)
      clear hK K q
      refine wpAnyH_ready (rs := [2, 11]) (by kernel_rfl) (by simp) ?_
      refine AllReadyH.cons rfl (fun K hK => ?_) ?_
      ·go_simp
       replace HS := hid (HS.out.alloc_sl (e := 3) [] _ rfl nil_max)
       refine hK.out _ _ trivial (fun _ => ?_)
       clear hK K
       generalize w1.heap.size = b2 at HS ⊢
       generalize World.alloc w1 _ = w2 at HS ⊢
       refine wpAnyH_ready (rs := [9, 11]) (by kernel_rfl) (by simp) ?_
       refine AllReadyH.cons rfl (fun K hK => ?_) ?_
       ·refine step_app rfl (.tmp 44) (.tmp 50) 48 rfl 3 i0 _ 8 Tryz.underlying48 hi0 hz0 hz1 hz2 rfl HS.out 0 (by rfl) (by rfl) a q.length c (icells q) (by rfl) (icells_length q) (HN.out _ _ HS.out) (icells_one _) H63a.out (Nat.le_refl 8) ?_
        intro v_a9 w3 hs
        replace HS := hid hs.norm0
        clear hs
        refine hK.out _ _ trivial (fun _ => ?_)
        clear hK K
        try simp only [Act.put, List.setIfInBounds_toArray]
        refine wpAnyH_ready (rs := [11]) (by kernel_rfl) (by simp) ?_
        refine AllReadyH.cons rfl (fun K hK => ?_) ?_
        ·go_simp
         replace HS := hid (HS.out.alloc_sl (e := 3) [.int .i64 tx] _ rfl (one_max tx))
         refine hK.out _ _ trivial (fun _ => ?_)
         clear hK K
         generalize w3.heap.size = b11 at HS ⊢
         generalize World.alloc w3 _ = w4 at HS ⊢
         refine wpAnyH_ready (rs := [12]) (by kernel_rfl) (by simp) ?_
         refine AllReadyH.cons rfl (fun K hK => ?_) ?_
         ·refine step_app rfl (.tmp 51) (.tmp 53) 48 rfl 3 i0 _ 8 Tryz.underlying48 hi0 hz0 hz1 hz2 rfl HS.out 1 (by rfl) (by rfl) _ 1 1 (icells [tx]) (by rfl) rfl (S.news_sl HS.out 0 (by rfl)) (icells_one _) H63b.out (Nat.le_refl 8) ?_
          intro v_a12 w5 hs
          replace HS := hid hs
          clear hs
          refine hK.out _ _ trivial (fun _ => ?_)
          clear hK K
          try simp only [Act.put, List.setIfInBounds_toArray]
          obtain ⟨aN, cN, rfl, _, _, _⟩ := HS.out.sl_val
          refine wpAnyH_take (i := 15) (v := ?_) rfl (by kernel_rfl) (by kernel_rfl) (by kernel_rfl) (fun _ _ _ h => h) (Or.inl ⟨by rfl, ?_⟩) trivial ?_
          rotate_left
          ·(intro w hSw; (try dsimp only at hSw); go_simp) <;> with_reducible rfl
          try simp only [Act.put]
          refine wpAnyH_ready (rs := [16]) (by kernel_rfl) (by simp) ?_
          refine AllReadyH.cons rfl (fun K hK => ?_) ?_
          ·have q := (KP.out _ _ HS.out).1
           have q2 := (KP.out _ _ HS.out).2
           go_simp
           refine hK.out _ _ trivial (fun _ => ?_)
           clear hK K q q2
           refine wpAnyH_done (by kernel_rfl) ?_ _
           go_wp2_with fail
           go_meet
           exact HFIN.out _ _ _ (S.headTwo HS.out)
          exact AllReadyH.nil
         exact AllReadyH.nil
        exact AllReadyH.nil
       refine AllReadyH.cons rfl (fun K hK => ?_) ?_
       ·go_simp
        replace HS := hid (HS.out.alloc_sl (e := 3) [.int .i64 tx] _ rfl (one_max tx))
        refine hK.out _ _ trivial (fun _ => ?_)
        clear hK K
        generalize w2.heap.size = b11 at HS ⊢
        generalize World.alloc w2 _ = w3 at HS ⊢
        refine wpAnyH_ready (rs := [9]) (by kernel_rfl) (by simp) ?_
        refine AllReadyH.cons rfl (fun K hK => ?_) ?_
        ·refine step_app rfl (.tmp 44) (.tmp 50) 48 rfl 3 i0 _ 8 Tryz.underlying48 hi0 hz0 hz1 hz2 rfl HS.out 1 (by rfl) (by rfl) a q.length c (icells q) (by rfl) (icells_length q) (HN.out _ _ HS.out) (icells_one _) H63a.out (Nat.le_refl 8) ?_
         intro v_a9 w4 hs
         replace HS := hid hs.norm0
         clear hs
         refine hK.out _ _ trivial (fun _ => ?_)
         clear hK K
         try simp only [Act.put, List.setIfInBounds_toArray]
         refine wpAnyH_ready (rs := [12]) (by kernel_rfl) (by simp) ?_
         refine AllReadyH.cons rfl (fun K hK => ?_) ?_
         ·refine step_app rfl (.tmp 51) (.tmp 53) 48 rfl 3 i0 _ 8 Tryz.underlying48 hi0 hz0 hz1 hz2 rfl HS.out 0 (by rfl) (by rfl) _ 1 1 (icells [tx]) (by rfl) rfl (S.news_sl HS.out 1 (by rfl)) (icells_one _) H63b.out (Nat.le_refl 8) ?_
          intro v_a12 w5 hs
          replace HS := hid hs
          clear hs
          refine hK.out _ _ trivial (fun _ => ?_)
          clear hK K
          try simp only [Act.put]
          obtain ⟨aN, cN, rfl, _, _, _⟩ := HS.out.sl_val
          refine wpAnyH_take (i := 15) (v := ?_) rfl (by kernel_rfl) (by kernel_rfl) (by kernel_rfl) (fun _ _ _ h => h) (Or.inl ⟨by rfl, ?_⟩) trivial ?_
          rotate_left
          ·(intro w hSw; (try dsimp only at hSw); go_simp) <;> with_reducible rfl
          try simp only [Act.put]
          refine wpAnyH_ready (rs := [16]) (by kernel_rfl) (by simp) ?_
          refine AllReadyH.cons rfl (fun K hK => ?_) ?_
          ·have q := (KP.out _ _ HS.out).1
           have q2 := (KP.out _ _ HS.out).2
           go_simp
           refine hK.out _ _ trivial (fun _ => ?_)
           clear hK K q q2
           refine wpAnyH_done (by kernel_rfl) ?_ _
           go_wp2_with fail
           go_meet
           exact HFIN.out _ _ _ (S.headTwo HS.out)
          exact AllReadyH.nil
         exact AllReadyH.nil
        exact AllReadyH.nil
       exact AllReadyH.nil
      refine AllReadyH.cons rfl (fun K hK => ?_) ?_
      ·go_simp
       replace HS := hid (HS.out.alloc_sl (e := 3) [.int .i64 tx] _ rfl (one_max tx))
       refine hK.out _ _ trivial (fun _ => ?_)
       clear hK K
       generalize w1.heap.size = b11 at HS ⊢
       generalize World.alloc w1 _ = w2 at HS ⊢
       refine wpAnyH_ready (rs := [2]) (by kernel_rfl) (by simp) ?_
       refine AllReadyH.cons rfl (fun K hK => ?_) ?_
       ·go_simp
        replace HS := hid (HS.out.alloc_sl (e := 3) [] _ rfl nil_max)
        refine hK.out _ _ trivial (fun _ => ?_)
        clear hK K
        generalize w2.heap.size = b2 at HS ⊢
        generalize World.alloc w2 _ = w3 at HS ⊢
        refine wpAnyH_ready (rs := [9]) (by kernel_rfl) (by simp) ?_
        refine AllReadyH.cons rfl (fun K hK => ?_) ?_
        ·refine step_app rfl (.tmp 44) (.tmp 50) 48 rfl 3 i0 _ 8 Tryz.underlying48 hi0 hz0 hz1 hz2 rfl HS.out 0 (by rfl) (by rfl) a q.length c (icells q) (by rfl) (icells_length q) (HN.out _ _ HS.out) (icells_one _) H63a.out (Nat.le_refl 8) ?_
         intro v_a9 w4 hs
         replace HS := hid hs.norm0
         clear hs
         refine hK.out _ _ trivial (fun _ => ?_)
         clear hK K
         try simp only [Act.put, List.setIfInBounds_toArray]
         refine wpAnyH_ready (rs := [12]) (by kernel_rfl) (by simp) ?_
         refine AllReadyH.cons rfl (fun K hK => ?_) ?_
         ·refine step_app rfl (.tmp 51) (.tmp 53) 48 rfl 3 i0 _ 8 Tryz.underlying48 hi0 hz0 hz1 hz2 rfl HS.out 0 (by rfl) (by rfl) _ 1 1 (icells [tx]) (by rfl) rfl (S.news_sl HS.out 1 (by rfl)) (icells_one _) H63b.out (Nat.le_refl 8) ?_
          intro v_a12 w5 hs
          replace HS := hid hs
          clear hs
          refine hK.out _ _ trivial (fun _ => ?_)
          clear hK K
          try simp only [Act.put]
          obtain ⟨aN, cN, rfl, _, _, _⟩ := HS.out.sl_val
          refine wpAnyH_take (i := 15) (v := ?_) rfl (by kernel_rfl) (by kernel_rfl) (by kernel_rfl) (fun _ _ _ h => h) (Or.inl ⟨by rfl, ?_⟩) trivial ?_
          rotate_left
          ·(intro w hSw; (try dsimp only at hSw); go_simp) <;> with_reducible rfl
          try simp only [Act.put]
          refine wpAnyH_ready (rs := [16]) (by kernel_rfl) (by simp) ?_
          refine AllReadyH.cons rfl (fun K hK => ?_) ?_
          ·have q := (KP.out _ _ HS.out).1
           have q2 := (KP.out _ _ HS.out).2
           go_simp
           refine hK.out _ _ trivial (fun _ => ?_)
           clear hK K q q2
           refine wpAnyH_done (by kernel_rfl) ?_ _
           go_wp2_with fail
           go_meet
           exact HFIN.out _ _ _ (S.headTwo HS.out)
          exact AllReadyH.nil
         exact AllReadyH.nil
        exact AllReadyH.nil
       exact AllReadyH.nil
      exact AllReadyH.nil
     refine AllReadyH.cons rfl (fun K hK => ?_) ?_
     ·go_simp
      replace HS := hid (HS.out.alloc_sl (e := 3) [.int .i64 tx] _ rfl (one_max tx))
      refine hK.out _ _ trivial (fun _ => ?_)
      clear hK K
      generalize w1.heap.size = b11 at HS ⊢
      generalize World.alloc w1 _ = w2 at HS ⊢
      refine wpAnyH_ready (rs := [2, 8]) (by kernel_rfl) (by simp) ?_
      refine AllReadyH.cons rfl (fun K hK => ?_) ?_
      ·go_simp
       replace HS := hid (HS.out.alloc_sl (e := 3) [] _ rfl nil_max)
       refine hK.out _ _ trivial (fun _ => ?_)
       clear hK K
       generalize w2.heap.size = b2 at HS ⊢
       generalize World.alloc w2 _ = w3 at HS ⊢
       refine wpAnyH_ready (rs := [8]) (by kernel_rfl) (by simp) ?_
       refine AllReadyH.cons rfl (fun K hK => ?_) ?_
       ·have q := (KP.out _ _ HS.out).1
        go_simp
        refine hK.out _ _ trivial (fun _ => ?_)
        clear hK K q
        refine wpAnyH_ready (rs := [9]) (by kernel_rfl) (by simp) ?_
        refine AllReadyH.cons rfl (fun K hK => ?_) ?_
        ·refine step_app rfl (.tmp 44) (.tmp 50) 48 rfl 3 i0 _ 8 Tryz.underlying48 hi0 hz0 hz1 hz2 rfl HS.out 0 (by rfl) (by rfl) a q.length c (icells q) (by rfl) (icells_length q) (HN.out _ _ HS.out) (icells_one _) H63a.out (Nat.le_refl 8) ?_
         intro v_a9 w4 hs
         replace HS := hid hs.norm0
         clear hs
         refine hK.out _ _ trivial (fun _ => ?_)
         clear hK K
         try simp only [Act.put, List.setIfInBounds_toArray]
         refine wpAnyH_ready (rs := [12]) (by kernel_rfl) (by simp) ?_
         refine AllReadyH.cons rfl (fun K hK => ?_) ?_
         ·refine step_app rfl (.tmp 51) (.tmp 53) 48 rfl 3 i0 _ 8 Tryz.underlying48 hi0 hz0 hz1 hz2 rfl HS.out 0 (by rfl) (by rfl) _ 1 1 (icells [tx]) (by rfl) rfl (S.news_sl HS.out 1 (by rfl)) (icells_one _) H63b.out (Nat.le_refl 8) ?_
          intro v_a12 w5 hs
          replace HS := hid hs
          clear hs
          refine hK.out _ _ trivial (fun _ => ?_)
          clear hK K
          try simp only [Act.put]
          obtain ⟨aN, cN, rfl, _, _, _⟩ := HS.out.sl_val
          refine wpAnyH_take (i := 15) (v := ?_) rfl (by kernel_rfl) (by kernel_rfl) (by kernel_rfl) (fun _ _ _ h => h) (Or.inl ⟨by rfl, ?_⟩) trivial ?_
          rotate_left
          ·(intro w hSw; (try dsimp only at hSw); go_simp) <;> with_reducible rfl
          try simp only [Act.put]
          refine wpAnyH_ready (rs := [16]) (by kernel_rfl) (by simp) ?_
          refine AllReadyH.cons rfl (fun K hK => ?_) ?_
          ·have q := (KP.out _ _ HS.out).1
           have q2 := (KP.out _ _ HS.out).2
           go_simp
           refine hK.out _ _ trivial (fun _ => ?_)
           clear hK K q q2
           refine wpAnyH_done (by kernel_rfl) ?_ _
           go_wp2_with fail
           go_meet
           exact HFIN.out _ _ _ (S.headTwo HS.out)
          exact AllReadyH.nil
         exact AllReadyH.nil
        exact AllReadyH.nil
       exact AllReadyH.nil
      refine AllReadyH.cons rfl (fun K hK => ?_) ?_
      ·have q := (KP.out _ _ HS.out).1
       go_simp
       refine hK.out _ _ trivial (fun _ => ?_)
       clear hK K q
       refine wpAnyH_ready (rs := [2]) (by kernel_rfl) (by simp) ?_
       refine AllReadyH.cons rfl (fun K hK => ?_) ?_
       ·go_simp
        replace HS := hid (HS.out.alloc_sl (e := 3) [] _ rfl nil_max)
        refine hK.out _ _ trivial (fun _ => ?_)
        clear hK K
        generalize w2.heap.size = b2 at HS ⊢
        generalize World.alloc w2 _ = w3 at HS ⊢
        refine wpAnyH_ready (rs := [9]) (by kernel_rfl) (by simp) ?_
        refine AllReadyH.cons rfl (fun K hK => ?_) ?_
        ·refine step_app rfl (.tmp 44) (.tmp 50) 48 rfl 3 i0 _ 8 Tryz.underlying48 hi0 hz0 hz1 hz2 rfl HS.out 0 (by rfl) (by rfl) a q.length c (icells q) (by rfl) (icells_length q) (HN.out _ _ HS.out) (icells_one _) H63a.out (Nat.le_refl 8) ?_
         intro v_a9 w4 hs
         replace HS := hid hs.norm0
         clear hs
         refine hK.out _ _ trivial (fun _ => ?_)
         clear hK K
         try simp only [Act.put, List.setIfInBounds_toArray]
         refine wpAnyH_ready (rs := [12]) (by kernel_rfl) (by simp) ?_
         refine AllReadyH.cons rfl (fun K hK => ?_) ?_
         ·refine step_app rfl (.tmp 51) (.tmp 53) 48 rfl 3 i0 _ 8 Tryz.underlying48 hi0 hz0 hz1 hz2 rfl HS.out 0 (by rfl) (by rfl) _ 1 1 (icells [tx]) (by rfl) rfl (S.news_sl HS.out 1 (by rfl)) (icells_one _) H63b.out (Nat.le_refl 8) ?_
          intro v_a12 w5 hs
          replace HS := hid hs
          clear hs
          refine hK.out _ _ trivial (fun _ => ?_)
          clear hK K
          try simp only [Act.put]
          obtain ⟨aN, cN, rfl, _, _, _⟩ := HS.out.sl_val
          refine wpAnyH_take (i := 15) (v := ?_) rfl (by kernel_rfl) (by kernel_rfl) (by kernel_rfl) (fun _ _ _ h => h) (Or.inl ⟨by rfl, ?_⟩) trivial ?_
          rotate_left
          ·(intro w hSw; (try dsimp only at hSw); go_simp) <;> with_reducible rfl
          try simp only [Act.put]
          refine wpAnyH_ready (rs := [16]) (by kernel_rfl) (by simp) ?_
          refine AllReadyH.cons rfl (fun K hK => ?_) ?_
          ·have q := (KP.out _ _ HS.out).1
           have q2 := (KP.out _ _ HS.out).2
           go_simp
           refine hK.out _ _ trivial (fun _ => ?_)
           clear hK K q q2
           refine wpAnyH_done (by kernel_rfl) ?_ _
           go_wp2_with fail
           go_meet
           exact HFIN.out _ _ _ (S.headTwo HS.out)
          exact AllReadyH.nil
         exact AllReadyH.nil
        exact AllReadyH.nil
       exact AllReadyH.nil
      exact AllReadyH.nil
     exact AllReadyH.nil
    case rest =>
    have H9 := hid hcut
    clear hcut
    go_wp2_with fail
    go_ret2
    exact ⟨by rw [HR.out]; rfl, by rw [HR.out]; exact H9.out⟩
 ·have hb : decide ((0 : Int) ≤ key ∧ key ≤ 9) = false := decide_eq_false hk
  have hr : raskT Qs tx key cc = (Qs, false, 2) := by unfold raskT; rw [if_pos (by omega)]
  have HR := hid hr
  clear hr hk
  go_enter Tryz.func59, Tryz.ntmps59
  go_wp2_with (first | (go_at_call 44; with_reducible refine (in_any _ _ _ _).mono ?_; rw [hb]; rintro e w' ⟨rfl, rfl⟩) | (go_at_call 77; with_reducible refine (rwaits_any w0 _ b kv Qs _ L H.out HN0.out).mono ?_; rintro e w' ⟨rfl, rfl⟩) | (go_at_call 76; with_reducible refine (rholds_any w0 _ b kv Qs _ L H.out).mono ?_; rintro e w' ⟨rfl, rfl⟩))
  go_ret2
  exact ⟨by rw [HR.out]; rfl, by rw [HR.out]; exact HP.out⟩
end Go.Proofs.YtmfngjclccehaaaGreatDoor
/- Transactions at the same time: how to show what holds through all that one step of an engine brings with it; what stays. No walk in sight. -/
namespace Go.Proofs.YtmfngjclccehaaaGreatDoor
open Go Go.RowKit Go.Sep
section
variable {e e' e0 : Eng} {i j : Nat} {N : Nat} {T U : List Task}
structure Rule (P : Eng → List Task → Prop) : Prop where
 hand : ∀ (N : Nat) (e : Eng) (w : Int × Int) (T : List Task), OkT N e (.hand w :: T) → P e (.hand w :: T) → P (e.opens (w.2.toNat - 1)) (.put (w.2.toNat - 1) (e.tx (w.2.toNat - 1)).want :: T)
 late : ∀ (N : Nat) (e : Eng) (i : Nat) (w : Int × Int) (T : List Task), OkT N e (.put i w :: T) → e.late i w.1 → P e (.put i w :: T) → P (e.left i 10) ((e.heirs i).map .hand ++ T)
 put : ∀ (N : Nat) (e : Eng) (i : Nat) (w : Int × Int) (T : List Task), OkT N e (.put i w :: T) → ¬ e.late i w.1 → (e.tx i).level ≠ 2 → P e (.put i w :: T) → P (e.wput i w) T
 puts : ∀ (N : Nat) (e : Eng) (i : Nat) (w : Int × Int) (T : List Task), OkT N e (.put i w :: T) → ¬ e.late i w.1 → (e.tx i).level = 2 → P e (.put i w :: T) → P (e.wput i w) (.ask i w.1 (List.range e.txs.length) :: T)
 asked : ∀ (N : Nat) (e : Eng) (i : Nat) (key : Int) (T : List Task), OkT N e (.ask i key [] :: T) → P e (.ask i key [] :: T) → P e T
 skip : ∀ (N : Nat) (e : Eng) (i j : Nat) (key : Int) (l : List Nat) (T : List Task), OkT N e (.ask i key (j :: l) :: T) → skips e i key j = true → P e (.ask i key (j :: l) :: T) → P e (.ask i key l :: T)
 note : ∀ (N : Nat) (e : Eng) (i j : Nat) (key : Int) (l : List Nat) (T : List Task), OkT N e (.ask i key (j :: l) :: T) → skips e i key j = false → (e.note j i).bad j i = false → P e (.ask i key (j :: l) :: T) → P (e.note j i) (.ask i key l :: T)
 wrong : ∀ (N : Nat) (e : Eng) (i j : Nat) (key : Int) (l : List Nat) (T : List Task), OkT N e (.ask i key (j :: l) :: T) → skips e i key j = false → (e.note j i).bad j i = true → P e (.ask i key (j :: l) :: T) → P ((e.note j i).left i 13) (((e.note j i).heirs i).map .hand ++ T)
theorem OkT.put_lt {w : Int × Int} (h : OkT N e (.put i w :: T)) : i < e.txs.length ∧ (e.tx i).alive = true := by
 have hk := h.ok _ (List.mem_cons_self ..)
 exact ⟨hk.lt, by simp [Tx.alive, (hk.put _ _ rfl).1]⟩
theorem OkT.ask_lt {key : Int} {l : List Nat} (h : OkT N e (.ask i key l :: T)) : i < e.txs.length ∧ (e.tx i).alive = true := by
 have hk := h.ok _ (List.mem_cons_self ..)
 exact ⟨hk.lt, by simp [Tx.alive, (hk.ask _ _ _ rfl).1]⟩
theorem OkT.hand_lt {w : Int × Int} (h : OkT N e (.hand w :: T)) : w.2.toNat - 1 < e.txs.length ∧ (e.tx (w.2.toNat - 1)).alive = true ∧ (e.tx (w.2.toNat - 1)).state = 1 ∧ ((w.2.toNat - 1 : Nat) : Int) + 1 = w.2 := by
 have hk := h.ok _ (List.mem_cons_self ..)
 have h2 := hk.hand _ rfl
 have h3 : (e.tx (w.2.toNat - 1)).state = 1 := h2.2.1
 exact ⟨hk.lt, by simp [Tx.alive, h3], h3, by have := h2.1; omega⟩
theorem Rule.run {P : Eng → List Task → Prop} (hP : Rule P) (hr : Runs e T e') : ∀ N, OkT N e T → P e T → P e' [] := by
 induction hr with
 | done e => exact fun N h p => p
 | hand _ ih => exact fun N h p => ih N h.hand (hP.hand N _ _ _ h p)
 | late hl _ ih => exact fun N h p => ih N (OkT.left (h.tail (by simp)) h.put_lt.1 h.put_lt.2 h.who_ne 10).1 (hP.late N _ _ _ _ h hl p)
 | put hl h2 _ ih => exact fun N h p => ih N h.wput.1 (hP.put N _ _ _ _ h hl h2 p)
 | puts hl h2 _ ih => exact fun N h p => ih N (h.wput.2 h2) (hP.puts N _ _ _ _ h hl h2 p)
 | asked _ ih => exact fun N h p => ih N (h.tail (by simp)) (hP.asked N _ _ _ _ h p)
 | skip hs _ ih => exact fun N h p => ih N h.skipped (hP.skip N _ _ _ _ _ _ h hs p)
 | note hs hb _ ih => exact fun N h p => ih N h.noted (hP.note N _ _ _ _ _ _ h hs hb p)
 | wrong hs hb _ ih =>
  intro N h p
  have hn := h.noted
  exact ih N (OkT.left (hn.tail (by simp)) hn.ask_lt.1 hn.ask_lt.2 hn.who_ne 13).1 (hP.wrong N _ _ _ _ _ _ h hs hb p)
theorem goes_run (h : OkT N e []) (hi : i < e.txs.length) (ha : (e.tx i).alive = true) (why : Int) : Runs (e.left i why) ((e.heirs i).map .hand) (e.goes i why) := by
 have := (goesOk e.open_ N e i why [] h hi ha (by simp) (Nat.le_refl _)).2.2 _ (.done _)
 rw [List.append_nil] at this
 exact this
theorem Rule.goes {P : Eng → List Task → Prop} (hP : Rule P) (h : OkT N e []) (hi : i < e.txs.length) (ha : (e.tx i).alive = true) (why : Int) (hp : P (e.left i why) ((e.heirs i).map .hand)) : P (e.goes i why) [] := by
 have h1 := (h.left hi ha (by simp) why).1
 rw [List.append_nil] at h1
 exact hP.run (goes_run h hi ha why) N h1 hp
theorem Rule.putsE {P : Eng → List Task → Prop} (hP : Rule P) {w : Int × Int} (h : OkT N e [.put i w]) (hp : P e [.put i w]) : P (e.puts i w) [] :=
 hP.run ((putsG_ok (goesOk e.open_) h (Nat.le_refl _)).2.2 _ (.done _)) N h hp
theorem Rule.frees {P : Eng → List Task → Prop} (hP : Rule P) (h : OkT N e []) (hi : i < e.txs.length) (ha : (e.tx i).alive = true) (hp : P ((e.over2 i).lets i) (((e.over2 i).heirs i).map .hand)) : P ((e.over2 i).frees i) [] := by
 obtain ⟨h1, _⟩ := h.over2 hi ha
 have h2 := (freesL_ok (goesOk (e.over2 i).open_) ((e.over2 i).heirs i) N ((e.over2 i).lets i) [] (by rw [List.append_nil]; exact h1) (Nat.le_refl _)).2.2 _ (.done _)
 rw [List.append_nil] at h2
 exact hP.run h2 N h1 hp
theorem sawNew_keep {P : Eng → Prop} (hn : ∀ e a b, P e → P (e.note a b)) : ∀ (l : List Int) (e : Eng), P e → P (sawNew i l e).1
 | [], e, h => h
 | a :: l, e, h => by
  unfold sawNew
  dsimp only
  split
  ·split
   ·exact hn _ _ _ h
   ·exact sawNew_keep hn l _ (hn _ _ _ h)
  ·exact sawNew_keep hn l e h
theorem sawOpen_keep {P : Eng → Prop} (hn : ∀ e a b, P e → P (e.note a b)) {key : Int} : ∀ (l : List Nat) (e : Eng), P e → P (sawOpen i key l e)
 | [], e, h => h
 | a :: l, e, h => by
  unfold sawOpen
  split
  ·exact sawOpen_keep hn l _ (hn _ _ _ h)
  ·exact sawOpen_keep hn l e h
theorem sees_keep {P : Eng → Prop} (hn : ∀ e a b, P e → P (e.note a b)) {key : Int} (h : P e) : P (e.sees i key).1 := by
 unfold Eng.sees
 dsimp only
 split
 ·exact sawOpen_keep hn _ _ (sawNew_keep hn _ _ h)
 ·exact sawNew_keep hn _ _ h
structure Stays (e e' : Eng) : Prop where
 V : e'.V = e.V
 last : e'.last = e.last
 wr : e'.wr = e.wr
 hist : e'.hist = e.hist
 len : e'.txs.length = e.txs.length
 fix : ∀ j, (e'.tx j).level = (e.tx j).level ∧ (e'.tx j).start = (e.tx j).start ∧ (e'.tx j).begun = (e.tx j).begun ∧ (e'.tx j).reads = (e.tx j).reads
 over : ∀ j, (e.tx j).alive = false → (e'.tx j).state = (e.tx j).state ∧ (e'.tx j).ended = (e.tx j).ended ∧ (e'.tx j).writes = (e.tx j).writes
 live : ∀ j, (e.tx j).alive = true → (e'.tx j).alive = true ∨ ((e'.tx j).state = 3 ∧ e.count < (e'.tx j).ended)
 count : e.count ≤ e'.count
theorem Stays.refl (e : Eng) : Stays e e := ⟨rfl, rfl, rfl, rfl, rfl, fun _ => ⟨rfl, rfl, rfl, rfl⟩, fun _ _ => ⟨rfl, rfl, rfl⟩, fun _ h => .inl h, Int.le_refl _⟩
theorem alive_of_state {x y : Tx} (h : x.state = y.state) : x.alive = y.alive := by unfold Tx.alive; rw [h]
theorem Stays.upd (h : Stays e0 e) (ha : (e.tx i).alive = true) (f : Tx → Tx) (hf : ∀ x, (f x).level = x.level ∧ (f x).start = x.start ∧ (f x).begun = x.begun ∧ (f x).reads = x.reads)
  (hl : (f (e.tx i)).alive = true ∨ ((f (e.tx i)).state = 3 ∧ e.count < (f (e.tx i)).ended)) : Stays e0 (e.upd i f) := by
 refine ⟨h.V, h.last, h.wr, h.hist, by rw [Eng.upd_len]; exact h.len, fun j => ?_, fun j hj => ?_, fun j hj => ?_, h.count⟩
 ·rw [Eng.upd_keep (·.level) f (fun x => (hf x).1), Eng.upd_keep (·.start) f (fun x => (hf x).2.1), Eng.upd_keep (·.begun) f (fun x => (hf x).2.2.1), Eng.upd_keep (·.reads) f (fun x => (hf x).2.2.2)]
  exact h.fix j
 ·have hji : i ≠ j := by
   intro e1; subst e1
   rw [alive_of_state (h.over i hj).1, hj] at ha
   cases ha
  rw [Eng.upd_ne hji]; exact h.over j hj
 ·rw [Eng.upd_tx]
  split
  ·rename_i hc
   obtain ⟨rfl, _⟩ := hc
   rcases hl with hl | hl
   ·exact .inl hl
   ·exact .inr ⟨hl.1, by have := h.count; omega⟩
  ·exact h.live j hj
theorem Stays.note (h : Stays e0 e) (a b : Nat) : Stays e0 (e.note a b) := by
 have hk : ∀ {β : Type} (g : Tx → β) (_ : ∀ x l, g { x with aft := l } = g x) (_ : ∀ x l, g { x with fore := l } = g x) (j : Nat), g ((e.note a b).tx j) = g (e.tx j) := fun g h1 h2 j => Eng.note_keep g h1 h2 a b j
 refine ⟨h.V, h.last, h.wr, h.hist, by rw [Eng.note_len]; exact h.len, fun j => ?_, fun j hj => ?_, fun j hj => ?_, h.count⟩
 ·rw [hk (·.level) (fun _ _ => rfl) (fun _ _ => rfl), hk (·.start) (fun _ _ => rfl) (fun _ _ => rfl), hk (·.begun) (fun _ _ => rfl) (fun _ _ => rfl), hk (·.reads) (fun _ _ => rfl) (fun _ _ => rfl)]
  exact h.fix j
 ·rw [hk (·.state) (fun _ _ => rfl) (fun _ _ => rfl), hk (·.ended) (fun _ _ => rfl) (fun _ _ => rfl), hk (·.writes) (fun _ _ => rfl) (fun _ _ => rfl)]
  exact h.over j hj
 ·rw [hk (·.alive) (fun _ _ => rfl) (fun _ _ => rfl), hk (·.state) (fun _ _ => rfl) (fun _ _ => rfl), hk (·.ended) (fun _ _ => rfl) (fun _ _ => rfl)]
  exact h.live j hj
theorem Stays.left (h : Stays e0 e) (ha : (e.tx i).alive = true) (why : Int) : Stays e0 (e.left i why) := by
 have h1 := h.upd ha (fun x => { x with state := 3, why := why, ended := e.count + 1 }) (fun _ => ⟨rfl, rfl, rfl, rfl⟩) (.inr ⟨rfl, by show e.count < e.count + 1; omega⟩)
 exact ⟨h1.V, h1.last, h1.wr, h1.hist, h1.len, h1.fix, h1.over, h1.live, by have := h.count; show e0.count ≤ e.count + 1; omega⟩
theorem Stays.opens (h : Stays e0 e) (ha : (e.tx i).alive = true) : Stays e0 (e.opens i) := h.upd ha _ (fun _ => ⟨rfl, rfl, rfl, rfl⟩) (.inl (by simp [Tx.alive]))
theorem Stays.wput (h : Stays e0 e) (ha : (e.tx i).alive = true) (w : Int × Int) : Stays e0 (e.wput i w) := h.upd ha _ (fun _ => ⟨rfl, rfl, rfl, rfl⟩) (.inl (by simpa [Tx.alive] using ha))
theorem same_rule (e0 : Eng) : Rule fun e _ => Stays e0 e where
 hand _ _ _ _ h p := p.opens h.hand_lt.2.1
 late _ _ _ _ _ h _ p := p.left h.put_lt.2 10
 put _ _ _ _ _ h _ _ p := p.wput h.put_lt.2 _
 puts _ _ _ _ _ h _ _ p := p.wput h.put_lt.2 _
 asked _ _ _ _ _ _ p := p
 skip _ _ _ _ _ _ _ _ _ p := p
 note _ _ _ _ _ _ _ _ _ _ p := p.note _ _
 wrong _ _ _ _ _ _ _ h _ _ p := (p.note _ _).left h.noted.ask_lt.2 13
def Eng.noted (e : Eng) (i : Nat) (key : Int) : Eng := e.upd i fun x => { x with reads := x.reads ++ [(key, (mget e.wr (((readV (e.row key) (e.asOf i)).map (·.1)).getD 0)).getD 0)] }
inductive ReadCase (e : Eng) (n key : Int) : Eng × Int × Int → Prop
 | err (x : Int) (h0 : x ≠ 0) (h8 : x ≠ 8) : ReadCase e n key (e, 0, x)
 | own (i : Nat) (v : Int) (hn : n = (i : Int) + 1) (hi : i < e.txs.length) (hs : (e.tx i).state = 0) (hv : mget (e.tx i).writes key = some v) : ReadCase e n key (e, v, 0)
 | plain (i : Nat) (hn : n = (i : Int) + 1) (hi : i < e.txs.length) (hs : (e.tx i).state = 0) (hv : mget (e.tx i).writes key = none) (hk : keyOk key) (hl : (e.tx i).level ≠ 2) :
   ReadCase e n key (e.noted i key, ((readV (e.row key) (e.asOf i)).map (·.2)).getD 0, if (readV (e.row key) (e.asOf i)).isSome then 0 else 8)
 | seen (i : Nat) (hn : n = (i : Int) + 1) (hi : i < e.txs.length) (hs : (e.tx i).state = 0) (hv : mget (e.tx i).writes key = none) (hk : keyOk key) (hl : (e.tx i).level = 2) (hr : ((e.noted i key).sees i key).2 = true) :
   ReadCase e n key (((e.noted i key).sees i key).1, ((readV (e.row key) (e.asOf i)).map (·.2)).getD 0, if (readV (e.row key) (e.asOf i)).isSome then 0 else 8)
 | gone (i : Nat) (hn : n = (i : Int) + 1) (hi : i < e.txs.length) (hs : (e.tx i).state = 0) (hv : mget (e.tx i).writes key = none) (hk : keyOk key) (hl : (e.tx i).level = 2) (hr : ((e.noted i key).sees i key).2 = false) :
   ReadCase e n key (((e.noted i key).sees i key).1.goes i 13, 0, 13)
theorem err_ne8 (e : Eng) (n : Int) (op : Bool) : e.err n op ≠ 8 := by
 unfold Eng.err
 split
 ·decide
 ·split <;> decide
theorem read_case (e : Eng) (n key : Int) : ReadCase e n key (e.read n key) := by
 unfold Eng.read
 by_cases he : e.err n true ≠ 0
 ·rw [if_pos he]; exact .err _ he (err_ne8 e n true)
 ·rw [if_neg he]
  obtain ⟨i, rfl, hi, hst⟩ := err_num (Decidable.not_not.1 he)
  have hi2 : ((i : Int) + 1).toNat - 1 = i := by omega
  have hst := hst rfl
  simp only [hi2]
  split
  ·rename_i v hv; exact .own i v rfl hi hst hv
  ·rename_i hv
   by_cases hk : keyOk key
   ·rw [if_neg (by simpa using hk)]
    by_cases hl : (e.tx i).level = 2
    ·rw [if_pos hl]
     by_cases hr : ((e.noted i key).sees i key).2 = true
     ·have := ReadCase.seen (n := (i : Int) + 1) i rfl hi hst hv hk hl hr
      unfold Eng.noted at this hr
      rw [if_pos hr]; exact this
     ·have hr' : ((e.noted i key).sees i key).2 = false := by simpa using hr
      have := ReadCase.gone (n := (i : Int) + 1) i rfl hi hst hv hk hl hr'
      unfold Eng.noted at this hr
      rw [if_neg hr]; exact this
    ·rw [if_neg hl]; exact .plain i rfl hi hst hv hk hl
   ·rw [if_pos hk]; exact .err 2 (by decide) (by decide)
def Eng.wanting (e : Eng) (i : Nat) (w : Int × Int) : Eng := e.upd i fun x => { x with want := w }
def Eng.table (e : Eng) (t : Tbl) : Eng := { e with t := t }
def waitT (t : Tbl) (n key : Int) : Tbl := { t with wait := mput t.wait n key, line := mput t.line key (lineAt t key ++ [n]) }
inductive WriteCase (e : Eng) (n key value : Int) : Eng × Bool × Int → Prop
 | err (x : Int) (h0 : x ≠ 0) : WriteCase e n key value (e, false, x)
 | cycle (i : Nat) (hn : n = (i : Int) + 1) (hi : i < e.txs.length) (hs : (e.tx i).state = 0) (hk : keyOk key) (hv : valOk value) : WriteCase e n key value (((e.wanting i (key, value)).table e.t).goes i 11, false, 11)
 | waits (i : Nat) (a : Int) (hn : n = (i : Int) + 1) (hi : i < e.txs.length) (hs : (e.tx i).state = 0) (hk : keyOk key) (hv : valOk value) (hh : mget e.t.hold key = some a) (ha : a ≠ (i : Int) + 1) :
   WriteCase e n key value (((e.wanting i (key, value)).table (waitT e.t ((i : Int) + 1) key)).upd i (fun x => { x with state := 1 }), false, 0)
 | puts (i : Nat) (t' : Tbl) (hn : n = (i : Int) + 1) (hi : i < e.txs.length) (hs : (e.tx i).state = 0) (hk : keyOk key) (hv : valOk value) (ht : t' = { e.t with hold := mput e.t.hold key ((i : Int) + 1) } ∧ mget e.t.hold key = none ∨ t' = e.t ∧ mget e.t.hold key = some ((i : Int) + 1))
   (r : Bool × Int) (hr : if (((((e.wanting i (key, value)).table t').puts i (key, value))).tx i).state = 3 then r.1 = false ∧ r.2 = (((((e.wanting i (key, value)).table t').puts i (key, value))).tx i).why else r = (true, 0)) :
   WriteCase e n key value (((e.wanting i (key, value)).table t').puts i (key, value), r)
theorem write_case (h : OkT N e []) (n key value : Int) : WriteCase e n key value (e.write n key value) := by
 unfold Eng.write
 by_cases he : e.err n true ≠ 0
 ·rw [if_pos he]; exact .err _ he
 ·rw [if_neg he]
  obtain ⟨i, rfl, hi, hst⟩ := err_num (Decidable.not_not.1 he)
  have hi2 : ((i : Int) + 1).toNat - 1 = i := by omega
  have hst := hst rfl
  by_cases hk : keyOk key
  ·rw [if_neg (by simpa using hk)]
   by_cases hv : valOk value
   ·rw [if_neg (by simpa using hv)]
    simp only [hi2]
    have hw := h.wait_none (i := i) (by omega)
    have h0 : ¬ (key < 0 ∨ 10 ≤ key ∨ (i : Int) + 1 < 1) := by have := hk.1; have := hk.2; omega
    have hfin : ∀ t' : Tbl, (t' = { e.t with hold := mput e.t.hold key ((i : Int) + 1) } ∧ mget e.t.hold key = none ∨ t' = e.t ∧ mget e.t.hold key = some ((i : Int) + 1)) →
      WriteCase e ((i : Int) + 1) key value (if (((((e.wanting i (key, value)).table t').puts i (key, value))).tx i).state = 3 then ((((e.wanting i (key, value)).table t').puts i (key, value)), false, (((((e.wanting i (key, value)).table t').puts i (key, value))).tx i).why) else ((((e.wanting i (key, value)).table t').puts i (key, value)), true, 0)) := fun t' ht => by
     split
     ·rename_i hs3; exact .puts i t' rfl hi hst hk hv ht (false, _) (by rw [if_pos hs3]; exact ⟨rfl, rfl⟩)
     ·rename_i hs3; exact .puts i t' rfl hi hst hk hv ht (true, 0) (by rw [if_neg hs3])
    unfold tbAsk
    rw [if_neg h0, hw]
    simp only [Option.isSome_none, Bool.false_eq_true, if_false]
    cases hh : mget e.t.hold key with
    | none =>
     simp only [ne_eq, not_true_eq_false, if_false, Bool.true_eq_false]
     exact hfin _ (.inl ⟨rfl, hh⟩)
    | some a =>
     simp only
     by_cases ha : a = (i : Int) + 1
     ·rw [if_pos ha]
      simp only [ne_eq, not_true_eq_false, if_false, Bool.true_eq_false]
      exact hfin _ (.inr ⟨rfl, by rw [hh, ha]⟩)
     ·rw [if_neg ha]
      by_cases hc : comesRound e.t ((i : Int) + 1) key = true
      ·rw [if_pos hc]
       rw [if_pos (show (11 : Int) ≠ 0 by decide)]
       exact .cycle i rfl hi hst hk hv
      ·rw [if_neg hc]
       simp only [ne_eq, not_true_eq_false, if_false, if_true]
       exact .waits i a rfl hi hst hk hv hh ha
   ·rw [if_pos hv]; exact .err 1 (by decide)
  ·rw [if_pos hk]; exact .err 2 (by decide)
end
end Go.Proofs.YtmfngjclccehaaaGreatDoor
namespace Go.Proofs.YtmfngjclccehaaaGreatDoor
open Go Go.RowKit Go.Sep
theorem mget_none_iff {D : List (Int × Int)} {k : Int} : mget D k = none ↔ k ∉ D.map (·.1) := by
 induction D with
 | nil => simp [mget_nil]
 | cons d D ih =>
  rw [mget_cons, List.map_cons, List.mem_cons]
  by_cases h : d.1 = k
  ·simp [h]
  ·rw [if_neg h, ih]
   have h' : ¬ k = d.1 := fun e => h e.symm
   simp [h']
theorem mem_written {x : Tx} {p : Int × Int} : p ∈ x.written ↔ mget x.writes p.1 = some p.2 := by
 unfold Tx.written
 rw [List.mem_map]
 constructor
 ·rintro ⟨k, hk, rfl⟩
  rw [sortI_mem] at hk
  cases hg : mget x.writes k with
  | none => exact absurd hk (mget_none_iff.1 hg)
  | some v => rfl
 ·intro h
  exact ⟨p.1, by rw [sortI_mem]; exact List.mem_map.2 ⟨_, mget_some h, rfl⟩, by rw [h]; rfl⟩
theorem written_nodup {x : Tx} (h : (x.writes.map (·.1)).Nodup) : (x.written.map (·.1)).Nodup := by
 have : x.written.map (·.1) = sortI (x.writes.map (·.1)) := by unfold Tx.written; rw [List.map_map]; simp [Function.comp_def]
 rw [this]
 exact ((sortI_perm _).nodup_iff).2 h
theorem mget_written {x : Tx} (h : (x.writes.map (·.1)).Nodup) (K : Int) : mget x.written K = mget x.writes K := by
 cases hg : mget x.writes K with
 | some v => exact mget_mem (written_nodup h) (mem_written.2 hg)
 | none =>
  cases hw : mget x.written K with
  | none => rfl
  | some v => rw [mem_written.1 (mget_some hw)] at hg; cases hg
theorem badAt_ok : ∀ {l : Vers} {m : Nat}, (∀ p ∈ l, keyOk p.1 ∧ valOk p.2) → badAt m l = none
 | [], _, _ => rfl
 | p :: l, m, h => by
  unfold badAt
  have h1 := h p (List.mem_cons_self ..)
  rw [if_neg (by simpa using h1.1), if_neg (by simpa using h1.2)]
  exact badAt_ok fun q hq => h q (List.mem_cons_of_mem _ hq)
def rowOf (V : List Vers) (K : Int) : Vers := (V[K.toNat]?).getD []
theorem row_put1 {at_ : Int} {V : List Vers} {q : Int × Int} (hV : V.length = 10) (hq : keyOk q.1) (hlt : ∀ p ∈ rowOf V q.1, p.1 < at_) {K : Int} (hK : keyOk K) :
  rowOf (put1 at_ V q) K = if K = q.1 then rowOf V K ++ [(at_, q.2)] else rowOf V K := by
 have hne : ¬ (((V[q.1.toNat]?).getD []).getLast?.map (·.1)) = some at_ := by
  intro h
  cases hl : ((V[q.1.toNat]?).getD []).getLast? with
  | none => rw [hl] at h; cases h
  | some p =>
   rw [hl] at h
   have h1 := hlt p (List.mem_of_getLast? hl)
   have : p.1 = at_ := by simpa using h
   omega
 unfold put1 rowOf
 simp only [if_neg hne]
 obtain ⟨a1, a2⟩ := hq
 obtain ⟨b1, b2⟩ := hK
 rw [List.getElem?_set]
 by_cases h : K = q.1
 ·subst h
  rw [if_pos rfl, if_pos (by omega), if_pos rfl]
  rfl
 ·rw [if_neg (by omega), if_neg h]
theorem row_putAll {at_ : Int} : ∀ (l : Vers) (V : List Vers), V.length = 10 → (∀ p ∈ l, keyOk p.1) → (l.map (·.1)).Nodup → (∀ q ∈ l, ∀ p ∈ rowOf V q.1, p.1 < at_) → ∀ K, keyOk K →
  rowOf (putAll at_ V l) K = rowOf V K ++ (match mget l K with | some v => [(at_, v)] | none => [])
 | [], V, _, _, _, _, K, _ => by simp [putAll, mget_nil]
 | q :: l, V, hV, hk, hn, hlt, K, hK => by
  rw [List.map_cons, List.nodup_cons] at hn
  have hq := hk q (List.mem_cons_self ..)
  have hr := fun {K'} (h' : keyOk K') => row_put1 hV hq (hlt q (List.mem_cons_self ..)) h'
  have hV' : (put1 at_ V q).length = 10 := by unfold put1; rw [List.length_set]; exact hV
  have hne : ∀ p ∈ l, p.1 ≠ q.1 := fun p hp e1 => hn.1 (by rw [← e1]; exact List.mem_map_of_mem hp)
  have ih := row_putAll l (put1 at_ V q) hV' (fun p hp => hk p (List.mem_cons_of_mem _ hp)) hn.2 (fun p hp r hr2 => by
   rw [hr (hk p (List.mem_cons_of_mem _ hp)), if_neg (hne p hp)] at hr2
   exact hlt p (List.mem_cons_of_mem _ hp) r hr2) K hK
  show rowOf (putAll at_ (put1 at_ V q) l) K = _
  rw [ih, hr hK, mget_cons]
  by_cases h : K = q.1
  ·rw [if_pos h, if_pos h.symm]
   have : mget l K = none := by rw [mget_none_iff, h]; exact hn.1
   rw [this]
   simp
  ·rw [if_neg h, if_neg (fun x => h x.symm)]
theorem newerL_append (a b : Vers) (s : Int) : newerL (a ++ b) s = newerL a s ++ newerL b s := by unfold newerL; rw [List.filter_append, List.map_append]
section
variable {e e' e0 : Eng} {i j : Nat} {N : Nat} {T U : List Task}
def RowsOk (e : Eng) : Prop := ∀ vs ∈ e.V, vs.Pairwise (fun p q => p.1 ≤ q.1) ∧ ∀ p ∈ vs, p.1 ≤ e.last
theorem RowsOk.row (h : RowsOk e) (K : Int) : (e.row K).Pairwise (fun p q => p.1 ≤ q.1) ∧ ∀ p ∈ e.row K, p.1 ≤ e.last := by
 unfold Eng.row
 cases hv : e.V[K.toNat]? with
 | none => simp
 | some vs => exact h vs (List.mem_of_getElem? hv)
theorem told_is (h : OkT N e U) (hi : i < e.txs.length) (hl : e.last ≤ e.count) :
  (e.told i).V = putAll (e.last + 1) e.V (e.tx i).written ∧ (e.told i).last = (if (e.tx i).written = [] then e.last else e.last + 1) ∧ (e.told i).wr = (if (e.tx i).written = [] then e.wr else mput e.wr (e.last + 1) ((i : Int) + 1)) ∧ (e.told i).hist = e.hist ++ toldL ((i : Int) + 1) (e.tx i) := by
 have hx := h.at hi
 have hc := h.cnt
 have hf := h.few
 have hok : instOk' e.last (e.last + 1) (e.tx i).written = true := by
  unfold instOk'
  rw [badAt_ok fun p hp => hx.own p (mget_some (mem_written.1 hp))]
  have : e.last + 1 ≤ 1099511627776 := by omega
  simp [this]
  omega
 unfold Eng.told Eng.installed
 by_cases hw : (e.tx i).written = []
 ·rw [if_pos hw, if_pos hw, if_pos hw, hw]
  exact ⟨rfl, rfl, rfl, rfl⟩
 ·rw [if_neg hw, if_neg hw, if_neg hw]
  simp only
  rw [if_pos hok]
  exact ⟨rfl, rfl, rfl, rfl⟩
theorem told_row (h : OkT N e U) (hi : i < e.txs.length) (hl : e.last ≤ e.count) (hr : RowsOk e) {K : Int} (hK : keyOk K) :
  rowOf (e.told i).V K = e.row K ++ (match mget (e.tx i).writes K with | some v => [(e.last + 1, v)] | none => []) := by
 have hx := h.at hi
 rw [(told_is h hi hl).1, row_putAll _ _ h.v10 (fun p hp => (hx.own p (mget_some (mem_written.1 hp))).1) (written_nodup hx.keys) (fun q _ p hp => by have := (hr.row q.1).2 p hp; omega) K hK, mget_written hx.keys]
 rfl
theorem told_rows (h : OkT N e U) (hi : i < e.txs.length) (hl : e.last ≤ e.count) (hr : RowsOk e) : ∀ vs ∈ (e.told i).V, vs.Pairwise (fun p q => p.1 ≤ q.1) ∧ ∀ p ∈ vs, p.1 ≤ (e.told i).last := by
 have h0 : RelV 0 e.last e.V e.V := ⟨rfl, fun k a b ha hb => by
  rw [ha] at hb; cases hb
  have := hr a (List.mem_of_getElem? ha)
  exact ⟨⟨0, rfl, .inl rfl, this.1⟩, this.2⟩⟩
 obtain ⟨t1, t2, _, _⟩ := told_is h hi hl
 intro vs hvs
 rw [t1] at hvs
 rw [t2]
 by_cases hw : (e.tx i).written = []
 ·rw [hw] at hvs
  rw [if_pos hw]
  exact hr vs hvs
 ·rw [if_neg hw]
  have h1 := RelV.putAll (e.tx i).written h0 (show e.last ≤ e.last + 1 by omega)
  obtain ⟨k, hk⟩ := List.getElem?_of_mem hvs
  obtain ⟨⟨_, _, _, h2⟩, h3⟩ := h1.2 k vs vs hk hk
  exact ⟨h2, h3⟩
theorem told_last (h : OkT N e U) (hi : i < e.txs.length) (hl : e.last ≤ e.count) : e.last ≤ (e.told i).last ∧ (e.told i).last ≤ e.last + 1 ∧ ((e.told i).last = e.last → (e.tx i).written = []) := by
 rw [(told_is h hi hl).2.1]
 split
 ·rename_i hw; exact ⟨by omega, by omega, fun _ => hw⟩
 ·exact ⟨by omega, by omega, fun h => by omega⟩
theorem foldl_floor (s : Int) : ∀ (l : List Tx) (a : Int), l.foldl (fun a x => if x.alive = true ∧ x.level ≠ 0 then min a x.start else a) a ≤ a ∧ ∀ x ∈ l, x.alive = true → x.level ≠ 0 → l.foldl (fun a x => if x.alive = true ∧ x.level ≠ 0 then min a x.start else a) a ≤ x.start
 | [], a => ⟨Int.le_refl _, by simp⟩
 | y :: l, a => by
  simp only [List.foldl_cons]
  obtain ⟨h1, h2⟩ := foldl_floor s l (if y.alive = true ∧ y.level ≠ 0 then min a y.start else a)
  refine ⟨Int.le_trans h1 (by split <;> omega), fun x hx ha hl => ?_⟩
  rcases List.mem_cons.1 hx with rfl | hx
  ·refine Int.le_trans h1 ?_
   rw [if_pos ⟨ha, hl⟩]; omega
  ·exact h2 x hx ha hl
theorem floor_le (hi : i < e.txs.length) (ha : (e.tx i).alive = true) (hl : (e.tx i).level ≠ 0) : e.floor ≤ (e.tx i).start := (foldl_floor 0 _ _).2 _ (Eng.tx_mem hi) ha hl
theorem sweep_row (e : Eng) (K : Int) : e.sweep.1.row K = swept e.floor (e.row K) := by
 unfold Eng.row
 show (((e.V.map (swept e.floor))[K.toNat]?).getD []) = _
 rw [List.getElem?_map]
 cases e.V[K.toNat]? <;> rfl
theorem sweep_rel (h : RowsOk e) {s : Int} (hs : e.floor ≤ s) (K : Int) : Rel s (e.row K) (e.sweep.1.row K) := by
 rw [sweep_row]
 exact Rel.sweep ⟨0, rfl, .inl rfl, (h.row K).1⟩ hs
structure Later (e e' : Eng) : Prop where
 len : e.txs.length ≤ e'.txs.length
 fix : ∀ j, j < e.txs.length → (e'.tx j).level = (e.tx j).level ∧ (e'.tx j).start = (e.tx j).start ∧ (e'.tx j).begun = (e.tx j).begun
 live : ∀ j, j < e.txs.length → (e'.tx j).alive = true → (e.tx j).alive = true
 over : ∀ j, j < e.txs.length → (e.tx j).alive = false → (e'.tx j).state = (e.tx j).state ∧ (e'.tx j).ended = (e.tx j).ended ∧ (e'.tx j).writes = (e.tx j).writes ∧ (e'.tx j).reads = (e.tx j).reads
 ended : ∀ j, j < e.txs.length → (e.tx j).alive = true → (e'.tx j).alive = false → e.count < (e'.tx j).ended
 count : e.count ≤ e'.count
 view : ∀ j, j < e.txs.length → (e'.tx j).alive = true → (e.tx j).level ≠ 0 → ∀ K, keyOk K → readV (e'.row K) (e.tx j).start = readV (e.row K) (e.tx j).start
theorem Later.refl (e : Eng) : Later e e := ⟨Nat.le_refl _, fun _ _ => ⟨rfl, rfl, rfl⟩, fun _ _ h => h, fun _ _ _ => ⟨rfl, rfl, rfl, rfl⟩, fun _ _ h1 h2 => (by rw [h1] at h2; cases h2), Int.le_refl _, fun _ _ _ _ _ _ => rfl⟩
theorem Later.trans {a b c : Eng} (h : Later a b) (g : Later b c) : Later a c := by
 have hl := h.len
 refine ⟨Nat.le_trans h.len g.len, fun j hj => ?_, fun j hj ha => h.live j hj (g.live j (by omega) ha), fun j hj ha => ?_, fun j hj h1 h2 => ?_, Int.le_trans h.count g.count, fun j hj ha hlv K hK => ?_⟩
 ·obtain ⟨a1, a2, a3⟩ := h.fix j hj
  obtain ⟨b1, b2, b3⟩ := g.fix j (by omega)
  exact ⟨b1.trans a1, b2.trans a2, b3.trans a3⟩
 ·obtain ⟨a1, a2, a3, a4⟩ := h.over j hj ha
  obtain ⟨b1, b2, b3, b4⟩ := g.over j (by omega) (by rw [alive_of_state a1]; exact ha)
  exact ⟨b1.trans a1, b2.trans a2, b3.trans a3, b4.trans a4⟩
 ·cases hb : (b.tx j).alive with
  | true => have := g.ended j (by omega) hb h2; have := h.count; omega
  | false =>
   rw [(g.over j (by omega) hb).2.1]
   exact h.ended j hj h1 hb
 ·obtain ⟨a1, a2, a3⟩ := h.fix j hj
  have hb := g.live j (by omega) ha
  have h1 := g.view j (by omega) ha (by rw [a1]; exact hlv) K hK
  rw [a2] at h1
  exact h1.trans (h.view j hj hb hlv K hK)
theorem Stays.later (h : Stays e e') : Later e e' := by
 refine ⟨Nat.le_of_eq h.len.symm, fun j _ => ⟨(h.fix j).1, (h.fix j).2.1, (h.fix j).2.2.1⟩, fun j _ ha => ?_, fun j _ ha => ⟨(h.over j ha).1, (h.over j ha).2.1, (h.over j ha).2.2, (h.fix j).2.2.2⟩, fun j _ h1 h2 => ?_, h.count, fun j _ _ _ K _ => ?_⟩
 ·cases hb : (e.tx j).alive with
  | true => rfl
  | false => rw [alive_of_state (h.over j hb).1, hb] at ha; cases ha
 ·rcases h.live j h1 with h3 | h3
  ·rw [h3] at h2; cases h2
  ·exact h3.2
 ·unfold Eng.row; rw [h.V]
theorem Later.upd (h : Later e0 e) (ha : (e.tx i).alive = true) (f : Tx → Tx) (hf : ∀ x, (f x).level = x.level ∧ (f x).start = x.start ∧ (f x).begun = x.begun) (hl : (f (e.tx i)).alive = true) : Later e0 (e.upd i f) := by
 have hal : ∀ j, ((e.upd i f).tx j).alive = (e.tx j).alive := fun j => by
  rw [Eng.upd_tx]; split
  ·rename_i hc; rw [← hc.1, ha, hl]
  ·rfl
 refine ⟨by rw [Eng.upd_len]; exact h.len, fun j hj => ?_, fun j hj hb => h.live j hj (by rw [← hal]; exact hb), fun j hj hb => ?_, fun j hj h1 h2 => ?_, h.count, fun j hj hb hlv K hK => h.view j hj (by rw [← hal]; exact hb) hlv K hK⟩
 ·rw [Eng.upd_keep (·.level) f (fun x => (hf x).1), Eng.upd_keep (·.start) f (fun x => (hf x).2.1), Eng.upd_keep (·.begun) f (fun x => (hf x).2.2)]
  exact h.fix j hj
 ·have hji : i ≠ j := by
   intro e1; subst e1
   rw [alive_of_state (h.over i hj hb).1, hb] at ha; cases ha
  rw [Eng.upd_ne hji]; exact h.over j hj hb
 ·rw [hal] at h2
  have hji : i ≠ j := by intro e1; subst e1; rw [ha] at h2; cases h2
  rw [Eng.upd_ne hji]; exact h.ended j hj h1 h2
theorem Later.table (h : Later e0 e) (t : Tbl) : Later e0 (e.table t) := ⟨h.len, h.fix, h.live, h.over, h.ended, h.count, h.view⟩
theorem state_alive {x : Tx} (h : x.state = 0) : x.alive = true := by simp [Tx.alive, h]
def Eng.fresh (e : Eng) (level : Int) : Tx := { Tx.zero with level := level, start := e.last, begun := e.count + 1 }
theorem begin_out (e : Eng) (level : Int) : ((e.begin_ level).2.2 = 0 ∧ (e.begin_ level).2.1 = (e.txs.length : Int) + 1 ∧ (e.begin_ level).1 = e.grown (e.fresh level)) ∨ ((e.begin_ level).2.2 ≠ 0 ∧ (e.begin_ level).1 = e) := by
 unfold Eng.begin_
 split
 ·exact .inr ⟨by simp, rfl⟩
 ·split
  ·exact .inr ⟨by simp, rfl⟩
  ·split
   ·exact .inr ⟨by simp, rfl⟩
   ·exact .inl ⟨rfl, rfl, rfl⟩
theorem noted_tx (e : Eng) (i : Nat) (key : Int) {β : Type} (g : Tx → β) (hg : ∀ x l, g { x with reads := l } = g x) (j : Nat) : g ((e.noted i key).tx j) = g (e.tx j) := Eng.upd_keep g _ (fun x => hg x _) j
theorem OkT.noted1 (h : OkT N e U) (hi : i < e.txs.length) (key : Int) : OkT (N + 1) (e.noted i key) U := h.reads_in hi _
theorem noted_len (e : Eng) (i : Nat) (key : Int) : (e.noted i key).txs.length = e.txs.length := Eng.upd_len ..
theorem wanting_tx (e : Eng) (i : Nat) (w : Int × Int) {β : Type} (g : Tx → β) (hg : ∀ x u, g { x with want := u } = g x) (j : Nat) : g ((e.wanting i w).tx j) = g (e.tx j) := Eng.upd_keep g _ (fun x => hg x _) j
theorem put_ok (h : OkT N e []) {key value : Int} (hi : i < e.txs.length) (hs : (e.tx i).state = 0) (hk : keyOk key) (hv : valOk value) {t' : Tbl} (ht : t' = { e.t with hold := mput e.t.hold key ((i : Int) + 1) } ∧ mget e.t.hold key = none ∨ t' = e.t ∧ mget e.t.hold key = some ((i : Int) + 1)) :
  OkT (N + 200) ((e.wanting i (key, value)).table t') [.put i (key, value)] ∧ i < ((e.wanting i (key, value)).table t').txs.length ∧ (((e.wanting i (key, value)).table t').tx i).state = 0 := by
 have h1 := h.wanted hi (w := (key, value)) hk hv
 have hlen : (e.wanting i (key, value)).txs.length = e.txs.length := Eng.upd_len ..
 have hs1 : ((e.wanting i (key, value)).tx i).state = 0 := (wanting_tx e i _ (·.state) (fun _ _ => rfl) i).trans hs
 have hi1 : i < (e.wanting i (key, value)).txs.length := by omega
 have h2 : OkT N ((e.wanting i (key, value)).table t') [] := by
  rcases ht with ⟨rfl, hh⟩ | ⟨rfl, hh⟩
  ·exact OkT.got (e := e.wanting i (key, value)) h1 hi1 hs1 hk hh
  ·exact h1
 exact ⟨h2.to_put hi1 hs1 hk hv, hi1, hs1⟩
theorem cycle_ok (h : OkT N e []) {key value : Int} (hi : i < e.txs.length) (hk : keyOk key) (hv : valOk value) : OkT N ((e.wanting i (key, value)).table e.t) [] := h.wanted hi (w := (key, value)) hk hv
theorem same_puts {w : Int × Int} (h : OkT N e [.put i w]) : Stays e (e.puts i w) := (same_rule e).putsE h (.refl e)
theorem abort_case (e : Eng) (n : Int) : (∃ x, x ≠ 0 ∧ e.abort n = (e, x)) ∨ ∃ i : Nat, n = (i : Int) + 1 ∧ i < e.txs.length ∧ ¬ 1 < (e.tx i).state ∧ e.abort n = (e.goes i 0, 0) := by
 unfold Eng.abort
 by_cases he : e.err n false ≠ 0
 ·rw [if_pos he]; exact .inl ⟨_, he, rfl⟩
 ·rw [if_neg he]
  obtain ⟨i, rfl, hi, _⟩ := err_num (Decidable.not_not.1 he)
  have hi2 : ((i : Int) + 1).toNat - 1 = i := by omega
  simp only [hi2]
  by_cases h1 : 1 < (e.tx i).state
  ·rw [if_pos h1]; exact .inl ⟨6, by decide, rfl⟩
  ·rw [if_neg h1]; exact .inr ⟨i, rfl, hi, h1, rfl⟩
end
end Go.Proofs.YtmfngjclccehaaaGreatDoor
