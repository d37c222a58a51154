/- The reference's table: Ask. -/
import Derived.Test.YtbcoddibdipjkaaDoorRefB
namespace Go.Proofs.YtbcoddibdipjkaaDoor
open Go Go.RowKit Go.Sep

set_option maxRecDepth 40000 in
set_option maxHeartbeats 16000000 in
theorem rask_any (w0 w : World) (b : Nat) (t : Tbl) (Qs : List (List Int)) (tx key : Int) (cc : Bool) (L : List HProp) (hs : S w0 w (rtabP 3 b 0 Qs :: L)) (hST : SameT t Qs) (hN : ∀ q ∈ Qs, q.length ≤ 900000)
    (hch : ∀ a, mget t.hold key = some a → ∃ n, chase t tx n a = some cc) :
    Calls Tryd.prog 40 #[.pointer (some ⟨b, 0, none⟩), .int .i64 tx, .int .i64 key] w fun e w' => e = .returned (.tuple #[.bool (raskT Qs tx key cc).2.1, .int .i64 (raskT Qs tx key cc).2.2]) ∧ S w0 w' (rtabP 3 b 0 (raskT Qs tx key cc).1 :: L) := by
  obtain ⟨kv, hs1⟩ := hs.ex_elim
  have hN0 : ∀ q ∈ Qs, q.length ≤ 1000000 := fun q hq => by have := hN q hq; omega
  have H := hid hs1; have HN0 := hid hN0; have HN9 := hid hN; have HST := hid hST; have HCH := hid hch
  have HP : Hid (S w0 w (rtabP 3 b 0 Qs :: L)) := hid hs
  clear hs hs1 hN0 hN hST hch
  by_cases hk : 0 ≤ key ∧ key ≤ 9
  · have hb : decide ((0 : Int) ≤ key ∧ key ≤ 9) = true := decide_eq_true hk
    by_cases htx : tx < 1
    · have hr : raskT Qs tx key cc = (Qs, false, 2) := by unfold raskT; rw [if_pos (by omega)]
      have HR := hid hr
      clear hr
      go_enter Tryd.func40, Tryd.ntmps40
      go_wp2_with (first | (go_at_call 65; with_reducible refine (in_any _ _ _ _).mono ?_; rw [hb]; rintro e w' ⟨rfl, rfl⟩) | (go_at_call 42; with_reducible refine (rwaits_any w0 _ b kv Qs _ L H.out HN0.out).mono ?_; rintro e w' ⟨rfl, rfl⟩) | (go_at_call 43; with_reducible refine (rholds_any w0 _ b kv Qs _ L H.out).mono ?_; rintro e w' ⟨rfl, rfl⟩))
      go_ret2
      exact ⟨by rw [HR.out]; rfl, by rw [HR.out]; exact HP.out⟩
    · have htx1 : 1 ≤ tx := by omega
      clear htx
      by_cases hw : 0 ≤ rwaits Qs tx
      · have hr : raskT Qs tx key cc = (Qs, false, 6) := by unfold raskT; rw [if_neg (by omega), if_pos hw]
        have HR := hid hr
        clear hr
        go_enter Tryd.func40, Tryd.ntmps40
        go_wp2_with (first | (go_at_call 65; with_reducible refine (in_any _ _ _ _).mono ?_; rw [hb]; rintro e w' ⟨rfl, rfl⟩) | (go_at_call 42; with_reducible refine (rwaits_any w0 _ b kv Qs _ L H.out HN0.out).mono ?_; rintro e w' ⟨rfl, rfl⟩) | (go_at_call 43; with_reducible refine (rholds_any w0 _ b kv Qs _ L H.out).mono ?_; rintro e w' ⟨rfl, rfl⟩))
        go_ret2
        exact ⟨by rw [HR.out]; rfl, by rw [HR.out]; exact HP.out⟩
      · have hw1 : rwaits Qs tx < 0 := by omega
        have HW := hid hw
        clear hw
        by_cases hh : rholds Qs key = tx
        · have hr : raskT Qs tx key cc = (Qs, true, 0) := by unfold raskT; rw [if_neg (by omega), if_neg (show ¬ 0 ≤ rwaits Qs tx by have := HW.out; omega), if_pos hh]
          have HR := hid hr
          clear hr
          go_enter Tryd.func40, Tryd.ntmps40
          go_wp2_with (first | (go_at_call 65; with_reducible refine (in_any _ _ _ _).mono ?_; rw [hb]; rintro e w' ⟨rfl, rfl⟩) | (go_at_call 42; with_reducible refine (rwaits_any w0 _ b kv Qs _ L H.out HN0.out).mono ?_; rintro e w' ⟨rfl, rfl⟩) | (go_at_call 43; with_reducible refine (rholds_any w0 _ b kv Qs _ L H.out).mono ?_; rintro e w' ⟨rfl, rfl⟩))
          go_ret2
          exact ⟨by rw [HR.out]; rfl, by rw [HR.out]; exact HP.out⟩
        have hhb : (rholds Qs key == tx) = false := by simpa using hh
        have HH := hid hh
        clear hh
        obtain ⟨r, hrk⟩ := HST.out.rk
        have hrank := Rk.ranked HST.out.tab hrk
        have HRK := hid hrank
        clear hrk hrank
        obtain ⟨k, rfl⟩ : ∃ k : Nat, key = k := ⟨key.toNat, by omega⟩
        have hk10 : k < 10 := by omega
        obtain ⟨v, q, X, hkv, hQ, hsl, hcell, _, hput⟩ := H.out.rtabK_key k hk10
        have hq9 := HN9.out q (List.mem_of_getElem? hQ)
        obtain ⟨a, c, rfl, hc1, hc2, _⟩ := hsl.sl_val
        have hqf : qf Qs k = q := by rw [qf_nat, hQ]; rfl
        have hnq := news_old (w := w) (ad := a) (xs := icells q) fun j u hj => by
          obtain ⟨g2, o2, c2, hv2, _, _, _, hlt2, hcc2, _⟩ := hsl.sl_some (by have := (List.getElem?_eq_some_iff.1 hj).1; omega)
          simp only [Value.slice.injEq] at hv2
          exact ⟨g2, o2, hv2.1, hlt2, hcc2 j u hj⟩
        have hjx : ∀ (W : World) (M : List HProp), S w W M → S w0 W (X :: sl 3 1 (.slice a q.length c) q.length (icells q) :: (M ++ L)) := fun W M h =>
          (hsl.join h).conv (by rw [all_append]; simp only [all, all_append]; ac_rfl)
        have hkp : ∀ (W : World) (M : List HProp), S w W M → W.cell? ⟨b, k, none⟩ = some (.slice a q.length c) ∧ W.frozen? ⟨b, k, none⟩ = false := fun W M h => by
          obtain ⟨x1, x2, _⟩ := hcell W _ (hjx W M h)
          rw [Nat.zero_add] at x1 x2
          exact ⟨x1, x2⟩
        have hfin : ∀ (v' : Value) (W : World), S w W [sl 3 1 v' (q.length + 1) (icells q ++ icells [tx]), sl 3 1 (.slice (some ⟨0, 0, none⟩) 0 0) 0 []] → True := fun _ _ _ => trivial
        have hfin2 : ∀ (W : World) (v' : Value) (B : HProp), S w W [sl 3 1 v' (q.length + 1) (icells q ++ icells [tx]), B] → S w0 (W.setCell ⟨b, k, none⟩ v') (rtabP 3 b 0 (Qs.set k (q ++ [tx])) :: L) := fun W v' B h => by
          have h1 : S w0 W (B :: sl 3 1 (.slice a q.length c) q.length (icells q) :: sl 3 1 v' (q ++ [tx]).length (icells (q ++ [tx])) :: X :: L) := (hsl.join h).conv (by
            rw [icells_append, List.length_append, List.length_singleton]
            simp only [List.cons_append, List.nil_append, all]; ac_rfl)
          have h2 := hput W v' (q ++ [tx]) L h1.tail.tail
          rw [Nat.zero_add] at h2
          exact .ex_intro _ h2
        have HFIN := hid hfin2; have KP := hid hkp; have HN := hid hnq; have HQF := hid hqf
        have H63a : Hid (0 + q.length ≤ 1000000) := hid (by omega)
        have H63b : Hid (q.length + 1 ≤ 1000000) := hid (by omega)
        have hb0 : (0 : Int) ≤ (k : Int) := by omega
        have hb2 : (k : Int) < 10 := by omega
        obtain ⟨i0, hi0, hz0, hz1, hz2⟩ := info_parts Tryd.info3
        clear hkv hQ hsl hcell hput hjx hkp hfin hfin2 hnq hqf hk
        -- how the walk along the line begins
        have hst0 : rholds Qs (k : Int) = 0 ∨ (1 ≤ rholds Qs (k : Int) ∧ ∃ n, chase t tx n (rholds Qs (k : Int)) = some cc) := by
          have hh0 := HST.out.tab.hold k
          rcases hq0 : qf Qs (k : Int) with _ | ⟨y, l⟩
          · left; unfold rholds; rw [hq0]; rfl
          · right
            rw [hq0] at hh0
            have e : rholds Qs (k : Int) = y := by unfold rholds; rw [hq0]; rfl
            rw [e]
            exact ⟨HST.out.pos k y (by rw [hq0]; simp), HCH.out y hh0⟩
        have HST0 := hid hst0
        clear hst0
        go_enter Tryd.func40, Tryd.ntmps40
        go_upto_block 0 with (first | (go_at_call 65; with_reducible refine (in_any _ _ _ _).mono ?_; rw [hb]; rintro e w' ⟨rfl, rfl⟩) | (go_at_call 42; with_reducible refine (rwaits_any w0 _ b kv Qs _ L H.out HN0.out).mono ?_; rintro e w' ⟨rfl, rfl⟩) | (go_at_call 43; with_reducible refine (rholds_any w0 _ b kv Qs _ L H.out).mono ?_; rintro e w' ⟨rfl, rfl⟩))
        go_cut [] (fun wx => wx = w ∧ (rholds Qs (k : Int) = 0 ∨ cc = false))
        case first =>
          go_wp2_with fail
          go_loop [9] (fun c => ∃ y : Int, c = .int .i64 y ∧ Hid ((y = 0 ∧ rholds Qs (k : Int) = 0) ∨ (1 ≤ y ∧ y ≠ tx ∧ rholds Qs (k : Int) ≠ 0 ∧ ∃ n, chase t tx n y = some cc))) (fun c => r (intOf c))
          case atStart =>
            refine ⟨_, rfl, hid ?_⟩
            rcases HST0.out with h | ⟨h1, h2⟩
            · exact .inl ⟨h, h⟩
            · exact .inr ⟨h1, HH.out, by omega, h2⟩
          case round =>
            obtain ⟨y, rfl, hy⟩ := hrel
            rcases hy.out with ⟨rfl, h0⟩ | ⟨h1, h2, h3, n, hn⟩
            · have HX := hid h0
              clear hy h0
              go_wp2_with fail
              go_meet
              exact ⟨rfl, .inl HX.out⟩
            · have hy0 : (y != 0) = true := by simp only [bne_iff_ne, ne_eq]; omega
              have hwn := HST.out.waits_nonneg y
              have hw2 := HST.out.waits y
              obtain ⟨n, rfl⟩ : ∃ m, n = m + 1 := by
                cases n with
                | zero => simp [chase] at hn
                | succ m => exact ⟨m, rfl⟩
              unfold chase at hn
              rw [if_neg h2] at hn
              by_cases hk0 : rwaits Qs y < 0
              · have hcf : cc = false := by
                  cases hm : mget t.wait y with
                  | none => rw [hm] at hn; simp only [Option.some.injEq] at hn; exact hn.symm
                  | some j => rw [hm, Option.isSome_some] at hwn; have := of_decide_eq_true hwn.symm; omega
                have HX := hid hcf
                clear hy h2 h3 hn hwn hw2 hcf h1
                go_wp2_with (first | (go_at_call 65; with_reducible refine (in_any _ _ _ _).mono ?_; rw [hb]; rintro e w' ⟨rfl, rfl⟩) | (go_at_call 42; with_reducible refine (rwaits_any w0 _ b kv Qs _ L H.out HN0.out).mono ?_; rintro e w' ⟨rfl, rfl⟩) | (go_at_call 43; with_reducible refine (rholds_any w0 _ b kv Qs _ L H.out).mono ?_; rintro e w' ⟨rfl, rfl⟩))
                go_meet
                exact ⟨rfl, .inr HX.out⟩
              · obtain ⟨j, hm⟩ : ∃ j, mget t.wait y = some j := by
                  cases hm : mget t.wait y with
                  | none => rw [hm] at hwn; have := of_decide_eq_false (hwn.symm.trans rfl); omega
                  | some j => exact ⟨j, rfl⟩
                rw [hm] at hn hw2
                simp only [Option.getD_some] at hn hw2
                have hj : (mget t.hold j).getD 0 = rholds Qs j := HST.out.holds j
                have hrk := HRK.out y j hm
                rw [hj] at hn hrk
                have hp1 : 1 ≤ rholds Qs j := by
                  have hyt := (HST.out.tab.wait y j).1 hm
                  rcases hq0 : qf Qs j with _ | ⟨z, l⟩
                  · rw [hq0] at hyt; simp at hyt
                  · have e : rholds Qs j = z := by unfold rholds; rw [hq0]; rfl
                    rw [e]; exact HST.out.pos j z (by rw [hq0]; simp)
                have hk1 : ¬ j < 0 := by omega
                have hk2 : 0 ≤ j := by omega
                have hwe : rwaits Qs y = j := hw2.symm
                by_cases hjt : rholds Qs j = tx
                · have hct : cc = true := by
                    rw [hjt] at hn
                    cases n with
                    | zero => simp [chase] at hn
                    | succ m => unfold chase at hn; rw [if_pos rfl] at hn; simpa using hn.symm
                  have hr : raskT Qs tx k cc = (Qs, false, 11) := by unfold raskT; rw [if_neg (by omega), if_neg (show ¬ 0 ≤ rwaits Qs tx by have := HW.out; omega), if_neg HH.out, if_pos ⟨h3, hct⟩]
                  have HR := hid hr
                  clear hy h2 h3 hn hwn hw2 hct hr h1 hm hj hrk hp1 hk0 hk1
                  go_wp2_with (first | (go_at_call 65; with_reducible refine (in_any _ _ _ _).mono ?_; rw [hb]; rintro e w' ⟨rfl, rfl⟩) | (go_at_call 42; with_reducible refine (rwaits_any w0 _ b kv Qs _ L H.out HN0.out).mono ?_; rintro e w' ⟨rfl, rfl⟩) | (go_at_call 43; with_reducible refine (rholds_any w0 _ b kv Qs _ L H.out).mono ?_; rintro e w' ⟨rfl, rfl⟩))
                  go_ret2
                  exact ⟨by rw [HR.out]; rfl, by rw [HR.out]; exact HP.out⟩
                · have hjb : (rholds Qs j == tx) = false := by simpa using hjt
                  have HX : Hid (1 ≤ rholds Qs j ∧ rholds Qs j ≠ tx ∧ rholds Qs (k : Int) ≠ 0 ∧ ∃ n, chase t tx n (rholds Qs j) = some cc) := hid ⟨hp1, hjt, h3, n, hn⟩
                  have HM := hid hrk
                  clear hy h2 h3 hn hwn hw2 h1 hm hj hrk hp1 hk0 hk1 hjt
                  go_wp2_with (first | (go_at_call 65; with_reducible refine (in_any _ _ _ _).mono ?_; rw [hb]; rintro e w' ⟨rfl, rfl⟩) | (go_at_call 42; with_reducible refine (rwaits_any w0 _ b kv Qs _ L H.out HN0.out).mono ?_; rintro e w' ⟨rfl, rfl⟩) | (go_at_call 43; with_reducible refine (rholds_any w0 _ b kv Qs _ L H.out).mono ?_; rintro e w' ⟨rfl, rfl⟩))
                  go_round
                  case rel => exact ⟨_, rfl, hid (.inr HX.out)⟩
                  case measure => exact HM.out
        case rest =>
        obtain ⟨rfl, hcc⟩ := hcut
        have hr : raskT Qs tx k cc = (Qs.set k (q ++ [tx]), decide (rholds Qs (k : Int) = 0), 0) := by
          unfold raskT
          rw [if_neg (by omega), if_neg (show ¬ 0 ≤ rwaits Qs tx by have := HW.out; omega), if_neg HH.out, if_neg (by rintro ⟨x1, x2⟩; rcases hcc with h | h; exact x1 h; rw [h] at x2; cases x2), HQF.out]
          rfl
        have HR := hid hr
        clear hr hcc
        go_wp2_with fail
        go_cut [] (fun wx => S w0 wx (rtabP 3 b 0 (Qs.set k (q ++ [tx])) :: L))
        case first =>
          refine wp_region_held_drew (S := fun _ => True) (by kernel_rfl) trivial (fun hHeld => ?_)
          refine wpAnyH_take (i := 0) (v := ?_) rfl (by kernel_rfl) (by kernel_rfl) (by kernel_rfl) (fun _ _ _ h => h) (Or.inl ⟨by rfl, ?_⟩) hHeld ?_
          rotate_left
          · (intro w hSw; (try dsimp only at hSw); go_simp) <;> with_reducible rfl
          try simp only [Act.put, List.setIfInBounds_toArray]
          refine wpAnyH_take (i := 1) (v := ?_) rfl (by kernel_rfl) (by kernel_rfl) (by kernel_rfl) (fun _ _ _ h => h) (Or.inl ⟨by rfl, ?_⟩) hHeld ?_
          rotate_left
          · (intro w hSw; (try dsimp only at hSw); go_simp) <;> with_reducible rfl
          try simp only [Act.put]
          refine wpAnyH_take (i := 3) (v := ?_) rfl (by kernel_rfl) (by kernel_rfl) (by kernel_rfl) (fun _ _ _ h => h) (Or.inl ⟨by rfl, ?_⟩) hHeld ?_
          rotate_left
          · (intro w hSw; (try dsimp only at hSw); go_simp) <;> with_reducible rfl
          try simp only [Act.put]
          refine wpAnyH_take (i := 4) (v := ?_) rfl (by kernel_rfl) (by kernel_rfl) (by kernel_rfl) (fun _ _ _ h => h) (Or.inl ⟨by rfl, ?_⟩) hHeld ?_
          rotate_left
          · (intro w hSw; (try dsimp only at hSw); go_simp) <;> with_reducible rfl
          try simp only [Act.put]
          refine wpAnyH_take (i := 5) (v := ?_) rfl (by kernel_rfl) (by kernel_rfl) (by kernel_rfl) (fun _ _ _ h => h) (Or.inl ⟨by rfl, ?_⟩) hHeld ?_
          rotate_left
          · (intro w hSw; (try dsimp only at hSw); go_simp) <;> with_reducible rfl
          try simp only [Act.put]
          refine wpAnyH_take (i := 6) (v := ?_) rfl (by kernel_rfl) (by kernel_rfl) (by kernel_rfl) (fun _ _ _ h => h) (Or.inl ⟨by rfl, ?_⟩) hHeld ?_
          rotate_left
          · (intro w hSw; (try dsimp only at hSw); go_simp) <;> with_reducible rfl
          try simp only [Act.put]
          refine wpAnyH_take (i := 7) (v := ?_) rfl (by kernel_rfl) (by kernel_rfl) (by kernel_rfl) (fun _ _ _ h => h) (Or.inl ⟨by rfl, ?_⟩) hHeld ?_
          rotate_left
          · (intro w hSw; (try dsimp only at hSw); go_simp) <;> with_reducible rfl
          try simp only [Act.put]
          refine wpAnyH_take (i := 10) (v := ?_) rfl (by kernel_rfl) (by kernel_rfl) (by kernel_rfl) (fun _ _ _ h => h) (Or.inl ⟨by rfl, ?_⟩) hHeld ?_
          rotate_left
          · (intro w hSw; (try dsimp only at hSw); go_simp) <;> with_reducible rfl
          try simp only [Act.put]
          refine wpAnyH_take (i := 13) (v := ?_) rfl (by kernel_rfl) (by kernel_rfl) (by kernel_rfl) (fun _ _ _ h => h) (Or.inl ⟨by rfl, ?_⟩) hHeld ?_
          rotate_left
          · (intro w hSw; (try dsimp only at hSw); go_simp) <;> with_reducible rfl
          try simp only [Act.put]
          refine wpAnyH_take (i := 14) (v := ?_) rfl (by kernel_rfl) (by kernel_rfl) (by kernel_rfl) (fun _ _ _ h => h) (Or.inl ⟨by rfl, ?_⟩) hHeld ?_
          rotate_left
          · (intro w hSw; (try dsimp only at hSw); go_simp) <;> with_reducible rfl
          try simp only [Act.put]
          have HS := hid (S.start wc).drew
          clear hHeld
          generalize wc.drew = w1 at HS ⊢
          refine wpAnyH_ready (rs := [2, 8, 11]) (by kernel_rfl) (by simp) ?_
          refine AllReadyH.cons rfl (fun K hK => ?_) ?_
          · go_simp
            replace HS := hid (HS.out.alloc_sl (e := 3) [] _ rfl nil_max)
            refine hK.out _ _ trivial (fun _ => ?_)
            clear hK K
            generalize w1.heap.size = b2 at HS ⊢
            generalize World.alloc w1 _ = w2 at HS ⊢
            refine wpAnyH_ready (rs := [8, 11]) (by kernel_rfl) (by simp) ?_
            refine AllReadyH.cons rfl (fun K hK => ?_) ?_
            · have q := (KP.out _ _ HS.out).1
              go_simp
              refine hK.out _ _ trivial (fun _ => ?_)
              clear hK K q
              refine wpAnyH_ready (rs := [9, 11]) (by kernel_rfl) (by simp) ?_
              refine AllReadyH.cons rfl (fun K hK => ?_) ?_
              · refine step_app rfl (.tmp 44) (.tmp 50) 41 rfl 3 i0 _ 8 Tryd.underlying41 hi0 hz0 hz1 hz2 rfl HS.out 0 (by rfl) (by rfl) a q.length c (icells q) (by rfl) (icells_length q) (HN.out _ _ HS.out) (icells_one _) H63a.out (Nat.le_refl 8) ?_
                intro v_a9 w3 hs
                replace HS := hid hs.norm0
                clear hs
                refine hK.out _ _ trivial (fun _ => ?_)
                clear hK K
                try simp only [Act.put, List.setIfInBounds_toArray]
                refine wpAnyH_ready (rs := [11]) (by kernel_rfl) (by simp) ?_
                refine AllReadyH.cons rfl (fun K hK => ?_) ?_
                · go_simp
                  replace HS := hid (HS.out.alloc_sl (e := 3) [.int .i64 tx] _ rfl (one_max tx))
                  refine hK.out _ _ trivial (fun _ => ?_)
                  clear hK K
                  generalize w3.heap.size = b11 at HS ⊢
                  generalize World.alloc w3 _ = w4 at HS ⊢
                  refine wpAnyH_ready (rs := [12]) (by kernel_rfl) (by simp) ?_
                  refine AllReadyH.cons rfl (fun K hK => ?_) ?_
                  · refine step_app rfl (.tmp 51) (.tmp 53) 41 rfl 3 i0 _ 8 Tryd.underlying41 hi0 hz0 hz1 hz2 rfl HS.out 1 (by rfl) (by rfl) _ 1 1 (icells [tx]) (by rfl) rfl (S.news_sl HS.out 0 (by rfl)) (icells_one _) H63b.out (Nat.le_refl 8) ?_
                    intro v_a12 w5 hs
                    replace HS := hid hs
                    clear hs
                    refine hK.out _ _ trivial (fun _ => ?_)
                    clear hK K
                    try simp only [Act.put, List.setIfInBounds_toArray]
                    obtain ⟨aN, cN, rfl, _, _, _⟩ := HS.out.sl_val
                    refine wpAnyH_take (i := 15) (v := ?_) rfl (by kernel_rfl) (by kernel_rfl) (by kernel_rfl) (fun _ _ _ h => h) (Or.inl ⟨by rfl, ?_⟩) trivial ?_
                    rotate_left
                    · (intro w hSw; (try dsimp only at hSw); go_simp) <;> with_reducible rfl
                    try simp only [Act.put]
                    refine wpAnyH_ready (rs := [16]) (by kernel_rfl) (by simp) ?_
                    refine AllReadyH.cons rfl (fun K hK => ?_) ?_
                    · have q := (KP.out _ _ HS.out).1
                      have q2 := (KP.out _ _ HS.out).2
                      go_simp
                      refine hK.out _ _ trivial (fun _ => ?_)
                      clear hK K q q2
                      refine wpAnyH_done (by kernel_rfl) ?_ _
                      go_wp2_with fail
                      go_meet
                      exact HFIN.out _ _ _ (S.headTwo HS.out)
                    exact AllReadyH.nil
                  exact AllReadyH.nil
                exact AllReadyH.nil
              refine AllReadyH.cons rfl (fun K hK => ?_) ?_
              · go_simp
                replace HS := hid (HS.out.alloc_sl (e := 3) [.int .i64 tx] _ rfl (one_max tx))
                refine hK.out _ _ trivial (fun _ => ?_)
                clear hK K
                generalize w2.heap.size = b11 at HS ⊢
                generalize World.alloc w2 _ = w3 at HS ⊢
                refine wpAnyH_ready (rs := [9]) (by kernel_rfl) (by simp) ?_
                refine AllReadyH.cons rfl (fun K hK => ?_) ?_
                · refine step_app rfl (.tmp 44) (.tmp 50) 41 rfl 3 i0 _ 8 Tryd.underlying41 hi0 hz0 hz1 hz2 rfl HS.out 1 (by rfl) (by rfl) a q.length c (icells q) (by rfl) (icells_length q) (HN.out _ _ HS.out) (icells_one _) H63a.out (Nat.le_refl 8) ?_
                  intro v_a9 w4 hs
                  replace HS := hid hs.norm0
                  clear hs
                  refine hK.out _ _ trivial (fun _ => ?_)
                  clear hK K
                  try simp only [Act.put, List.setIfInBounds_toArray]
                  refine wpAnyH_ready (rs := [12]) (by kernel_rfl) (by simp) ?_
                  refine AllReadyH.cons rfl (fun K hK => ?_) ?_
                  · refine step_app rfl (.tmp 51) (.tmp 53) 41 rfl 3 i0 _ 8 Tryd.underlying41 hi0 hz0 hz1 hz2 rfl HS.out 0 (by rfl) (by rfl) _ 1 1 (icells [tx]) (by rfl) rfl (S.news_sl HS.out 1 (by rfl)) (icells_one _) H63b.out (Nat.le_refl 8) ?_
                    intro v_a12 w5 hs
                    replace HS := hid hs
                    clear hs
                    refine hK.out _ _ trivial (fun _ => ?_)
                    clear hK K
                    try simp only [Act.put]
                    obtain ⟨aN, cN, rfl, _, _, _⟩ := HS.out.sl_val
                    refine wpAnyH_take (i := 15) (v := ?_) rfl (by kernel_rfl) (by kernel_rfl) (by kernel_rfl) (fun _ _ _ h => h) (Or.inl ⟨by rfl, ?_⟩) trivial ?_
                    rotate_left
                    · (intro w hSw; (try dsimp only at hSw); go_simp) <;> with_reducible rfl
                    try simp only [Act.put]
                    refine wpAnyH_ready (rs := [16]) (by kernel_rfl) (by simp) ?_
                    refine AllReadyH.cons rfl (fun K hK => ?_) ?_
                    · have q := (KP.out _ _ HS.out).1
                      have q2 := (KP.out _ _ HS.out).2
                      go_simp
                      refine hK.out _ _ trivial (fun _ => ?_)
                      clear hK K q q2
                      refine wpAnyH_done (by kernel_rfl) ?_ _
                      go_wp2_with fail
                      go_meet
                      exact HFIN.out _ _ _ (S.headTwo HS.out)
                    exact AllReadyH.nil
                  exact AllReadyH.nil
                exact AllReadyH.nil
              exact AllReadyH.nil
            refine AllReadyH.cons rfl (fun K hK => ?_) ?_
            · go_simp
              replace HS := hid (HS.out.alloc_sl (e := 3) [.int .i64 tx] _ rfl (one_max tx))
              refine hK.out _ _ trivial (fun _ => ?_)
              clear hK K
              generalize w2.heap.size = b11 at HS ⊢
              generalize World.alloc w2 _ = w3 at HS ⊢
              refine wpAnyH_ready (rs := [8]) (by kernel_rfl) (by simp) ?_
              refine AllReadyH.cons rfl (fun K hK => ?_) ?_
              · have q := (KP.out _ _ HS.out).1
                go_simp
                refine hK.out _ _ trivial (fun _ => ?_)
                clear hK K q
                refine wpAnyH_ready (rs := [9]) (by kernel_rfl) (by simp) ?_
                refine AllReadyH.cons rfl (fun K hK => ?_) ?_
                · refine step_app rfl (.tmp 44) (.tmp 50) 41 rfl 3 i0 _ 8 Tryd.underlying41 hi0 hz0 hz1 hz2 rfl HS.out 1 (by rfl) (by rfl) a q.length c (icells q) (by rfl) (icells_length q) (HN.out _ _ HS.out) (icells_one _) H63a.out (Nat.le_refl 8) ?_
                  intro v_a9 w4 hs
                  replace HS := hid hs.norm0
                  clear hs
                  refine hK.out _ _ trivial (fun _ => ?_)
                  clear hK K
                  try simp only [Act.put, List.setIfInBounds_toArray]
                  refine wpAnyH_ready (rs := [12]) (by kernel_rfl) (by simp) ?_
                  refine AllReadyH.cons rfl (fun K hK => ?_) ?_
                  · refine step_app rfl (.tmp 51) (.tmp 53) 41 rfl 3 i0 _ 8 Tryd.underlying41 hi0 hz0 hz1 hz2 rfl HS.out 0 (by rfl) (by rfl) _ 1 1 (icells [tx]) (by rfl) rfl (S.news_sl HS.out 1 (by rfl)) (icells_one _) H63b.out (Nat.le_refl 8) ?_
                    intro v_a12 w5 hs
                    replace HS := hid hs
                    clear hs
                    refine hK.out _ _ trivial (fun _ => ?_)
                    clear hK K
                    try simp only [Act.put]
                    obtain ⟨aN, cN, rfl, _, _, _⟩ := HS.out.sl_val
                    refine wpAnyH_take (i := 15) (v := ?_) rfl (by kernel_rfl) (by kernel_rfl) (by kernel_rfl) (fun _ _ _ h => h) (Or.inl ⟨by rfl, ?_⟩) trivial ?_
                    rotate_left
                    · (intro w hSw; (try dsimp only at hSw); go_simp) <;> with_reducible rfl
                    try simp only [Act.put]
                    refine wpAnyH_ready (rs := [16]) (by kernel_rfl) (by simp) ?_
                    refine AllReadyH.cons rfl (fun K hK => ?_) ?_
                    · have q := (KP.out _ _ HS.out).1
                      have q2 := (KP.out _ _ HS.out).2
                      go_simp
                      refine hK.out _ _ trivial (fun _ => ?_)
                      clear hK K q q2
                      refine wpAnyH_done (by kernel_rfl) ?_ _
                      go_wp2_with fail
                      go_meet
                      exact HFIN.out _ _ _ (S.headTwo HS.out)
                    exact AllReadyH.nil
                  exact AllReadyH.nil
                exact AllReadyH.nil
              exact AllReadyH.nil
            exact AllReadyH.nil
          refine AllReadyH.cons rfl (fun K hK => ?_) ?_
          · have q := (KP.out _ _ HS.out).1
            go_simp
            refine hK.out _ _ trivial (fun _ => ?_)
            clear hK K q
            refine wpAnyH_ready (rs := [2, 11]) (by kernel_rfl) (by simp) ?_
            refine AllReadyH.cons rfl (fun K hK => ?_) ?_
            · go_simp
              replace HS := hid (HS.out.alloc_sl (e := 3) [] _ rfl nil_max)
              refine hK.out _ _ trivial (fun _ => ?_)
              clear hK K
              generalize w1.heap.size = b2 at HS ⊢
              generalize World.alloc w1 _ = w2 at HS ⊢
              refine wpAnyH_ready (rs := [9, 11]) (by kernel_rfl) (by simp) ?_
              refine AllReadyH.cons rfl (fun K hK => ?_) ?_
              · refine step_app rfl (.tmp 44) (.tmp 50) 41 rfl 3 i0 _ 8 Tryd.underlying41 hi0 hz0 hz1 hz2 rfl HS.out 0 (by rfl) (by rfl) a q.length c (icells q) (by rfl) (icells_length q) (HN.out _ _ HS.out) (icells_one _) H63a.out (Nat.le_refl 8) ?_
                intro v_a9 w3 hs
                replace HS := hid hs.norm0
                clear hs
                refine hK.out _ _ trivial (fun _ => ?_)
                clear hK K
                try simp only [Act.put, List.setIfInBounds_toArray]
                refine wpAnyH_ready (rs := [11]) (by kernel_rfl) (by simp) ?_
                refine AllReadyH.cons rfl (fun K hK => ?_) ?_
                · go_simp
                  replace HS := hid (HS.out.alloc_sl (e := 3) [.int .i64 tx] _ rfl (one_max tx))
                  refine hK.out _ _ trivial (fun _ => ?_)
                  clear hK K
                  generalize w3.heap.size = b11 at HS ⊢
                  generalize World.alloc w3 _ = w4 at HS ⊢
                  refine wpAnyH_ready (rs := [12]) (by kernel_rfl) (by simp) ?_
                  refine AllReadyH.cons rfl (fun K hK => ?_) ?_
                  · refine step_app rfl (.tmp 51) (.tmp 53) 41 rfl 3 i0 _ 8 Tryd.underlying41 hi0 hz0 hz1 hz2 rfl HS.out 1 (by rfl) (by rfl) _ 1 1 (icells [tx]) (by rfl) rfl (S.news_sl HS.out 0 (by rfl)) (icells_one _) H63b.out (Nat.le_refl 8) ?_
                    intro v_a12 w5 hs
                    replace HS := hid hs
                    clear hs
                    refine hK.out _ _ trivial (fun _ => ?_)
                    clear hK K
                    try simp only [Act.put, List.setIfInBounds_toArray]
                    obtain ⟨aN, cN, rfl, _, _, _⟩ := HS.out.sl_val
                    refine wpAnyH_take (i := 15) (v := ?_) rfl (by kernel_rfl) (by kernel_rfl) (by kernel_rfl) (fun _ _ _ h => h) (Or.inl ⟨by rfl, ?_⟩) trivial ?_
                    rotate_left
                    · (intro w hSw; (try dsimp only at hSw); go_simp) <;> with_reducible rfl
                    try simp only [Act.put]
                    refine wpAnyH_ready (rs := [16]) (by kernel_rfl) (by simp) ?_
                    refine AllReadyH.cons rfl (fun K hK => ?_) ?_
                    · have q := (KP.out _ _ HS.out).1
                      have q2 := (KP.out _ _ HS.out).2
                      go_simp
                      refine hK.out _ _ trivial (fun _ => ?_)
                      clear hK K q q2
                      refine wpAnyH_done (by kernel_rfl) ?_ _
                      go_wp2_with fail
                      go_meet
                      exact HFIN.out _ _ _ (S.headTwo HS.out)
                    exact AllReadyH.nil
                  exact AllReadyH.nil
                exact AllReadyH.nil
              refine AllReadyH.cons rfl (fun K hK => ?_) ?_
              · go_simp
                replace HS := hid (HS.out.alloc_sl (e := 3) [.int .i64 tx] _ rfl (one_max tx))
                refine hK.out _ _ trivial (fun _ => ?_)
                clear hK K
                generalize w2.heap.size = b11 at HS ⊢
                generalize World.alloc w2 _ = w3 at HS ⊢
                refine wpAnyH_ready (rs := [9]) (by kernel_rfl) (by simp) ?_
                refine AllReadyH.cons rfl (fun K hK => ?_) ?_
                · refine step_app rfl (.tmp 44) (.tmp 50) 41 rfl 3 i0 _ 8 Tryd.underlying41 hi0 hz0 hz1 hz2 rfl HS.out 1 (by rfl) (by rfl) a q.length c (icells q) (by rfl) (icells_length q) (HN.out _ _ HS.out) (icells_one _) H63a.out (Nat.le_refl 8) ?_
                  intro v_a9 w4 hs
                  replace HS := hid hs.norm0
                  clear hs
                  refine hK.out _ _ trivial (fun _ => ?_)
                  clear hK K
                  try simp only [Act.put, List.setIfInBounds_toArray]
                  refine wpAnyH_ready (rs := [12]) (by kernel_rfl) (by simp) ?_
                  refine AllReadyH.cons rfl (fun K hK => ?_) ?_
                  · refine step_app rfl (.tmp 51) (.tmp 53) 41 rfl 3 i0 _ 8 Tryd.underlying41 hi0 hz0 hz1 hz2 rfl HS.out 0 (by rfl) (by rfl) _ 1 1 (icells [tx]) (by rfl) rfl (S.news_sl HS.out 1 (by rfl)) (icells_one _) H63b.out (Nat.le_refl 8) ?_
                    intro v_a12 w5 hs
                    replace HS := hid hs
                    clear hs
                    refine hK.out _ _ trivial (fun _ => ?_)
                    clear hK K
                    try simp only [Act.put]
                    obtain ⟨aN, cN, rfl, _, _, _⟩ := HS.out.sl_val
                    refine wpAnyH_take (i := 15) (v := ?_) rfl (by kernel_rfl) (by kernel_rfl) (by kernel_rfl) (fun _ _ _ h => h) (Or.inl ⟨by rfl, ?_⟩) trivial ?_
                    rotate_left
                    · (intro w hSw; (try dsimp only at hSw); go_simp) <;> with_reducible rfl
                    try simp only [Act.put]
                    refine wpAnyH_ready (rs := [16]) (by kernel_rfl) (by simp) ?_
                    refine AllReadyH.cons rfl (fun K hK => ?_) ?_
                    · have q := (KP.out _ _ HS.out).1
                      have q2 := (KP.out _ _ HS.out).2
                      go_simp
                      refine hK.out _ _ trivial (fun _ => ?_)
                      clear hK K q q2
                      refine wpAnyH_done (by kernel_rfl) ?_ _
                      go_wp2_with fail
                      go_meet
                      exact HFIN.out _ _ _ (S.headTwo HS.out)
                    exact AllReadyH.nil
                  exact AllReadyH.nil
                exact AllReadyH.nil
              exact AllReadyH.nil
            refine AllReadyH.cons rfl (fun K hK => ?_) ?_
            · go_simp
              replace HS := hid (HS.out.alloc_sl (e := 3) [.int .i64 tx] _ rfl (one_max tx))
              refine hK.out _ _ trivial (fun _ => ?_)
              clear hK K
              generalize w1.heap.size = b11 at HS ⊢
              generalize World.alloc w1 _ = w2 at HS ⊢
              refine wpAnyH_ready (rs := [2]) (by kernel_rfl) (by simp) ?_
              refine AllReadyH.cons rfl (fun K hK => ?_) ?_
              · go_simp
                replace HS := hid (HS.out.alloc_sl (e := 3) [] _ rfl nil_max)
                refine hK.out _ _ trivial (fun _ => ?_)
                clear hK K
                generalize w2.heap.size = b2 at HS ⊢
                generalize World.alloc w2 _ = w3 at HS ⊢
                refine wpAnyH_ready (rs := [9]) (by kernel_rfl) (by simp) ?_
                refine AllReadyH.cons rfl (fun K hK => ?_) ?_
                · refine step_app rfl (.tmp 44) (.tmp 50) 41 rfl 3 i0 _ 8 Tryd.underlying41 hi0 hz0 hz1 hz2 rfl HS.out 0 (by rfl) (by rfl) a q.length c (icells q) (by rfl) (icells_length q) (HN.out _ _ HS.out) (icells_one _) H63a.out (Nat.le_refl 8) ?_
                  intro v_a9 w4 hs
                  replace HS := hid hs.norm0
                  clear hs
                  refine hK.out _ _ trivial (fun _ => ?_)
                  clear hK K
                  try simp only [Act.put, List.setIfInBounds_toArray]
                  refine wpAnyH_ready (rs := [12]) (by kernel_rfl) (by simp) ?_
                  refine AllReadyH.cons rfl (fun K hK => ?_) ?_
                  · refine step_app rfl (.tmp 51) (.tmp 53) 41 rfl 3 i0 _ 8 Tryd.underlying41 hi0 hz0 hz1 hz2 rfl HS.out 0 (by rfl) (by rfl) _ 1 1 (icells [tx]) (by rfl) rfl (S.news_sl HS.out 1 (by rfl)) (icells_one _) H63b.out (Nat.le_refl 8) ?_
                    intro v_a12 w5 hs
                    replace HS := hid hs
                    clear hs
                    refine hK.out _ _ trivial (fun _ => ?_)
                    clear hK K
                    try simp only [Act.put]
                    obtain ⟨aN, cN, rfl, _, _, _⟩ := HS.out.sl_val
                    refine wpAnyH_take (i := 15) (v := ?_) rfl (by kernel_rfl) (by kernel_rfl) (by kernel_rfl) (fun _ _ _ h => h) (Or.inl ⟨by rfl, ?_⟩) trivial ?_
                    rotate_left
                    · (intro w hSw; (try dsimp only at hSw); go_simp) <;> with_reducible rfl
                    try simp only [Act.put]
                    refine wpAnyH_ready (rs := [16]) (by kernel_rfl) (by simp) ?_
                    refine AllReadyH.cons rfl (fun K hK => ?_) ?_
                    · have q := (KP.out _ _ HS.out).1
                      have q2 := (KP.out _ _ HS.out).2
                      go_simp
                      refine hK.out _ _ trivial (fun _ => ?_)
                      clear hK K q q2
                      refine wpAnyH_done (by kernel_rfl) ?_ _
                      go_wp2_with fail
                      go_meet
                      exact HFIN.out _ _ _ (S.headTwo HS.out)
                    exact AllReadyH.nil
                  exact AllReadyH.nil
                exact AllReadyH.nil
              exact AllReadyH.nil
            exact AllReadyH.nil
          refine AllReadyH.cons rfl (fun K hK => ?_) ?_
          · go_simp
            replace HS := hid (HS.out.alloc_sl (e := 3) [.int .i64 tx] _ rfl (one_max tx))
            refine hK.out _ _ trivial (fun _ => ?_)
            clear hK K
            generalize w1.heap.size = b11 at HS ⊢
            generalize World.alloc w1 _ = w2 at HS ⊢
            refine wpAnyH_ready (rs := [2, 8]) (by kernel_rfl) (by simp) ?_
            refine AllReadyH.cons rfl (fun K hK => ?_) ?_
            · go_simp
              replace HS := hid (HS.out.alloc_sl (e := 3) [] _ rfl nil_max)
              refine hK.out _ _ trivial (fun _ => ?_)
              clear hK K
              generalize w2.heap.size = b2 at HS ⊢
              generalize World.alloc w2 _ = w3 at HS ⊢
              refine wpAnyH_ready (rs := [8]) (by kernel_rfl) (by simp) ?_
              refine AllReadyH.cons rfl (fun K hK => ?_) ?_
              · have q := (KP.out _ _ HS.out).1
                go_simp
                refine hK.out _ _ trivial (fun _ => ?_)
                clear hK K q
                refine wpAnyH_ready (rs := [9]) (by kernel_rfl) (by simp) ?_
                refine AllReadyH.cons rfl (fun K hK => ?_) ?_
                · refine step_app rfl (.tmp 44) (.tmp 50) 41 rfl 3 i0 _ 8 Tryd.underlying41 hi0 hz0 hz1 hz2 rfl HS.out 0 (by rfl) (by rfl) a q.length c (icells q) (by rfl) (icells_length q) (HN.out _ _ HS.out) (icells_one _) H63a.out (Nat.le_refl 8) ?_
                  intro v_a9 w4 hs
                  replace HS := hid hs.norm0
                  clear hs
                  refine hK.out _ _ trivial (fun _ => ?_)
                  clear hK K
                  try simp only [Act.put, List.setIfInBounds_toArray]
                  refine wpAnyH_ready (rs := [12]) (by kernel_rfl) (by simp) ?_
                  refine AllReadyH.cons rfl (fun K hK => ?_) ?_
                  · refine step_app rfl (.tmp 51) (.tmp 53) 41 rfl 3 i0 _ 8 Tryd.underlying41 hi0 hz0 hz1 hz2 rfl HS.out 0 (by rfl) (by rfl) _ 1 1 (icells [tx]) (by rfl) rfl (S.news_sl HS.out 1 (by rfl)) (icells_one _) H63b.out (Nat.le_refl 8) ?_
                    intro v_a12 w5 hs
                    replace HS := hid hs
                    clear hs
                    refine hK.out _ _ trivial (fun _ => ?_)
                    clear hK K
                    try simp only [Act.put]
                    obtain ⟨aN, cN, rfl, _, _, _⟩ := HS.out.sl_val
                    refine wpAnyH_take (i := 15) (v := ?_) rfl (by kernel_rfl) (by kernel_rfl) (by kernel_rfl) (fun _ _ _ h => h) (Or.inl ⟨by rfl, ?_⟩) trivial ?_
                    rotate_left
                    · (intro w hSw; (try dsimp only at hSw); go_simp) <;> with_reducible rfl
                    try simp only [Act.put]
                    refine wpAnyH_ready (rs := [16]) (by kernel_rfl) (by simp) ?_
                    refine AllReadyH.cons rfl (fun K hK => ?_) ?_
                    · have q := (KP.out _ _ HS.out).1
                      have q2 := (KP.out _ _ HS.out).2
                      go_simp
                      refine hK.out _ _ trivial (fun _ => ?_)
                      clear hK K q q2
                      refine wpAnyH_done (by kernel_rfl) ?_ _
                      go_wp2_with fail
                      go_meet
                      exact HFIN.out _ _ _ (S.headTwo HS.out)
                    exact AllReadyH.nil
                  exact AllReadyH.nil
                exact AllReadyH.nil
              exact AllReadyH.nil
            refine AllReadyH.cons rfl (fun K hK => ?_) ?_
            · have q := (KP.out _ _ HS.out).1
              go_simp
              refine hK.out _ _ trivial (fun _ => ?_)
              clear hK K q
              refine wpAnyH_ready (rs := [2]) (by kernel_rfl) (by simp) ?_
              refine AllReadyH.cons rfl (fun K hK => ?_) ?_
              · go_simp
                replace HS := hid (HS.out.alloc_sl (e := 3) [] _ rfl nil_max)
                refine hK.out _ _ trivial (fun _ => ?_)
                clear hK K
                generalize w2.heap.size = b2 at HS ⊢
                generalize World.alloc w2 _ = w3 at HS ⊢
                refine wpAnyH_ready (rs := [9]) (by kernel_rfl) (by simp) ?_
                refine AllReadyH.cons rfl (fun K hK => ?_) ?_
                · refine step_app rfl (.tmp 44) (.tmp 50) 41 rfl 3 i0 _ 8 Tryd.underlying41 hi0 hz0 hz1 hz2 rfl HS.out 0 (by rfl) (by rfl) a q.length c (icells q) (by rfl) (icells_length q) (HN.out _ _ HS.out) (icells_one _) H63a.out (Nat.le_refl 8) ?_
                  intro v_a9 w4 hs
                  replace HS := hid hs.norm0
                  clear hs
                  refine hK.out _ _ trivial (fun _ => ?_)
                  clear hK K
                  try simp only [Act.put, List.setIfInBounds_toArray]
                  refine wpAnyH_ready (rs := [12]) (by kernel_rfl) (by simp) ?_
                  refine AllReadyH.cons rfl (fun K hK => ?_) ?_
                  · refine step_app rfl (.tmp 51) (.tmp 53) 41 rfl 3 i0 _ 8 Tryd.underlying41 hi0 hz0 hz1 hz2 rfl HS.out 0 (by rfl) (by rfl) _ 1 1 (icells [tx]) (by rfl) rfl (S.news_sl HS.out 1 (by rfl)) (icells_one _) H63b.out (Nat.le_refl 8) ?_
                    intro v_a12 w5 hs
                    replace HS := hid hs
                    clear hs
                    refine hK.out _ _ trivial (fun _ => ?_)
                    clear hK K
                    try simp only [Act.put]
                    obtain ⟨aN, cN, rfl, _, _, _⟩ := HS.out.sl_val
                    refine wpAnyH_take (i := 15) (v := ?_) rfl (by kernel_rfl) (by kernel_rfl) (by kernel_rfl) (fun _ _ _ h => h) (Or.inl ⟨by rfl, ?_⟩) trivial ?_
                    rotate_left
                    · (intro w hSw; (try dsimp only at hSw); go_simp) <;> with_reducible rfl
                    try simp only [Act.put]
                    refine wpAnyH_ready (rs := [16]) (by kernel_rfl) (by simp) ?_
                    refine AllReadyH.cons rfl (fun K hK => ?_) ?_
                    · have q := (KP.out _ _ HS.out).1
                      have q2 := (KP.out _ _ HS.out).2
                      go_simp
                      refine hK.out _ _ trivial (fun _ => ?_)
                      clear hK K q q2
                      refine wpAnyH_done (by kernel_rfl) ?_ _
                      go_wp2_with fail
                      go_meet
                      exact HFIN.out _ _ _ (S.headTwo HS.out)
                    exact AllReadyH.nil
                  exact AllReadyH.nil
                exact AllReadyH.nil
              exact AllReadyH.nil
            exact AllReadyH.nil
          exact AllReadyH.nil
        case rest =>
        have H9 := hid hcut
        clear hcut
        go_wp2_with fail
        go_ret2
        exact ⟨by rw [HR.out]; rfl, by rw [HR.out]; exact H9.out⟩
  · have hb : decide ((0 : Int) ≤ key ∧ key ≤ 9) = false := decide_eq_false hk
    have hr : raskT Qs tx key cc = (Qs, false, 2) := by unfold raskT; rw [if_pos (by omega)]
    have HR := hid hr
    clear hr hk
    go_enter Tryd.func40, Tryd.ntmps40
    go_wp2_with (first | (go_at_call 65; with_reducible refine (in_any _ _ _ _).mono ?_; rw [hb]; rintro e w' ⟨rfl, rfl⟩) | (go_at_call 42; with_reducible refine (rwaits_any w0 _ b kv Qs _ L H.out HN0.out).mono ?_; rintro e w' ⟨rfl, rfl⟩) | (go_at_call 43; with_reducible refine (rholds_any w0 _ b kv Qs _ L H.out).mono ?_; rintro e w' ⟨rfl, rfl⟩))
    go_ret2
    exact ⟨by rw [HR.out]; rfl, by rw [HR.out]; exact HP.out⟩
end Go.Proofs.YtbcoddibdipjkaaDoor
