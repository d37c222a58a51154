/- The closure try of OrderFair: the search for a line that fits. -/
import Derived.Test.YtbcoddibdipjkaaDoorFairT0
import Derived.Deep.DeepCutAuto
import Derived.Deep.CutBlock
namespace Go.Proofs.YtbcoddibdipjkaaDoor
open Go Go.RowKit Go.Sep

set_option maxRecDepth 40000 in
set_option maxHeartbeats 80000000 in
theorem try_any (bx bf bt tf tt : Nat) (es : List (Int × Int)) (hbe : es.length ≤ 1000000) (w0 : World) : ∀ (n : Nat) (w : World) (vd vl : Value) (done left : List Int) (L : List HProp), left.length ≤ n → done.length + left.length ≤ 100 →
    S w0 w (tryB bx bf bt tf tt es :: sl 3 1 vd done.length (icells done) :: sl 3 1 vl left.length (icells left) :: L) →
    Calls Tryd.prog 28 #[vd, vl, .pointer (some ⟨bf, 0, none⟩), .pointer (some ⟨bt, 0, none⟩)] w fun e w' => ∃ b, e = .returned (.bool b) ∧ (b = true → ∃ p : List Int, p.Perm left ∧ fitsB es (done ++ p) = true) ∧
      S w0 w' (tryB bx bf bt tf tt es :: sl 3 1 vd done.length (icells done) :: sl 3 1 vl left.length (icells left) :: L) := by
  intro n
  induction n with
  | zero =>
    intro w vd vl done left L hl hb hs
    obtain rfl : left = [] := List.eq_nil_of_length_eq_zero (by omega)
    exact try_nil bx bf bt tf tt es hbe w0 w vd vl done L (by simp at hb; omega) hs
  | succ n IH =>
    intro w vd vl done left L hl hb hs
    by_cases hl0 : left = []
    · subst hl0
      exact try_nil bx bf bt tf tt es hbe w0 w vd vl done L (by simp at hb; omega) hs
    · have hlp : 0 < left.length := List.length_pos_iff.2 hl0
      obtain ⟨ad, cd, rfl, hcd, hcd2, _⟩ := hs.swap.sl_val
      obtain ⟨gl, ol, cl, rfl, hcl, hcl2, _, hglt, _⟩ := hs.rot3.sl_some (by rw [icells_length]; exact hlp)
      unfold maxLen at hcd2 hcl2
      have hlb0 : ((left.length : Int) == 0) = false := by simp only [beq_eq_false_iff_ne, ne_eq]; omega
      have H := hid hs
      clear hs
      go_enter Tryd.func28, Tryd.ntmps28
      go_wp2_with fail
      go_loopw [7] (fun iv wr => ∃ i : Nat, i ≤ left.length ∧ iv = .int .i64 i ∧ S w0 wr (tryB bx bf bt tf tt es :: sl 3 1 (.slice ad done.length cd) done.length (icells done) :: sl 3 1 (.slice (some ⟨gl, ol, none⟩) left.length cl) left.length (icells left) :: L)) (fun iv _ => left.length - (intOf iv).toNat)
      case atStart => exact ⟨0, Nat.zero_le _, rfl, H.out⟩
      case round =>
        rename World => wr
        obtain ⟨i, hi, rfl, hsr⟩ := hrel
        clear H
        by_cases hlt : i < left.length
        · have hp : left[i]? = some left[i] := by simp [hlt]
          generalize left[i] = x at hp
          obtain ⟨g', o', hg', hgl', d0⟩ := hsr.rot3.sl_int hp
          obtain ⟨rfl, rfl⟩ : gl = g' ∧ ol = o' := by simpa using hg'
          have cbt := hsr.try_parts.rot3.blk_cell 0 rfl
          have hbt := hsr.try_parts.rot3.blk_lt
          have hn1 := news_old (w := wr) (ad := ad) (xs := icells done) fun j u hj => by
            obtain ⟨g2, o2, c2, hv2, _, _, _, hlt2, hc2, _⟩ := hsr.swap.sl_some (by have := (List.getElem?_eq_some_iff.1 hj).1; omega)
            simp only [Value.slice.injEq] at hv2
            exact ⟨g2, o2, hv2.1, hlt2, hc2 j u hj⟩
          have hleft : ∀ j u, (icells left)[j]? = some u → wr.cell? ⟨gl, ol + j, none⟩ = some u := fun j u hj => by
            obtain ⟨g2, o2, c2, hv2, _, _, _, hlt2, hc2, _⟩ := hsr.rot3.sl_some (by rw [icells_length]; omega)
            simp only [Value.slice.injEq, Option.some.injEq, Addr.mk.injEq] at hv2
            obtain ⟨⟨rfl, rfl, -⟩, -⟩ := hv2
            exact hc2 j u hj
          have hn3 := news_old (w := wr) (ad := some ⟨gl, ol, none⟩) (xs := icells (left.take i)) fun j u hj => by
            refine ⟨gl, ol, rfl, hgl', hleft j u ?_⟩
            have hji := (List.getElem?_eq_some_iff.1 hj).1
            rw [icells_length, List.length_take] at hji
            unfold icells at hj ⊢
            rw [List.getElem?_map, List.getElem?_take, if_pos (by omega)] at hj
            rw [List.getElem?_map]; exact hj
          obtain ⟨A4, hA4⟩ : ∃ A4 : Option Addr, (if cl = i + 1 then some (⟨gl, ol, none⟩ : Addr) else some ⟨gl, ol + (i + 1), none⟩) = A4 := ⟨_, rfl⟩
          have hn4 := news_old (w := wr) (ad := A4) (xs := icells (left.drop (i + 1))) fun j u hj => by
            have hji := (List.getElem?_eq_some_iff.1 hj).1
            rw [icells_length, List.length_drop] at hji
            rw [if_neg (by omega)] at hA4
            refine ⟨gl, ol + (i + 1), hA4.symm, hgl', ?_⟩
            rw [Nat.add_assoc]
            refine hleft _ _ ?_
            unfold icells at hj ⊢
            rw [List.getElem?_map, List.getElem?_drop] at hj
            rw [List.getElem?_map]; exact hj
          have hl3 : (icells (left.take i)).length = i := by rw [icells_length, List.length_take]; omega
          have hl4 : (icells (left.drop (i + 1))).length = left.length - (i + 1) := by rw [icells_length, List.length_drop]
          have hln : (left.take i ++ left.drop (i + 1)).length ≤ n := by rw [List.length_append, List.length_take, List.length_drop]; omega
          have hlb : (done ++ [x]).length + (left.take i ++ left.drop (i + 1)).length ≤ 100 := by simp only [List.length_append, List.length_take, List.length_drop, List.length_singleton]; omega
          have hcv : ∀ v9 v19 : Value, all ([sl 3 1 v19 (i + (left.length - (i + 1))) (icells (left.take i) ++ icells (left.drop (i + 1))), sl 3 1 v9 (done.length + 1) (icells done ++ icells [x])] ++ (tryB bx bf bt tf tt es :: sl 3 1 (.slice ad done.length cd) done.length (icells done) :: sl 3 1 (.slice (some ⟨gl, ol, none⟩) left.length cl) left.length (icells left) :: L)) =
              all (tryB bx bf bt tf tt es :: sl 3 1 v9 (done ++ [x]).length (icells (done ++ [x])) :: sl 3 1 v19 (left.take i ++ left.drop (i + 1)).length (icells (left.take i ++ left.drop (i + 1))) :: sl 3 1 (.slice ad done.length cd) done.length (icells done) :: sl 3 1 (.slice (some ⟨gl, ol, none⟩) left.length cl) left.length (icells left) :: L) := by
            intro v9 v19
            rw [icells_append, icells_append, List.length_append, List.length_append, List.length_take, List.length_drop, Nat.min_eq_left (by omega)]
            simp only [List.cons_append, List.nil_append, all, List.length_singleton]
            ac_rfl
          have hjn : ∀ (v9 v19 : Value) (W : World), S wr W [sl 3 1 v19 (i + (left.length - (i + 1))) (icells (left.take i) ++ icells (left.drop (i + 1))), sl 3 1 v9 (done.length + 1) (icells done ++ icells [x])] →
              S w0 W (tryB bx bf bt tf tt es :: sl 3 1 v9 (done ++ [x]).length (icells (done ++ [x])) :: sl 3 1 v19 (left.take i ++ left.drop (i + 1)).length (icells (left.take i ++ left.drop (i + 1))) :: sl 3 1 (.slice ad done.length cd) done.length (icells done) :: sl 3 1 (.slice (some ⟨gl, ol, none⟩) left.length cl) left.length (icells left) :: L) :=
            fun v9 v19 W h => (hsr.join h).conv (hcv v9 v19)
          have HJ := hid hjn
          have hkp : ∀ (W : World) (M : List HProp), S wr W M → W.cell? ⟨bt, 0, none⟩ = some (tryF bf bt) ∧ W.cell? ⟨gl, ol + i, none⟩ = some (.int .i64 x) := fun W M h => ⟨(h.1.cell (p := ⟨bt, 0, none⟩) hbt).trans cbt, (h.1.cell (p := ⟨gl, ol + i, none⟩) hgl').trans d0⟩
          have KP := hid hkp
          have HP0 := hid hp
          have hbk : ∀ (v9 v19 : Value) (W : World), S w0 W (tryB bx bf bt tf tt es :: sl 3 1 v9 (done ++ [x]).length (icells (done ++ [x])) :: sl 3 1 v19 (left.take i ++ left.drop (i + 1)).length (icells (left.take i ++ left.drop (i + 1))) :: sl 3 1 (.slice ad done.length cd) done.length (icells done) :: sl 3 1 (.slice (some ⟨gl, ol, none⟩) left.length cl) left.length (icells left) :: L) →
              S w0 W (tryB bx bf bt tf tt es :: sl 3 1 (.slice ad done.length cd) done.length (icells done) :: sl 3 1 (.slice (some ⟨gl, ol, none⟩) left.length cl) left.length (icells left) :: L) := fun v9 v19 W h =>
            (h.conv (M := sl 3 1 v9 (done ++ [x]).length (icells (done ++ [x])) :: sl 3 1 v19 (left.take i ++ left.drop (i + 1)).length (icells (left.take i ++ left.drop (i + 1))) :: tryB bx bf bt tf tt es :: sl 3 1 (.slice ad done.length cd) done.length (icells done) :: sl 3 1 (.slice (some ⟨gl, ol, none⟩) left.length cl) left.length (icells left) :: L) (by simp only [all]; ac_rfl)).tail.tail
          have hkx : ∀ W : World, S w0 W (tryB bx bf bt tf tt es :: sl 3 1 (.slice ad done.length cd) done.length (icells done) :: sl 3 1 (.slice (some ⟨gl, ol, none⟩) left.length cl) left.length (icells left) :: L) →
              W.cell? ⟨bt, 0, none⟩ = some (tryF bf bt) ∧ W.cell? ⟨gl, ol + i, none⟩ = some (.int .i64 x) := fun W h => ⟨h.try_parts.rot3.blk_cell 0 rfl, by
            obtain ⟨_, _, hge, _, hce⟩ := h.rot3.sl_int HP0.out
            simp only [Option.some.injEq, Addr.mk.injEq] at hge
            obtain ⟨rfl, rfl, -⟩ := hge
            exact hce⟩
          have HBK := hid hbk; have HKX := hid hkx
          clear hjn hkp hbk hkx
          obtain ⟨i0, hi0, hz0, hz1, hz2⟩ := info_parts Tryd.info3
          have HS0 := hid (S.start wr)
          have H63a : Hid (0 + done.length ≤ 1000000) := hid (by omega)
          have H63b : Hid (done.length + 1 ≤ 1000000) := hid (by omega)
          have H63c : Hid (0 + i ≤ 1000000) := hid (by omega)
          have H63d : Hid (i + (left.length - (i + 1)) ≤ 1000000) := hid (by omega)
          have HN1 := hid hn1; have HN3 := hid hn3; have HN4 := hid hn4; have HL3 := hid hl3; have HL4 := hid hl4; have HLN := hid hln; have HLB := hid hlb; have HCV := hid hcv
          have HBT := hid hbt; have HGL := hid hgl'; have HSR := hid hsr; have HP := hid hp
          clear hn1 hn3 hn4 hl3 hl4 hln hlb hcv hbt hgl' hsr hp hleft hg'
          go_wp2_with fail
          have hwr1 : IntKind.i64.wrap ((i : Int) + 1) = (i : Int) + 1 := IntWalk.i64_in _ (by omega)
          have hb1 : (0 : Int) ≤ (i : Int) := by omega
          have hb2 : (i : Int) ≤ (cl : Int) := by omega
          have hb3 : (0 : Int) ≤ (i : Int) + 1 := by omega
          have hb4 : (i : Int) + 1 ≤ (left.length : Int) := by omega
          have hb5 : i ≤ cl := by omega
          have hb6 : i + 1 ≤ left.length := by omega
          --R0
          go_cut [40] (fun s40 wx => ∃ b, s40 = .bool b ∧ Hid (b = true → ∃ p : List Int, p.Perm (left.take i ++ left.drop (i + 1)) ∧ fitsB es (done ++ [x] ++ p) = true) ∧ S w0 wx (tryB bx bf bt tf tt es :: sl 3 1 (.slice ad done.length cd) done.length (icells done) :: sl 3 1 (.slice (some ⟨gl, ol, none⟩) left.length cl) left.length (icells left) :: L))
          case first =>
            refine wp_region_held_drew (S := fun w' => w'.cell? ⟨bt, 0, none⟩ = some (tryF bf bt) ∧ w'.cell? ⟨gl, ol + i, none⟩ = some (.int .i64 x)) (by kernel_rfl) (KP.out _ _ HS0.out.drew) (fun hHeld => ?_)
            refine wpAnyH_take (i := 0) (v := ?_) rfl (by kernel_rfl) (by kernel_rfl) (by kernel_rfl) (fun _ _ _ h => h) (Or.inl ⟨by rfl, ?_⟩) hHeld ?_
            rotate_left
            · (intro w hSw; (try dsimp only at hSw); go_simp) <;> with_reducible rfl
            try simp only [Act.put, List.setIfInBounds_toArray]
            refine wpAnyH_take (i := 2) (v := ?_) rfl (by kernel_rfl) (by kernel_rfl) (by kernel_rfl) (fun _ _ _ h => h) (Or.inl ⟨by rfl, ?_⟩) hHeld ?_
            rotate_left
            · (intro w hSw; (try dsimp only at hSw); go_simp) <;> with_reducible rfl
            try simp only [Act.put]
            refine wpAnyH_take (i := 4) (v := ?_) rfl (by kernel_rfl) (by kernel_rfl) (by kernel_rfl) (fun _ _ _ h => h) (Or.inl ⟨by rfl, ?_⟩) hHeld ?_
            rotate_left
            · (intro w hSw; (try dsimp only at hSw); go_simp) <;> with_reducible rfl
            try simp only [Act.put]
            refine wpAnyH_take (i := 5) (v := ?_) rfl (by kernel_rfl) (by kernel_rfl) (by kernel_rfl) (fun _ _ _ h => h) (Or.inl ⟨by rfl, ?_⟩) hHeld ?_
            rotate_left
            · (intro w hSw; (try dsimp only at hSw); go_simp) <;> with_reducible rfl
            try simp only [Act.put]
            refine wpAnyH_take (i := 6) (v := ?_) rfl (by kernel_rfl) (by kernel_rfl) (by kernel_rfl) (fun _ _ _ h => h) (Or.inl ⟨by rfl, ?_⟩) hHeld ?_
            rotate_left
            · (intro w hSw; (try dsimp only at hSw); go_simp) <;> with_reducible rfl
            try simp only [Act.put]
            refine wpAnyH_take (i := 7) (v := ?_) rfl (by kernel_rfl) (by kernel_rfl) (by kernel_rfl) (fun _ _ _ h => h) (Or.inl ⟨by rfl, ?_⟩) hHeld ?_
            rotate_left
            · (intro w hSw; (try dsimp only at hSw); go_simp) <;> with_reducible rfl
            try simp only [Act.put]
            refine wpAnyH_take (i := 11) (v := ?_) rfl (by kernel_rfl) (by kernel_rfl) (by kernel_rfl) (fun _ _ _ h => h) (Or.inl ⟨by rfl, ?_⟩) hHeld ?_
            rotate_left
            · (intro w hSw; (try dsimp only at hSw); go_simp) <;> with_reducible rfl
            try simp only [Act.put]
            refine wpAnyH_take (i := 12) (v := ?_) rfl (by kernel_rfl) (by kernel_rfl) (by kernel_rfl) (fun _ _ _ h => h) (Or.inl ⟨by rfl, ?_⟩) hHeld ?_
            rotate_left
            · (intro w hSw; (try dsimp only at hSw); go_simp) <;> with_reducible rfl
            try simp only [Act.put]
            refine wpAnyH_take (i := 13) (v := ?_) rfl (by kernel_rfl) (by kernel_rfl) (by kernel_rfl) (fun _ _ _ h => h) (Or.inl ⟨by rfl, ?_⟩) hHeld ?_
            rotate_left
            · (intro w hSw; (try dsimp only at hSw); go_simp) <;> with_reducible rfl
            try simp only [Act.put]
            refine wpAnyH_take (i := 15) (v := ?_) rfl (by kernel_rfl) (by kernel_rfl) (by kernel_rfl) (fun _ _ _ h => h) (Or.inl ⟨by rfl, ?_⟩) hHeld ?_
            rotate_left
            · (intro w hSw; (try dsimp only at hSw); go_simp) <;> with_reducible rfl
            try simp only [Act.put]
            refine wpAnyH_take (i := 16) (v := ?_) rfl (by kernel_rfl) (by kernel_rfl) (by kernel_rfl) (fun _ _ _ h => h) (Or.inl ⟨by rfl, ?_⟩) hHeld ?_
            rotate_left
            · (intro w hSw; (try dsimp only at hSw); go_simp) <;> with_reducible rfl
            try simp only [Act.put]
            refine wpAnyH_take (i := 17) (v := ?_) rfl (by kernel_rfl) (by kernel_rfl) (by kernel_rfl) (fun _ _ _ h => h) (Or.inl ⟨by rfl, ?_⟩) hHeld ?_
            rotate_left
            · (intro w hSw; (try dsimp only at hSw); go_simp) <;> with_reducible rfl
            try simp only [Act.put]
            refine wpAnyH_take (i := 18) (v := ?_) rfl (by kernel_rfl) (by kernel_rfl) (by kernel_rfl) (fun _ _ _ h => h) (Or.inl ⟨by rfl, ?_⟩) hHeld ?_
            rotate_left
            · (intro w hSw; (try dsimp only at hSw); go_simp) <;> with_reducible rfl
            try simp only [Act.put]
            have HS := hid HS0.out.drew
            clear hHeld
            generalize wr.drew = w1 at HS ⊢
            refine wpAnyH_ready (rs := [1, 8, 10]) (by kernel_rfl) (by simp) ?_
            refine AllReadyH.cons rfl (fun K hK => ?_) ?_
            · go_simp
              replace HS := hid (HS.out.alloc_sl (e := 3) [] _ rfl nil_max)
              refine hK.out _ _ (KP.out _ _ HS.out) (fun _ => ?_)
              clear hK K
              generalize w1.heap.size = b1 at HS ⊢
              generalize World.alloc w1 _ = w2 at HS ⊢
              refine wpAnyH_ready (rs := [3, 8, 10]) (by kernel_rfl) (by simp) ?_
              refine AllReadyH.cons rfl (fun K hK => ?_) ?_
              · refine step_app rfl (.tmp 21) (.tmp 22) 41 rfl 3 i0 _ 8 Tryd.underlying41 hi0 hz0 hz1 hz2 rfl HS.out 0 (by rfl) (by rfl) ad done.length cd (icells done) (by rfl) (icells_length done) (HN1.out _ _ HS.out) (icells_one _) H63a.out (Nat.le_refl 8) ?_
                intro v3 w3 hs
                replace HS := hid hs.norm0
                clear hs
                refine hK.out _ _ (KP.out _ _ HS.out) (fun _ => ?_)
                clear hK K
                try simp only [Act.put, List.setIfInBounds_toArray]
                refine wpAnyH_ready (rs := [8, 10]) (by kernel_rfl) (by simp) ?_
                refine AllReadyH.cons rfl (fun K hK => ?_) ?_
                · go_simp
                  replace HS := hid (HS.out.alloc_sl (e := 3) [.int .i64 x] _ rfl (one_max x))
                  refine hK.out _ _ (KP.out _ _ HS.out) (fun _ => ?_)
                  clear hK K
                  generalize w3.heap.size = b8 at HS ⊢
                  generalize World.alloc w3 _ = w4 at HS ⊢
                  refine wpAnyH_ready (rs := [9, 10]) (by kernel_rfl) (by simp) ?_
                  refine AllReadyH.cons rfl (fun K hK => ?_) ?_
                  · refine step_app rfl (.tmp 23) (.tmp 28) 41 rfl 3 i0 _ 8 Tryd.underlying41 hi0 hz0 hz1 hz2 rfl HS.out 1 (by rfl) (by rfl) _ 1 1 (icells [x]) (by rfl) rfl (S.news_sl HS.out 0 (by rfl)) (icells_one _) H63b.out (Nat.le_refl 8) ?_
                    intro v9 w5 hs
                    replace HS := hid hs
                    clear hs
                    refine hK.out _ _ (KP.out _ _ HS.out) (fun _ => ?_)
                    clear hK K
                    try simp only [Act.put, List.setIfInBounds_toArray]
                    refine wpAnyH_ready (rs := [10]) (by kernel_rfl) (by simp) ?_
                    refine AllReadyH.cons rfl (fun K hK => ?_) ?_
                    · go_simp
                      replace HS := hid (HS.out.alloc_sl (e := 3) [] _ rfl nil_max)
                      refine hK.out _ _ (KP.out _ _ HS.out) (fun _ => ?_)
                      clear hK K
                      generalize w5.heap.size = b10 at HS ⊢
                      generalize World.alloc w5 _ = w6 at HS ⊢
                      refine wpAnyH_ready (rs := [14]) (by kernel_rfl) (by simp) ?_
                      refine AllReadyH.cons rfl (fun K hK => ?_) ?_
                      · refine step_app rfl (.tmp 30) (.tmp 33) 41 rfl 3 i0 _ 8 Tryd.underlying41 hi0 hz0 hz1 hz2 rfl HS.out 0 (by rfl) (by rfl) (some ⟨gl, ol, none⟩) i cl (icells (left.take i)) (by rfl) HL3.out (HN3.out _ _ HS.out) (icells_one _) H63c.out (Nat.le_refl 8) ?_
                        intro v14 w7 hs
                        replace HS := hid hs.norm0
                        clear hs
                        refine hK.out _ _ (KP.out _ _ HS.out) (fun _ => ?_)
                        clear hK K
                        try simp only [Act.put, List.setIfInBounds_toArray]
                        refine wpAnyH_ready (rs := [19]) (by kernel_rfl) (by simp) ?_
                        refine AllReadyH.cons rfl (fun K hK => ?_) ?_
                        · refine step_app rfl (.tmp 34) (.tmp 38) 41 rfl 3 i0 _ 8 Tryd.underlying41 hi0 hz0 hz1 hz2 rfl HS.out 0 (by rfl) (by rfl) A4 (left.length - (i + 1)) (cl - (i + 1)) (icells (left.drop (i + 1))) (by rfl) HL4.out (HN4.out _ _ HS.out) (icells_one _) H63d.out (Nat.le_refl 8) ?_
                          intro v19 w8 hs
                          replace HS := hid hs
                          clear hs
                          refine hK.out _ _ (KP.out _ _ HS.out) (fun _ => ?_)
                          clear hK K
                          try simp only [Act.put]
                          refine wpAnyH_ready (rs := [20]) (by kernel_rfl) (by simp) ?_
                          refine AllReadyH.cons rfl (fun K hK => ?_) ?_
                          · go_simp
                            go_wp2_with (go_at_call 28; with_reducible refine (IH _ _ _ (done ++ [x]) (left.take i ++ left.drop (i + 1)) _ HLN.out HLB.out (HJ.out _ _ _ (S.headTwo HS.out))).mono ?_; rintro e w' ⟨b, rfl, himp, hs'⟩; have HX := hid (HBK.out _ _ _ hs'); have HI := hid himp; clear hs' himp)
                            refine hK.out _ _ (HKX.out _ HX.out) (fun _ => ?_)
                            clear hK K
                            refine wpAnyH_done (by kernel_rfl) ?_ _
                            go_wp2_with fail
                            go_meet
                            exact ⟨b, rfl, HI, HX.out⟩
                          exact AllReadyH.nil
                        exact AllReadyH.nil
                      exact AllReadyH.nil
                    exact AllReadyH.nil
                  refine AllReadyH.cons rfl (fun K hK => ?_) ?_
                  · go_simp
                    replace HS := hid (HS.out.alloc_sl (e := 3) [] _ rfl nil_max)
                    refine hK.out _ _ (KP.out _ _ HS.out) (fun _ => ?_)
                    clear hK K
                    generalize w4.heap.size = b10 at HS ⊢
                    generalize World.alloc w4 _ = w5 at HS ⊢
                    refine wpAnyH_ready (rs := [9]) (by kernel_rfl) (by simp) ?_
                    refine AllReadyH.cons rfl (fun K hK => ?_) ?_
                    · refine step_app rfl (.tmp 23) (.tmp 28) 41 rfl 3 i0 _ 8 Tryd.underlying41 hi0 hz0 hz1 hz2 rfl HS.out 2 (by rfl) (by rfl) _ 1 1 (icells [x]) (by rfl) rfl (S.news_sl HS.out 1 (by rfl)) (icells_one _) H63b.out (Nat.le_refl 8) ?_
                      intro v9 w6 hs
                      replace HS := hid hs
                      clear hs
                      refine hK.out _ _ (KP.out _ _ HS.out) (fun _ => ?_)
                      clear hK K
                      try simp only [Act.put, List.setIfInBounds_toArray]
                      refine wpAnyH_ready (rs := [14]) (by kernel_rfl) (by simp) ?_
                      refine AllReadyH.cons rfl (fun K hK => ?_) ?_
                      · refine step_app rfl (.tmp 30) (.tmp 33) 41 rfl 3 i0 _ 8 Tryd.underlying41 hi0 hz0 hz1 hz2 rfl HS.out 1 (by rfl) (by rfl) (some ⟨gl, ol, none⟩) i cl (icells (left.take i)) (by rfl) HL3.out (HN3.out _ _ HS.out) (icells_one _) H63c.out (Nat.le_refl 8) ?_
                        intro v14 w7 hs
                        replace HS := hid hs.norm0
                        clear hs
                        refine hK.out _ _ (KP.out _ _ HS.out) (fun _ => ?_)
                        clear hK K
                        try simp only [Act.put]
                        refine wpAnyH_ready (rs := [19]) (by kernel_rfl) (by simp) ?_
                        refine AllReadyH.cons rfl (fun K hK => ?_) ?_
                        · refine step_app rfl (.tmp 34) (.tmp 38) 41 rfl 3 i0 _ 8 Tryd.underlying41 hi0 hz0 hz1 hz2 rfl HS.out 0 (by rfl) (by rfl) A4 (left.length - (i + 1)) (cl - (i + 1)) (icells (left.drop (i + 1))) (by rfl) HL4.out (HN4.out _ _ HS.out) (icells_one _) H63d.out (Nat.le_refl 8) ?_
                          intro v19 w8 hs
                          replace HS := hid hs
                          clear hs
                          refine hK.out _ _ (KP.out _ _ HS.out) (fun _ => ?_)
                          clear hK K
                          try simp only [Act.put]
                          refine wpAnyH_ready (rs := [20]) (by kernel_rfl) (by simp) ?_
                          refine AllReadyH.cons rfl (fun K hK => ?_) ?_
                          · go_simp
                            go_wp2_with (go_at_call 28; with_reducible refine (IH _ _ _ (done ++ [x]) (left.take i ++ left.drop (i + 1)) _ HLN.out HLB.out (HJ.out _ _ _ (S.headTwo HS.out))).mono ?_; rintro e w' ⟨b, rfl, himp, hs'⟩; have HX := hid (HBK.out _ _ _ hs'); have HI := hid himp; clear hs' himp)
                            refine hK.out _ _ (HKX.out _ HX.out) (fun _ => ?_)
                            clear hK K
                            refine wpAnyH_done (by kernel_rfl) ?_ _
                            go_wp2_with fail
                            go_meet
                            exact ⟨b, rfl, HI, HX.out⟩
                          exact AllReadyH.nil
                        exact AllReadyH.nil
                      exact AllReadyH.nil
                    exact AllReadyH.nil
                  exact AllReadyH.nil
                refine AllReadyH.cons rfl (fun K hK => ?_) ?_
                · go_simp
                  replace HS := hid (HS.out.alloc_sl (e := 3) [] _ rfl nil_max)
                  refine hK.out _ _ (KP.out _ _ HS.out) (fun _ => ?_)
                  clear hK K
                  generalize w3.heap.size = b10 at HS ⊢
                  generalize World.alloc w3 _ = w4 at HS ⊢
                  refine wpAnyH_ready (rs := [8]) (by kernel_rfl) (by simp) ?_
                  refine AllReadyH.cons rfl (fun K hK => ?_) ?_
                  · go_simp
                    replace HS := hid (HS.out.alloc_sl (e := 3) [.int .i64 x] _ rfl (one_max x))
                    refine hK.out _ _ (KP.out _ _ HS.out) (fun _ => ?_)
                    clear hK K
                    generalize w4.heap.size = b8 at HS ⊢
                    generalize World.alloc w4 _ = w5 at HS ⊢
                    refine wpAnyH_ready (rs := [9]) (by kernel_rfl) (by simp) ?_
                    refine AllReadyH.cons rfl (fun K hK => ?_) ?_
                    · refine step_app rfl (.tmp 23) (.tmp 28) 41 rfl 3 i0 _ 8 Tryd.underlying41 hi0 hz0 hz1 hz2 rfl HS.out 2 (by rfl) (by rfl) _ 1 1 (icells [x]) (by rfl) rfl (S.news_sl HS.out 0 (by rfl)) (icells_one _) H63b.out (Nat.le_refl 8) ?_
                      intro v9 w6 hs
                      replace HS := hid hs
                      clear hs
                      refine hK.out _ _ (KP.out _ _ HS.out) (fun _ => ?_)
                      clear hK K
                      try simp only [Act.put, List.setIfInBounds_toArray]
                      refine wpAnyH_ready (rs := [14]) (by kernel_rfl) (by simp) ?_
                      refine AllReadyH.cons rfl (fun K hK => ?_) ?_
                      · refine step_app rfl (.tmp 30) (.tmp 33) 41 rfl 3 i0 _ 8 Tryd.underlying41 hi0 hz0 hz1 hz2 rfl HS.out 2 (by rfl) (by rfl) (some ⟨gl, ol, none⟩) i cl (icells (left.take i)) (by rfl) HL3.out (HN3.out _ _ HS.out) (icells_one _) H63c.out (Nat.le_refl 8) ?_
                        intro v14 w7 hs
                        replace HS := hid hs.norm0
                        clear hs
                        refine hK.out _ _ (KP.out _ _ HS.out) (fun _ => ?_)
                        clear hK K
                        try simp only [Act.put]
                        refine wpAnyH_ready (rs := [19]) (by kernel_rfl) (by simp) ?_
                        refine AllReadyH.cons rfl (fun K hK => ?_) ?_
                        · refine step_app rfl (.tmp 34) (.tmp 38) 41 rfl 3 i0 _ 8 Tryd.underlying41 hi0 hz0 hz1 hz2 rfl HS.out 0 (by rfl) (by rfl) A4 (left.length - (i + 1)) (cl - (i + 1)) (icells (left.drop (i + 1))) (by rfl) HL4.out (HN4.out _ _ HS.out) (icells_one _) H63d.out (Nat.le_refl 8) ?_
                          intro v19 w8 hs
                          replace HS := hid hs
                          clear hs
                          refine hK.out _ _ (KP.out _ _ HS.out) (fun _ => ?_)
                          clear hK K
                          try simp only [Act.put]
                          refine wpAnyH_ready (rs := [20]) (by kernel_rfl) (by simp) ?_
                          refine AllReadyH.cons rfl (fun K hK => ?_) ?_
                          · go_simp
                            go_wp2_with (go_at_call 28; with_reducible refine (IH _ _ _ (done ++ [x]) (left.take i ++ left.drop (i + 1)) _ HLN.out HLB.out (HJ.out _ _ _ (S.headTwo HS.out))).mono ?_; rintro e w' ⟨b, rfl, himp, hs'⟩; have HX := hid (HBK.out _ _ _ hs'); have HI := hid himp; clear hs' himp)
                            refine hK.out _ _ (HKX.out _ HX.out) (fun _ => ?_)
                            clear hK K
                            refine wpAnyH_done (by kernel_rfl) ?_ _
                            go_wp2_with fail
                            go_meet
                            exact ⟨b, rfl, HI, HX.out⟩
                          exact AllReadyH.nil
                        exact AllReadyH.nil
                      exact AllReadyH.nil
                    exact AllReadyH.nil
                  exact AllReadyH.nil
                exact AllReadyH.nil
              refine AllReadyH.cons rfl (fun K hK => ?_) ?_
              · go_simp
                replace HS := hid (HS.out.alloc_sl (e := 3) [.int .i64 x] _ rfl (one_max x))
                refine hK.out _ _ (KP.out _ _ HS.out) (fun _ => ?_)
                clear hK K
                generalize w2.heap.size = b8 at HS ⊢
                generalize World.alloc w2 _ = w3 at HS ⊢
                refine wpAnyH_ready (rs := [3, 10]) (by kernel_rfl) (by simp) ?_
                refine AllReadyH.cons rfl (fun K hK => ?_) ?_
                · refine step_app rfl (.tmp 21) (.tmp 22) 41 rfl 3 i0 _ 8 Tryd.underlying41 hi0 hz0 hz1 hz2 rfl HS.out 1 (by rfl) (by rfl) ad done.length cd (icells done) (by rfl) (icells_length done) (HN1.out _ _ HS.out) (icells_one _) H63a.out (Nat.le_refl 8) ?_
                  intro v3 w4 hs
                  replace HS := hid hs.norm0
                  clear hs
                  refine hK.out _ _ (KP.out _ _ HS.out) (fun _ => ?_)
                  clear hK K
                  try simp only [Act.put, List.setIfInBounds_toArray]
                  refine wpAnyH_ready (rs := [9, 10]) (by kernel_rfl) (by simp) ?_
                  refine AllReadyH.cons rfl (fun K hK => ?_) ?_
                  · refine step_app rfl (.tmp 23) (.tmp 28) 41 rfl 3 i0 _ 8 Tryd.underlying41 hi0 hz0 hz1 hz2 rfl HS.out 0 (by rfl) (by rfl) _ 1 1 (icells [x]) (by rfl) rfl (S.news_sl HS.out 1 (by rfl)) (icells_one _) H63b.out (Nat.le_refl 8) ?_
                    intro v9 w5 hs
                    replace HS := hid hs
                    clear hs
                    refine hK.out _ _ (KP.out _ _ HS.out) (fun _ => ?_)
                    clear hK K
                    try simp only [Act.put]
                    refine wpAnyH_ready (rs := [10]) (by kernel_rfl) (by simp) ?_
                    refine AllReadyH.cons rfl (fun K hK => ?_) ?_
                    · go_simp
                      replace HS := hid (HS.out.alloc_sl (e := 3) [] _ rfl nil_max)
                      refine hK.out _ _ (KP.out _ _ HS.out) (fun _ => ?_)
                      clear hK K
                      generalize w5.heap.size = b10 at HS ⊢
                      generalize World.alloc w5 _ = w6 at HS ⊢
                      refine wpAnyH_ready (rs := [14]) (by kernel_rfl) (by simp) ?_
                      refine AllReadyH.cons rfl (fun K hK => ?_) ?_
                      · refine step_app rfl (.tmp 30) (.tmp 33) 41 rfl 3 i0 _ 8 Tryd.underlying41 hi0 hz0 hz1 hz2 rfl HS.out 0 (by rfl) (by rfl) (some ⟨gl, ol, none⟩) i cl (icells (left.take i)) (by rfl) HL3.out (HN3.out _ _ HS.out) (icells_one _) H63c.out (Nat.le_refl 8) ?_
                        intro v14 w7 hs
                        replace HS := hid hs.norm0
                        clear hs
                        refine hK.out _ _ (KP.out _ _ HS.out) (fun _ => ?_)
                        clear hK K
                        try simp only [Act.put, List.setIfInBounds_toArray]
                        refine wpAnyH_ready (rs := [19]) (by kernel_rfl) (by simp) ?_
                        refine AllReadyH.cons rfl (fun K hK => ?_) ?_
                        · refine step_app rfl (.tmp 34) (.tmp 38) 41 rfl 3 i0 _ 8 Tryd.underlying41 hi0 hz0 hz1 hz2 rfl HS.out 0 (by rfl) (by rfl) A4 (left.length - (i + 1)) (cl - (i + 1)) (icells (left.drop (i + 1))) (by rfl) HL4.out (HN4.out _ _ HS.out) (icells_one _) H63d.out (Nat.le_refl 8) ?_
                          intro v19 w8 hs
                          replace HS := hid hs
                          clear hs
                          refine hK.out _ _ (KP.out _ _ HS.out) (fun _ => ?_)
                          clear hK K
                          try simp only [Act.put]
                          refine wpAnyH_ready (rs := [20]) (by kernel_rfl) (by simp) ?_
                          refine AllReadyH.cons rfl (fun K hK => ?_) ?_
                          · go_simp
                            go_wp2_with (go_at_call 28; with_reducible refine (IH _ _ _ (done ++ [x]) (left.take i ++ left.drop (i + 1)) _ HLN.out HLB.out (HJ.out _ _ _ (S.headTwo HS.out))).mono ?_; rintro e w' ⟨b, rfl, himp, hs'⟩; have HX := hid (HBK.out _ _ _ hs'); have HI := hid himp; clear hs' himp)
                            refine hK.out _ _ (HKX.out _ HX.out) (fun _ => ?_)
                            clear hK K
                            refine wpAnyH_done (by kernel_rfl) ?_ _
                            go_wp2_with fail
                            go_meet
                            exact ⟨b, rfl, HI, HX.out⟩
                          exact AllReadyH.nil
                        exact AllReadyH.nil
                      exact AllReadyH.nil
                    exact AllReadyH.nil
                  refine AllReadyH.cons rfl (fun K hK => ?_) ?_
                  · go_simp
                    replace HS := hid (HS.out.alloc_sl (e := 3) [] _ rfl nil_max)
                    refine hK.out _ _ (KP.out _ _ HS.out) (fun _ => ?_)
                    clear hK K
                    generalize w4.heap.size = b10 at HS ⊢
                    generalize World.alloc w4 _ = w5 at HS ⊢
                    refine wpAnyH_ready (rs := [9]) (by kernel_rfl) (by simp) ?_
                    refine AllReadyH.cons rfl (fun K hK => ?_) ?_
                    · refine step_app rfl (.tmp 23) (.tmp 28) 41 rfl 3 i0 _ 8 Tryd.underlying41 hi0 hz0 hz1 hz2 rfl HS.out 1 (by rfl) (by rfl) _ 1 1 (icells [x]) (by rfl) rfl (S.news_sl HS.out 2 (by rfl)) (icells_one _) H63b.out (Nat.le_refl 8) ?_
                      intro v9 w6 hs
                      replace HS := hid hs
                      clear hs
                      refine hK.out _ _ (KP.out _ _ HS.out) (fun _ => ?_)
                      clear hK K
                      try simp only [Act.put, List.setIfInBounds_toArray]
                      refine wpAnyH_ready (rs := [14]) (by kernel_rfl) (by simp) ?_
                      refine AllReadyH.cons rfl (fun K hK => ?_) ?_
                      · refine step_app rfl (.tmp 30) (.tmp 33) 41 rfl 3 i0 _ 8 Tryd.underlying41 hi0 hz0 hz1 hz2 rfl HS.out 1 (by rfl) (by rfl) (some ⟨gl, ol, none⟩) i cl (icells (left.take i)) (by rfl) HL3.out (HN3.out _ _ HS.out) (icells_one _) H63c.out (Nat.le_refl 8) ?_
                        intro v14 w7 hs
                        replace HS := hid hs.norm0
                        clear hs
                        refine hK.out _ _ (KP.out _ _ HS.out) (fun _ => ?_)
                        clear hK K
                        try simp only [Act.put]
                        refine wpAnyH_ready (rs := [19]) (by kernel_rfl) (by simp) ?_
                        refine AllReadyH.cons rfl (fun K hK => ?_) ?_
                        · refine step_app rfl (.tmp 34) (.tmp 38) 41 rfl 3 i0 _ 8 Tryd.underlying41 hi0 hz0 hz1 hz2 rfl HS.out 0 (by rfl) (by rfl) A4 (left.length - (i + 1)) (cl - (i + 1)) (icells (left.drop (i + 1))) (by rfl) HL4.out (HN4.out _ _ HS.out) (icells_one _) H63d.out (Nat.le_refl 8) ?_
                          intro v19 w8 hs
                          replace HS := hid hs
                          clear hs
                          refine hK.out _ _ (KP.out _ _ HS.out) (fun _ => ?_)
                          clear hK K
                          try simp only [Act.put]
                          refine wpAnyH_ready (rs := [20]) (by kernel_rfl) (by simp) ?_
                          refine AllReadyH.cons rfl (fun K hK => ?_) ?_
                          · go_simp
                            go_wp2_with (go_at_call 28; with_reducible refine (IH _ _ _ (done ++ [x]) (left.take i ++ left.drop (i + 1)) _ HLN.out HLB.out (HJ.out _ _ _ (S.headTwo HS.out))).mono ?_; rintro e w' ⟨b, rfl, himp, hs'⟩; have HX := hid (HBK.out _ _ _ hs'); have HI := hid himp; clear hs' himp)
                            refine hK.out _ _ (HKX.out _ HX.out) (fun _ => ?_)
                            clear hK K
                            refine wpAnyH_done (by kernel_rfl) ?_ _
                            go_wp2_with fail
                            go_meet
                            exact ⟨b, rfl, HI, HX.out⟩
                          exact AllReadyH.nil
                        exact AllReadyH.nil
                      exact AllReadyH.nil
                    exact AllReadyH.nil
                  exact AllReadyH.nil
                refine AllReadyH.cons rfl (fun K hK => ?_) ?_
                · go_simp
                  replace HS := hid (HS.out.alloc_sl (e := 3) [] _ rfl nil_max)
                  refine hK.out _ _ (KP.out _ _ HS.out) (fun _ => ?_)
                  clear hK K
                  generalize w3.heap.size = b10 at HS ⊢
                  generalize World.alloc w3 _ = w4 at HS ⊢
                  refine wpAnyH_ready (rs := [3]) (by kernel_rfl) (by simp) ?_
                  refine AllReadyH.cons rfl (fun K hK => ?_) ?_
                  · refine step_app rfl (.tmp 21) (.tmp 22) 41 rfl 3 i0 _ 8 Tryd.underlying41 hi0 hz0 hz1 hz2 rfl HS.out 2 (by rfl) (by rfl) ad done.length cd (icells done) (by rfl) (icells_length done) (HN1.out _ _ HS.out) (icells_one _) H63a.out (Nat.le_refl 8) ?_
                    intro v3 w5 hs
                    replace HS := hid hs.norm0
                    clear hs
                    refine hK.out _ _ (KP.out _ _ HS.out) (fun _ => ?_)
                    clear hK K
                    try simp only [Act.put, List.setIfInBounds_toArray]
                    refine wpAnyH_ready (rs := [9]) (by kernel_rfl) (by simp) ?_
                    refine AllReadyH.cons rfl (fun K hK => ?_) ?_
                    · refine step_app rfl (.tmp 23) (.tmp 28) 41 rfl 3 i0 _ 8 Tryd.underlying41 hi0 hz0 hz1 hz2 rfl HS.out 0 (by rfl) (by rfl) _ 1 1 (icells [x]) (by rfl) rfl (S.news_sl HS.out 2 (by rfl)) (icells_one _) H63b.out (Nat.le_refl 8) ?_
                      intro v9 w6 hs
                      replace HS := hid hs
                      clear hs
                      refine hK.out _ _ (KP.out _ _ HS.out) (fun _ => ?_)
                      clear hK K
                      try simp only [Act.put]
                      refine wpAnyH_ready (rs := [14]) (by kernel_rfl) (by simp) ?_
                      refine AllReadyH.cons rfl (fun K hK => ?_) ?_
                      · refine step_app rfl (.tmp 30) (.tmp 33) 41 rfl 3 i0 _ 8 Tryd.underlying41 hi0 hz0 hz1 hz2 rfl HS.out 1 (by rfl) (by rfl) (some ⟨gl, ol, none⟩) i cl (icells (left.take i)) (by rfl) HL3.out (HN3.out _ _ HS.out) (icells_one _) H63c.out (Nat.le_refl 8) ?_
                        intro v14 w7 hs
                        replace HS := hid hs.norm0
                        clear hs
                        refine hK.out _ _ (KP.out _ _ HS.out) (fun _ => ?_)
                        clear hK K
                        try simp only [Act.put]
                        refine wpAnyH_ready (rs := [19]) (by kernel_rfl) (by simp) ?_
                        refine AllReadyH.cons rfl (fun K hK => ?_) ?_
                        · refine step_app rfl (.tmp 34) (.tmp 38) 41 rfl 3 i0 _ 8 Tryd.underlying41 hi0 hz0 hz1 hz2 rfl HS.out 0 (by rfl) (by rfl) A4 (left.length - (i + 1)) (cl - (i + 1)) (icells (left.drop (i + 1))) (by rfl) HL4.out (HN4.out _ _ HS.out) (icells_one _) H63d.out (Nat.le_refl 8) ?_
                          intro v19 w8 hs
                          replace HS := hid hs
                          clear hs
                          refine hK.out _ _ (KP.out _ _ HS.out) (fun _ => ?_)
                          clear hK K
                          try simp only [Act.put]
                          refine wpAnyH_ready (rs := [20]) (by kernel_rfl) (by simp) ?_
                          refine AllReadyH.cons rfl (fun K hK => ?_) ?_
                          · go_simp
                            go_wp2_with (go_at_call 28; with_reducible refine (IH _ _ _ (done ++ [x]) (left.take i ++ left.drop (i + 1)) _ HLN.out HLB.out (HJ.out _ _ _ (S.headTwo HS.out))).mono ?_; rintro e w' ⟨b, rfl, himp, hs'⟩; have HX := hid (HBK.out _ _ _ hs'); have HI := hid himp; clear hs' himp)
                            refine hK.out _ _ (HKX.out _ HX.out) (fun _ => ?_)
                            clear hK K
                            refine wpAnyH_done (by kernel_rfl) ?_ _
                            go_wp2_with fail
                            go_meet
                            exact ⟨b, rfl, HI, HX.out⟩
                          exact AllReadyH.nil
                        exact AllReadyH.nil
                      exact AllReadyH.nil
                    exact AllReadyH.nil
                  exact AllReadyH.nil
                exact AllReadyH.nil
              refine AllReadyH.cons rfl (fun K hK => ?_) ?_
              · go_simp
                replace HS := hid (HS.out.alloc_sl (e := 3) [] _ rfl nil_max)
                refine hK.out _ _ (KP.out _ _ HS.out) (fun _ => ?_)
                clear hK K
                generalize w2.heap.size = b10 at HS ⊢
                generalize World.alloc w2 _ = w3 at HS ⊢
                refine wpAnyH_ready (rs := [3, 8]) (by kernel_rfl) (by simp) ?_
                refine AllReadyH.cons rfl (fun K hK => ?_) ?_
                · refine step_app rfl (.tmp 21) (.tmp 22) 41 rfl 3 i0 _ 8 Tryd.underlying41 hi0 hz0 hz1 hz2 rfl HS.out 1 (by rfl) (by rfl) ad done.length cd (icells done) (by rfl) (icells_length done) (HN1.out _ _ HS.out) (icells_one _) H63a.out (Nat.le_refl 8) ?_
                  intro v3 w4 hs
                  replace HS := hid hs.norm0
                  clear hs
                  refine hK.out _ _ (KP.out _ _ HS.out) (fun _ => ?_)
                  clear hK K
                  try simp only [Act.put, List.setIfInBounds_toArray]
                  refine wpAnyH_ready (rs := [8]) (by kernel_rfl) (by simp) ?_
                  refine AllReadyH.cons rfl (fun K hK => ?_) ?_
                  · go_simp
                    replace HS := hid (HS.out.alloc_sl (e := 3) [.int .i64 x] _ rfl (one_max x))
                    refine hK.out _ _ (KP.out _ _ HS.out) (fun _ => ?_)
                    clear hK K
                    generalize w4.heap.size = b8 at HS ⊢
                    generalize World.alloc w4 _ = w5 at HS ⊢
                    refine wpAnyH_ready (rs := [9]) (by kernel_rfl) (by simp) ?_
                    refine AllReadyH.cons rfl (fun K hK => ?_) ?_
                    · refine step_app rfl (.tmp 23) (.tmp 28) 41 rfl 3 i0 _ 8 Tryd.underlying41 hi0 hz0 hz1 hz2 rfl HS.out 1 (by rfl) (by rfl) _ 1 1 (icells [x]) (by rfl) rfl (S.news_sl HS.out 0 (by rfl)) (icells_one _) H63b.out (Nat.le_refl 8) ?_
                      intro v9 w6 hs
                      replace HS := hid hs
                      clear hs
                      refine hK.out _ _ (KP.out _ _ HS.out) (fun _ => ?_)
                      clear hK K
                      try simp only [Act.put, List.setIfInBounds_toArray]
                      refine wpAnyH_ready (rs := [14]) (by kernel_rfl) (by simp) ?_
                      refine AllReadyH.cons rfl (fun K hK => ?_) ?_
                      · refine step_app rfl (.tmp 30) (.tmp 33) 41 rfl 3 i0 _ 8 Tryd.underlying41 hi0 hz0 hz1 hz2 rfl HS.out 2 (by rfl) (by rfl) (some ⟨gl, ol, none⟩) i cl (icells (left.take i)) (by rfl) HL3.out (HN3.out _ _ HS.out) (icells_one _) H63c.out (Nat.le_refl 8) ?_
                        intro v14 w7 hs
                        replace HS := hid hs.norm0
                        clear hs
                        refine hK.out _ _ (KP.out _ _ HS.out) (fun _ => ?_)
                        clear hK K
                        try simp only [Act.put]
                        refine wpAnyH_ready (rs := [19]) (by kernel_rfl) (by simp) ?_
                        refine AllReadyH.cons rfl (fun K hK => ?_) ?_
                        · refine step_app rfl (.tmp 34) (.tmp 38) 41 rfl 3 i0 _ 8 Tryd.underlying41 hi0 hz0 hz1 hz2 rfl HS.out 0 (by rfl) (by rfl) A4 (left.length - (i + 1)) (cl - (i + 1)) (icells (left.drop (i + 1))) (by rfl) HL4.out (HN4.out _ _ HS.out) (icells_one _) H63d.out (Nat.le_refl 8) ?_
                          intro v19 w8 hs
                          replace HS := hid hs
                          clear hs
                          refine hK.out _ _ (KP.out _ _ HS.out) (fun _ => ?_)
                          clear hK K
                          try simp only [Act.put]
                          refine wpAnyH_ready (rs := [20]) (by kernel_rfl) (by simp) ?_
                          refine AllReadyH.cons rfl (fun K hK => ?_) ?_
                          · go_simp
                            go_wp2_with (go_at_call 28; with_reducible refine (IH _ _ _ (done ++ [x]) (left.take i ++ left.drop (i + 1)) _ HLN.out HLB.out (HJ.out _ _ _ (S.headTwo HS.out))).mono ?_; rintro e w' ⟨b, rfl, himp, hs'⟩; have HX := hid (HBK.out _ _ _ hs'); have HI := hid himp; clear hs' himp)
                            refine hK.out _ _ (HKX.out _ HX.out) (fun _ => ?_)
                            clear hK K
                            refine wpAnyH_done (by kernel_rfl) ?_ _
                            go_wp2_with fail
                            go_meet
                            exact ⟨b, rfl, HI, HX.out⟩
                          exact AllReadyH.nil
                        exact AllReadyH.nil
                      exact AllReadyH.nil
                    exact AllReadyH.nil
                  exact AllReadyH.nil
                refine AllReadyH.cons rfl (fun K hK => ?_) ?_
                · go_simp
                  replace HS := hid (HS.out.alloc_sl (e := 3) [.int .i64 x] _ rfl (one_max x))
                  refine hK.out _ _ (KP.out _ _ HS.out) (fun _ => ?_)
                  clear hK K
                  generalize w3.heap.size = b8 at HS ⊢
                  generalize World.alloc w3 _ = w4 at HS ⊢
                  refine wpAnyH_ready (rs := [3]) (by kernel_rfl) (by simp) ?_
                  refine AllReadyH.cons rfl (fun K hK => ?_) ?_
                  · refine step_app rfl (.tmp 21) (.tmp 22) 41 rfl 3 i0 _ 8 Tryd.underlying41 hi0 hz0 hz1 hz2 rfl HS.out 2 (by rfl) (by rfl) ad done.length cd (icells done) (by rfl) (icells_length done) (HN1.out _ _ HS.out) (icells_one _) H63a.out (Nat.le_refl 8) ?_
                    intro v3 w5 hs
                    replace HS := hid hs.norm0
                    clear hs
                    refine hK.out _ _ (KP.out _ _ HS.out) (fun _ => ?_)
                    clear hK K
                    try simp only [Act.put, List.setIfInBounds_toArray]
                    refine wpAnyH_ready (rs := [9]) (by kernel_rfl) (by simp) ?_
                    refine AllReadyH.cons rfl (fun K hK => ?_) ?_
                    · refine step_app rfl (.tmp 23) (.tmp 28) 41 rfl 3 i0 _ 8 Tryd.underlying41 hi0 hz0 hz1 hz2 rfl HS.out 0 (by rfl) (by rfl) _ 1 1 (icells [x]) (by rfl) rfl (S.news_sl HS.out 1 (by rfl)) (icells_one _) H63b.out (Nat.le_refl 8) ?_
                      intro v9 w6 hs
                      replace HS := hid hs
                      clear hs
                      refine hK.out _ _ (KP.out _ _ HS.out) (fun _ => ?_)
                      clear hK K
                      try simp only [Act.put]
                      refine wpAnyH_ready (rs := [14]) (by kernel_rfl) (by simp) ?_
                      refine AllReadyH.cons rfl (fun K hK => ?_) ?_
                      · refine step_app rfl (.tmp 30) (.tmp 33) 41 rfl 3 i0 _ 8 Tryd.underlying41 hi0 hz0 hz1 hz2 rfl HS.out 2 (by rfl) (by rfl) (some ⟨gl, ol, none⟩) i cl (icells (left.take i)) (by rfl) HL3.out (HN3.out _ _ HS.out) (icells_one _) H63c.out (Nat.le_refl 8) ?_
                        intro v14 w7 hs
                        replace HS := hid hs.norm0
                        clear hs
                        refine hK.out _ _ (KP.out _ _ HS.out) (fun _ => ?_)
                        clear hK K
                        try simp only [Act.put]
                        refine wpAnyH_ready (rs := [19]) (by kernel_rfl) (by simp) ?_
                        refine AllReadyH.cons rfl (fun K hK => ?_) ?_
                        · refine step_app rfl (.tmp 34) (.tmp 38) 41 rfl 3 i0 _ 8 Tryd.underlying41 hi0 hz0 hz1 hz2 rfl HS.out 0 (by rfl) (by rfl) A4 (left.length - (i + 1)) (cl - (i + 1)) (icells (left.drop (i + 1))) (by rfl) HL4.out (HN4.out _ _ HS.out) (icells_one _) H63d.out (Nat.le_refl 8) ?_
                          intro v19 w8 hs
                          replace HS := hid hs
                          clear hs
                          refine hK.out _ _ (KP.out _ _ HS.out) (fun _ => ?_)
                          clear hK K
                          try simp only [Act.put]
                          refine wpAnyH_ready (rs := [20]) (by kernel_rfl) (by simp) ?_
                          refine AllReadyH.cons rfl (fun K hK => ?_) ?_
                          · go_simp
                            go_wp2_with (go_at_call 28; with_reducible refine (IH _ _ _ (done ++ [x]) (left.take i ++ left.drop (i + 1)) _ HLN.out HLB.out (HJ.out _ _ _ (S.headTwo HS.out))).mono ?_; rintro e w' ⟨b, rfl, himp, hs'⟩; have HX := hid (HBK.out _ _ _ hs'); have HI := hid himp; clear hs' himp)
                            refine hK.out _ _ (HKX.out _ HX.out) (fun _ => ?_)
                            clear hK K
                            refine wpAnyH_done (by kernel_rfl) ?_ _
                            go_wp2_with fail
                            go_meet
                            exact ⟨b, rfl, HI, HX.out⟩
                          exact AllReadyH.nil
                        exact AllReadyH.nil
                      exact AllReadyH.nil
                    exact AllReadyH.nil
                  exact AllReadyH.nil
                exact AllReadyH.nil
              exact AllReadyH.nil
            refine AllReadyH.cons rfl (fun K hK => ?_) ?_
            · go_simp
              replace HS := hid (HS.out.alloc_sl (e := 3) [.int .i64 x] _ rfl (one_max x))
              refine hK.out _ _ (KP.out _ _ HS.out) (fun _ => ?_)
              clear hK K
              generalize w1.heap.size = b8 at HS ⊢
              generalize World.alloc w1 _ = w2 at HS ⊢
              refine wpAnyH_ready (rs := [1, 10]) (by kernel_rfl) (by simp) ?_
              refine AllReadyH.cons rfl (fun K hK => ?_) ?_
              · go_simp
                replace HS := hid (HS.out.alloc_sl (e := 3) [] _ rfl nil_max)
                refine hK.out _ _ (KP.out _ _ HS.out) (fun _ => ?_)
                clear hK K
                generalize w2.heap.size = b1 at HS ⊢
                generalize World.alloc w2 _ = w3 at HS ⊢
                refine wpAnyH_ready (rs := [3, 10]) (by kernel_rfl) (by simp) ?_
                refine AllReadyH.cons rfl (fun K hK => ?_) ?_
                · refine step_app rfl (.tmp 21) (.tmp 22) 41 rfl 3 i0 _ 8 Tryd.underlying41 hi0 hz0 hz1 hz2 rfl HS.out 0 (by rfl) (by rfl) ad done.length cd (icells done) (by rfl) (icells_length done) (HN1.out _ _ HS.out) (icells_one _) H63a.out (Nat.le_refl 8) ?_
                  intro v3 w4 hs
                  replace HS := hid hs.norm0
                  clear hs
                  refine hK.out _ _ (KP.out _ _ HS.out) (fun _ => ?_)
                  clear hK K
                  try simp only [Act.put, List.setIfInBounds_toArray]
                  refine wpAnyH_ready (rs := [9, 10]) (by kernel_rfl) (by simp) ?_
                  refine AllReadyH.cons rfl (fun K hK => ?_) ?_
                  · refine step_app rfl (.tmp 23) (.tmp 28) 41 rfl 3 i0 _ 8 Tryd.underlying41 hi0 hz0 hz1 hz2 rfl HS.out 0 (by rfl) (by rfl) _ 1 1 (icells [x]) (by rfl) rfl (S.news_sl HS.out 1 (by rfl)) (icells_one _) H63b.out (Nat.le_refl 8) ?_
                    intro v9 w5 hs
                    replace HS := hid hs
                    clear hs
                    refine hK.out _ _ (KP.out _ _ HS.out) (fun _ => ?_)
                    clear hK K
                    try simp only [Act.put]
                    refine wpAnyH_ready (rs := [10]) (by kernel_rfl) (by simp) ?_
                    refine AllReadyH.cons rfl (fun K hK => ?_) ?_
                    · go_simp
                      replace HS := hid (HS.out.alloc_sl (e := 3) [] _ rfl nil_max)
                      refine hK.out _ _ (KP.out _ _ HS.out) (fun _ => ?_)
                      clear hK K
                      generalize w5.heap.size = b10 at HS ⊢
                      generalize World.alloc w5 _ = w6 at HS ⊢
                      refine wpAnyH_ready (rs := [14]) (by kernel_rfl) (by simp) ?_
                      refine AllReadyH.cons rfl (fun K hK => ?_) ?_
                      · refine step_app rfl (.tmp 30) (.tmp 33) 41 rfl 3 i0 _ 8 Tryd.underlying41 hi0 hz0 hz1 hz2 rfl HS.out 0 (by rfl) (by rfl) (some ⟨gl, ol, none⟩) i cl (icells (left.take i)) (by rfl) HL3.out (HN3.out _ _ HS.out) (icells_one _) H63c.out (Nat.le_refl 8) ?_
                        intro v14 w7 hs
                        replace HS := hid hs.norm0
                        clear hs
                        refine hK.out _ _ (KP.out _ _ HS.out) (fun _ => ?_)
                        clear hK K
                        try simp only [Act.put, List.setIfInBounds_toArray]
                        refine wpAnyH_ready (rs := [19]) (by kernel_rfl) (by simp) ?_
                        refine AllReadyH.cons rfl (fun K hK => ?_) ?_
                        · refine step_app rfl (.tmp 34) (.tmp 38) 41 rfl 3 i0 _ 8 Tryd.underlying41 hi0 hz0 hz1 hz2 rfl HS.out 0 (by rfl) (by rfl) A4 (left.length - (i + 1)) (cl - (i + 1)) (icells (left.drop (i + 1))) (by rfl) HL4.out (HN4.out _ _ HS.out) (icells_one _) H63d.out (Nat.le_refl 8) ?_
                          intro v19 w8 hs
                          replace HS := hid hs
                          clear hs
                          refine hK.out _ _ (KP.out _ _ HS.out) (fun _ => ?_)
                          clear hK K
                          try simp only [Act.put]
                          refine wpAnyH_ready (rs := [20]) (by kernel_rfl) (by simp) ?_
                          refine AllReadyH.cons rfl (fun K hK => ?_) ?_
                          · go_simp
                            go_wp2_with (go_at_call 28; with_reducible refine (IH _ _ _ (done ++ [x]) (left.take i ++ left.drop (i + 1)) _ HLN.out HLB.out (HJ.out _ _ _ (S.headTwo HS.out))).mono ?_; rintro e w' ⟨b, rfl, himp, hs'⟩; have HX := hid (HBK.out _ _ _ hs'); have HI := hid himp; clear hs' himp)
                            refine hK.out _ _ (HKX.out _ HX.out) (fun _ => ?_)
                            clear hK K
                            refine wpAnyH_done (by kernel_rfl) ?_ _
                            go_wp2_with fail
                            go_meet
                            exact ⟨b, rfl, HI, HX.out⟩
                          exact AllReadyH.nil
                        exact AllReadyH.nil
                      exact AllReadyH.nil
                    exact AllReadyH.nil
                  refine AllReadyH.cons rfl (fun K hK => ?_) ?_
                  · go_simp
                    replace HS := hid (HS.out.alloc_sl (e := 3) [] _ rfl nil_max)
                    refine hK.out _ _ (KP.out _ _ HS.out) (fun _ => ?_)
                    clear hK K
                    generalize w4.heap.size = b10 at HS ⊢
                    generalize World.alloc w4 _ = w5 at HS ⊢
                    refine wpAnyH_ready (rs := [9]) (by kernel_rfl) (by simp) ?_
                    refine AllReadyH.cons rfl (fun K hK => ?_) ?_
                    · refine step_app rfl (.tmp 23) (.tmp 28) 41 rfl 3 i0 _ 8 Tryd.underlying41 hi0 hz0 hz1 hz2 rfl HS.out 1 (by rfl) (by rfl) _ 1 1 (icells [x]) (by rfl) rfl (S.news_sl HS.out 2 (by rfl)) (icells_one _) H63b.out (Nat.le_refl 8) ?_
                      intro v9 w6 hs
                      replace HS := hid hs
                      clear hs
                      refine hK.out _ _ (KP.out _ _ HS.out) (fun _ => ?_)
                      clear hK K
                      try simp only [Act.put, List.setIfInBounds_toArray]
                      refine wpAnyH_ready (rs := [14]) (by kernel_rfl) (by simp) ?_
                      refine AllReadyH.cons rfl (fun K hK => ?_) ?_
                      · refine step_app rfl (.tmp 30) (.tmp 33) 41 rfl 3 i0 _ 8 Tryd.underlying41 hi0 hz0 hz1 hz2 rfl HS.out 1 (by rfl) (by rfl) (some ⟨gl, ol, none⟩) i cl (icells (left.take i)) (by rfl) HL3.out (HN3.out _ _ HS.out) (icells_one _) H63c.out (Nat.le_refl 8) ?_
                        intro v14 w7 hs
                        replace HS := hid hs.norm0
                        clear hs
                        refine hK.out _ _ (KP.out _ _ HS.out) (fun _ => ?_)
                        clear hK K
                        try simp only [Act.put]
                        refine wpAnyH_ready (rs := [19]) (by kernel_rfl) (by simp) ?_
                        refine AllReadyH.cons rfl (fun K hK => ?_) ?_
                        · refine step_app rfl (.tmp 34) (.tmp 38) 41 rfl 3 i0 _ 8 Tryd.underlying41 hi0 hz0 hz1 hz2 rfl HS.out 0 (by rfl) (by rfl) A4 (left.length - (i + 1)) (cl - (i + 1)) (icells (left.drop (i + 1))) (by rfl) HL4.out (HN4.out _ _ HS.out) (icells_one _) H63d.out (Nat.le_refl 8) ?_
                          intro v19 w8 hs
                          replace HS := hid hs
                          clear hs
                          refine hK.out _ _ (KP.out _ _ HS.out) (fun _ => ?_)
                          clear hK K
                          try simp only [Act.put]
                          refine wpAnyH_ready (rs := [20]) (by kernel_rfl) (by simp) ?_
                          refine AllReadyH.cons rfl (fun K hK => ?_) ?_
                          · go_simp
                            go_wp2_with (go_at_call 28; with_reducible refine (IH _ _ _ (done ++ [x]) (left.take i ++ left.drop (i + 1)) _ HLN.out HLB.out (HJ.out _ _ _ (S.headTwo HS.out))).mono ?_; rintro e w' ⟨b, rfl, himp, hs'⟩; have HX := hid (HBK.out _ _ _ hs'); have HI := hid himp; clear hs' himp)
                            refine hK.out _ _ (HKX.out _ HX.out) (fun _ => ?_)
                            clear hK K
                            refine wpAnyH_done (by kernel_rfl) ?_ _
                            go_wp2_with fail
                            go_meet
                            exact ⟨b, rfl, HI, HX.out⟩
                          exact AllReadyH.nil
                        exact AllReadyH.nil
                      exact AllReadyH.nil
                    exact AllReadyH.nil
                  exact AllReadyH.nil
                refine AllReadyH.cons rfl (fun K hK => ?_) ?_
                · go_simp
                  replace HS := hid (HS.out.alloc_sl (e := 3) [] _ rfl nil_max)
                  refine hK.out _ _ (KP.out _ _ HS.out) (fun _ => ?_)
                  clear hK K
                  generalize w3.heap.size = b10 at HS ⊢
                  generalize World.alloc w3 _ = w4 at HS ⊢
                  refine wpAnyH_ready (rs := [3]) (by kernel_rfl) (by simp) ?_
                  refine AllReadyH.cons rfl (fun K hK => ?_) ?_
                  · refine step_app rfl (.tmp 21) (.tmp 22) 41 rfl 3 i0 _ 8 Tryd.underlying41 hi0 hz0 hz1 hz2 rfl HS.out 1 (by rfl) (by rfl) ad done.length cd (icells done) (by rfl) (icells_length done) (HN1.out _ _ HS.out) (icells_one _) H63a.out (Nat.le_refl 8) ?_
                    intro v3 w5 hs
                    replace HS := hid hs.norm0
                    clear hs
                    refine hK.out _ _ (KP.out _ _ HS.out) (fun _ => ?_)
                    clear hK K
                    try simp only [Act.put, List.setIfInBounds_toArray]
                    refine wpAnyH_ready (rs := [9]) (by kernel_rfl) (by simp) ?_
                    refine AllReadyH.cons rfl (fun K hK => ?_) ?_
                    · refine step_app rfl (.tmp 23) (.tmp 28) 41 rfl 3 i0 _ 8 Tryd.underlying41 hi0 hz0 hz1 hz2 rfl HS.out 0 (by rfl) (by rfl) _ 1 1 (icells [x]) (by rfl) rfl (S.news_sl HS.out 2 (by rfl)) (icells_one _) H63b.out (Nat.le_refl 8) ?_
                      intro v9 w6 hs
                      replace HS := hid hs
                      clear hs
                      refine hK.out _ _ (KP.out _ _ HS.out) (fun _ => ?_)
                      clear hK K
                      try simp only [Act.put]
                      refine wpAnyH_ready (rs := [14]) (by kernel_rfl) (by simp) ?_
                      refine AllReadyH.cons rfl (fun K hK => ?_) ?_
                      · refine step_app rfl (.tmp 30) (.tmp 33) 41 rfl 3 i0 _ 8 Tryd.underlying41 hi0 hz0 hz1 hz2 rfl HS.out 1 (by rfl) (by rfl) (some ⟨gl, ol, none⟩) i cl (icells (left.take i)) (by rfl) HL3.out (HN3.out _ _ HS.out) (icells_one _) H63c.out (Nat.le_refl 8) ?_
                        intro v14 w7 hs
                        replace HS := hid hs.norm0
                        clear hs
                        refine hK.out _ _ (KP.out _ _ HS.out) (fun _ => ?_)
                        clear hK K
                        try simp only [Act.put]
                        refine wpAnyH_ready (rs := [19]) (by kernel_rfl) (by simp) ?_
                        refine AllReadyH.cons rfl (fun K hK => ?_) ?_
                        · refine step_app rfl (.tmp 34) (.tmp 38) 41 rfl 3 i0 _ 8 Tryd.underlying41 hi0 hz0 hz1 hz2 rfl HS.out 0 (by rfl) (by rfl) A4 (left.length - (i + 1)) (cl - (i + 1)) (icells (left.drop (i + 1))) (by rfl) HL4.out (HN4.out _ _ HS.out) (icells_one _) H63d.out (Nat.le_refl 8) ?_
                          intro v19 w8 hs
                          replace HS := hid hs
                          clear hs
                          refine hK.out _ _ (KP.out _ _ HS.out) (fun _ => ?_)
                          clear hK K
                          try simp only [Act.put]
                          refine wpAnyH_ready (rs := [20]) (by kernel_rfl) (by simp) ?_
                          refine AllReadyH.cons rfl (fun K hK => ?_) ?_
                          · go_simp
                            go_wp2_with (go_at_call 28; with_reducible refine (IH _ _ _ (done ++ [x]) (left.take i ++ left.drop (i + 1)) _ HLN.out HLB.out (HJ.out _ _ _ (S.headTwo HS.out))).mono ?_; rintro e w' ⟨b, rfl, himp, hs'⟩; have HX := hid (HBK.out _ _ _ hs'); have HI := hid himp; clear hs' himp)
                            refine hK.out _ _ (HKX.out _ HX.out) (fun _ => ?_)
                            clear hK K
                            refine wpAnyH_done (by kernel_rfl) ?_ _
                            go_wp2_with fail
                            go_meet
                            exact ⟨b, rfl, HI, HX.out⟩
                          exact AllReadyH.nil
                        exact AllReadyH.nil
                      exact AllReadyH.nil
                    exact AllReadyH.nil
                  exact AllReadyH.nil
                exact AllReadyH.nil
              refine AllReadyH.cons rfl (fun K hK => ?_) ?_
              · go_simp
                replace HS := hid (HS.out.alloc_sl (e := 3) [] _ rfl nil_max)
                refine hK.out _ _ (KP.out _ _ HS.out) (fun _ => ?_)
                clear hK K
                generalize w2.heap.size = b10 at HS ⊢
                generalize World.alloc w2 _ = w3 at HS ⊢
                refine wpAnyH_ready (rs := [1]) (by kernel_rfl) (by simp) ?_
                refine AllReadyH.cons rfl (fun K hK => ?_) ?_
                · go_simp
                  replace HS := hid (HS.out.alloc_sl (e := 3) [] _ rfl nil_max)
                  refine hK.out _ _ (KP.out _ _ HS.out) (fun _ => ?_)
                  clear hK K
                  generalize w3.heap.size = b1 at HS ⊢
                  generalize World.alloc w3 _ = w4 at HS ⊢
                  refine wpAnyH_ready (rs := [3]) (by kernel_rfl) (by simp) ?_
                  refine AllReadyH.cons rfl (fun K hK => ?_) ?_
                  · refine step_app rfl (.tmp 21) (.tmp 22) 41 rfl 3 i0 _ 8 Tryd.underlying41 hi0 hz0 hz1 hz2 rfl HS.out 0 (by rfl) (by rfl) ad done.length cd (icells done) (by rfl) (icells_length done) (HN1.out _ _ HS.out) (icells_one _) H63a.out (Nat.le_refl 8) ?_
                    intro v3 w5 hs
                    replace HS := hid hs.norm0
                    clear hs
                    refine hK.out _ _ (KP.out _ _ HS.out) (fun _ => ?_)
                    clear hK K
                    try simp only [Act.put, List.setIfInBounds_toArray]
                    refine wpAnyH_ready (rs := [9]) (by kernel_rfl) (by simp) ?_
                    refine AllReadyH.cons rfl (fun K hK => ?_) ?_
                    · refine step_app rfl (.tmp 23) (.tmp 28) 41 rfl 3 i0 _ 8 Tryd.underlying41 hi0 hz0 hz1 hz2 rfl HS.out 0 (by rfl) (by rfl) _ 1 1 (icells [x]) (by rfl) rfl (S.news_sl HS.out 2 (by rfl)) (icells_one _) H63b.out (Nat.le_refl 8) ?_
                      intro v9 w6 hs
                      replace HS := hid hs
                      clear hs
                      refine hK.out _ _ (KP.out _ _ HS.out) (fun _ => ?_)
                      clear hK K
                      try simp only [Act.put]
                      refine wpAnyH_ready (rs := [14]) (by kernel_rfl) (by simp) ?_
                      refine AllReadyH.cons rfl (fun K hK => ?_) ?_
                      · refine step_app rfl (.tmp 30) (.tmp 33) 41 rfl 3 i0 _ 8 Tryd.underlying41 hi0 hz0 hz1 hz2 rfl HS.out 1 (by rfl) (by rfl) (some ⟨gl, ol, none⟩) i cl (icells (left.take i)) (by rfl) HL3.out (HN3.out _ _ HS.out) (icells_one _) H63c.out (Nat.le_refl 8) ?_
                        intro v14 w7 hs
                        replace HS := hid hs.norm0
                        clear hs
                        refine hK.out _ _ (KP.out _ _ HS.out) (fun _ => ?_)
                        clear hK K
                        try simp only [Act.put]
                        refine wpAnyH_ready (rs := [19]) (by kernel_rfl) (by simp) ?_
                        refine AllReadyH.cons rfl (fun K hK => ?_) ?_
                        · refine step_app rfl (.tmp 34) (.tmp 38) 41 rfl 3 i0 _ 8 Tryd.underlying41 hi0 hz0 hz1 hz2 rfl HS.out 0 (by rfl) (by rfl) A4 (left.length - (i + 1)) (cl - (i + 1)) (icells (left.drop (i + 1))) (by rfl) HL4.out (HN4.out _ _ HS.out) (icells_one _) H63d.out (Nat.le_refl 8) ?_
                          intro v19 w8 hs
                          replace HS := hid hs
                          clear hs
                          refine hK.out _ _ (KP.out _ _ HS.out) (fun _ => ?_)
                          clear hK K
                          try simp only [Act.put]
                          refine wpAnyH_ready (rs := [20]) (by kernel_rfl) (by simp) ?_
                          refine AllReadyH.cons rfl (fun K hK => ?_) ?_
                          · go_simp
                            go_wp2_with (go_at_call 28; with_reducible refine (IH _ _ _ (done ++ [x]) (left.take i ++ left.drop (i + 1)) _ HLN.out HLB.out (HJ.out _ _ _ (S.headTwo HS.out))).mono ?_; rintro e w' ⟨b, rfl, himp, hs'⟩; have HX := hid (HBK.out _ _ _ hs'); have HI := hid himp; clear hs' himp)
                            refine hK.out _ _ (HKX.out _ HX.out) (fun _ => ?_)
                            clear hK K
                            refine wpAnyH_done (by kernel_rfl) ?_ _
                            go_wp2_with fail
                            go_meet
                            exact ⟨b, rfl, HI, HX.out⟩
                          exact AllReadyH.nil
                        exact AllReadyH.nil
                      exact AllReadyH.nil
                    exact AllReadyH.nil
                  exact AllReadyH.nil
                exact AllReadyH.nil
              exact AllReadyH.nil
            refine AllReadyH.cons rfl (fun K hK => ?_) ?_
            · go_simp
              replace HS := hid (HS.out.alloc_sl (e := 3) [] _ rfl nil_max)
              refine hK.out _ _ (KP.out _ _ HS.out) (fun _ => ?_)
              clear hK K
              generalize w1.heap.size = b10 at HS ⊢
              generalize World.alloc w1 _ = w2 at HS ⊢
              refine wpAnyH_ready (rs := [1, 8]) (by kernel_rfl) (by simp) ?_
              refine AllReadyH.cons rfl (fun K hK => ?_) ?_
              · go_simp
                replace HS := hid (HS.out.alloc_sl (e := 3) [] _ rfl nil_max)
                refine hK.out _ _ (KP.out _ _ HS.out) (fun _ => ?_)
                clear hK K
                generalize w2.heap.size = b1 at HS ⊢
                generalize World.alloc w2 _ = w3 at HS ⊢
                refine wpAnyH_ready (rs := [3, 8]) (by kernel_rfl) (by simp) ?_
                refine AllReadyH.cons rfl (fun K hK => ?_) ?_
                · refine step_app rfl (.tmp 21) (.tmp 22) 41 rfl 3 i0 _ 8 Tryd.underlying41 hi0 hz0 hz1 hz2 rfl HS.out 0 (by rfl) (by rfl) ad done.length cd (icells done) (by rfl) (icells_length done) (HN1.out _ _ HS.out) (icells_one _) H63a.out (Nat.le_refl 8) ?_
                  intro v3 w4 hs
                  replace HS := hid hs.norm0
                  clear hs
                  refine hK.out _ _ (KP.out _ _ HS.out) (fun _ => ?_)
                  clear hK K
                  try simp only [Act.put, List.setIfInBounds_toArray]
                  refine wpAnyH_ready (rs := [8]) (by kernel_rfl) (by simp) ?_
                  refine AllReadyH.cons rfl (fun K hK => ?_) ?_
                  · go_simp
                    replace HS := hid (HS.out.alloc_sl (e := 3) [.int .i64 x] _ rfl (one_max x))
                    refine hK.out _ _ (KP.out _ _ HS.out) (fun _ => ?_)
                    clear hK K
                    generalize w4.heap.size = b8 at HS ⊢
                    generalize World.alloc w4 _ = w5 at HS ⊢
                    refine wpAnyH_ready (rs := [9]) (by kernel_rfl) (by simp) ?_
                    refine AllReadyH.cons rfl (fun K hK => ?_) ?_
                    · refine step_app rfl (.tmp 23) (.tmp 28) 41 rfl 3 i0 _ 8 Tryd.underlying41 hi0 hz0 hz1 hz2 rfl HS.out 1 (by rfl) (by rfl) _ 1 1 (icells [x]) (by rfl) rfl (S.news_sl HS.out 0 (by rfl)) (icells_one _) H63b.out (Nat.le_refl 8) ?_
                      intro v9 w6 hs
                      replace HS := hid hs
                      clear hs
                      refine hK.out _ _ (KP.out _ _ HS.out) (fun _ => ?_)
                      clear hK K
                      try simp only [Act.put, List.setIfInBounds_toArray]
                      refine wpAnyH_ready (rs := [14]) (by kernel_rfl) (by simp) ?_
                      refine AllReadyH.cons rfl (fun K hK => ?_) ?_
                      · refine step_app rfl (.tmp 30) (.tmp 33) 41 rfl 3 i0 _ 8 Tryd.underlying41 hi0 hz0 hz1 hz2 rfl HS.out 2 (by rfl) (by rfl) (some ⟨gl, ol, none⟩) i cl (icells (left.take i)) (by rfl) HL3.out (HN3.out _ _ HS.out) (icells_one _) H63c.out (Nat.le_refl 8) ?_
                        intro v14 w7 hs
                        replace HS := hid hs.norm0
                        clear hs
                        refine hK.out _ _ (KP.out _ _ HS.out) (fun _ => ?_)
                        clear hK K
                        try simp only [Act.put]
                        refine wpAnyH_ready (rs := [19]) (by kernel_rfl) (by simp) ?_
                        refine AllReadyH.cons rfl (fun K hK => ?_) ?_
                        · refine step_app rfl (.tmp 34) (.tmp 38) 41 rfl 3 i0 _ 8 Tryd.underlying41 hi0 hz0 hz1 hz2 rfl HS.out 0 (by rfl) (by rfl) A4 (left.length - (i + 1)) (cl - (i + 1)) (icells (left.drop (i + 1))) (by rfl) HL4.out (HN4.out _ _ HS.out) (icells_one _) H63d.out (Nat.le_refl 8) ?_
                          intro v19 w8 hs
                          replace HS := hid hs
                          clear hs
                          refine hK.out _ _ (KP.out _ _ HS.out) (fun _ => ?_)
                          clear hK K
                          try simp only [Act.put]
                          refine wpAnyH_ready (rs := [20]) (by kernel_rfl) (by simp) ?_
                          refine AllReadyH.cons rfl (fun K hK => ?_) ?_
                          · go_simp
                            go_wp2_with (go_at_call 28; with_reducible refine (IH _ _ _ (done ++ [x]) (left.take i ++ left.drop (i + 1)) _ HLN.out HLB.out (HJ.out _ _ _ (S.headTwo HS.out))).mono ?_; rintro e w' ⟨b, rfl, himp, hs'⟩; have HX := hid (HBK.out _ _ _ hs'); have HI := hid himp; clear hs' himp)
                            refine hK.out _ _ (HKX.out _ HX.out) (fun _ => ?_)
                            clear hK K
                            refine wpAnyH_done (by kernel_rfl) ?_ _
                            go_wp2_with fail
                            go_meet
                            exact ⟨b, rfl, HI, HX.out⟩
                          exact AllReadyH.nil
                        exact AllReadyH.nil
                      exact AllReadyH.nil
                    exact AllReadyH.nil
                  exact AllReadyH.nil
                refine AllReadyH.cons rfl (fun K hK => ?_) ?_
                · go_simp
                  replace HS := hid (HS.out.alloc_sl (e := 3) [.int .i64 x] _ rfl (one_max x))
                  refine hK.out _ _ (KP.out _ _ HS.out) (fun _ => ?_)
                  clear hK K
                  generalize w3.heap.size = b8 at HS ⊢
                  generalize World.alloc w3 _ = w4 at HS ⊢
                  refine wpAnyH_ready (rs := [3]) (by kernel_rfl) (by simp) ?_
                  refine AllReadyH.cons rfl (fun K hK => ?_) ?_
                  · refine step_app rfl (.tmp 21) (.tmp 22) 41 rfl 3 i0 _ 8 Tryd.underlying41 hi0 hz0 hz1 hz2 rfl HS.out 1 (by rfl) (by rfl) ad done.length cd (icells done) (by rfl) (icells_length done) (HN1.out _ _ HS.out) (icells_one _) H63a.out (Nat.le_refl 8) ?_
                    intro v3 w5 hs
                    replace HS := hid hs.norm0
                    clear hs
                    refine hK.out _ _ (KP.out _ _ HS.out) (fun _ => ?_)
                    clear hK K
                    try simp only [Act.put, List.setIfInBounds_toArray]
                    refine wpAnyH_ready (rs := [9]) (by kernel_rfl) (by simp) ?_
                    refine AllReadyH.cons rfl (fun K hK => ?_) ?_
                    · refine step_app rfl (.tmp 23) (.tmp 28) 41 rfl 3 i0 _ 8 Tryd.underlying41 hi0 hz0 hz1 hz2 rfl HS.out 0 (by rfl) (by rfl) _ 1 1 (icells [x]) (by rfl) rfl (S.news_sl HS.out 1 (by rfl)) (icells_one _) H63b.out (Nat.le_refl 8) ?_
                      intro v9 w6 hs
                      replace HS := hid hs
                      clear hs
                      refine hK.out _ _ (KP.out _ _ HS.out) (fun _ => ?_)
                      clear hK K
                      try simp only [Act.put]
                      refine wpAnyH_ready (rs := [14]) (by kernel_rfl) (by simp) ?_
                      refine AllReadyH.cons rfl (fun K hK => ?_) ?_
                      · refine step_app rfl (.tmp 30) (.tmp 33) 41 rfl 3 i0 _ 8 Tryd.underlying41 hi0 hz0 hz1 hz2 rfl HS.out 2 (by rfl) (by rfl) (some ⟨gl, ol, none⟩) i cl (icells (left.take i)) (by rfl) HL3.out (HN3.out _ _ HS.out) (icells_one _) H63c.out (Nat.le_refl 8) ?_
                        intro v14 w7 hs
                        replace HS := hid hs.norm0
                        clear hs
                        refine hK.out _ _ (KP.out _ _ HS.out) (fun _ => ?_)
                        clear hK K
                        try simp only [Act.put]
                        refine wpAnyH_ready (rs := [19]) (by kernel_rfl) (by simp) ?_
                        refine AllReadyH.cons rfl (fun K hK => ?_) ?_
                        · refine step_app rfl (.tmp 34) (.tmp 38) 41 rfl 3 i0 _ 8 Tryd.underlying41 hi0 hz0 hz1 hz2 rfl HS.out 0 (by rfl) (by rfl) A4 (left.length - (i + 1)) (cl - (i + 1)) (icells (left.drop (i + 1))) (by rfl) HL4.out (HN4.out _ _ HS.out) (icells_one _) H63d.out (Nat.le_refl 8) ?_
                          intro v19 w8 hs
                          replace HS := hid hs
                          clear hs
                          refine hK.out _ _ (KP.out _ _ HS.out) (fun _ => ?_)
                          clear hK K
                          try simp only [Act.put]
                          refine wpAnyH_ready (rs := [20]) (by kernel_rfl) (by simp) ?_
                          refine AllReadyH.cons rfl (fun K hK => ?_) ?_
                          · go_simp
                            go_wp2_with (go_at_call 28; with_reducible refine (IH _ _ _ (done ++ [x]) (left.take i ++ left.drop (i + 1)) _ HLN.out HLB.out (HJ.out _ _ _ (S.headTwo HS.out))).mono ?_; rintro e w' ⟨b, rfl, himp, hs'⟩; have HX := hid (HBK.out _ _ _ hs'); have HI := hid himp; clear hs' himp)
                            refine hK.out _ _ (HKX.out _ HX.out) (fun _ => ?_)
                            clear hK K
                            refine wpAnyH_done (by kernel_rfl) ?_ _
                            go_wp2_with fail
                            go_meet
                            exact ⟨b, rfl, HI, HX.out⟩
                          exact AllReadyH.nil
                        exact AllReadyH.nil
                      exact AllReadyH.nil
                    exact AllReadyH.nil
                  exact AllReadyH.nil
                exact AllReadyH.nil
              refine AllReadyH.cons rfl (fun K hK => ?_) ?_
              · go_simp
                replace HS := hid (HS.out.alloc_sl (e := 3) [.int .i64 x] _ rfl (one_max x))
                refine hK.out _ _ (KP.out _ _ HS.out) (fun _ => ?_)
                clear hK K
                generalize w2.heap.size = b8 at HS ⊢
                generalize World.alloc w2 _ = w3 at HS ⊢
                refine wpAnyH_ready (rs := [1]) (by kernel_rfl) (by simp) ?_
                refine AllReadyH.cons rfl (fun K hK => ?_) ?_
                · go_simp
                  replace HS := hid (HS.out.alloc_sl (e := 3) [] _ rfl nil_max)
                  refine hK.out _ _ (KP.out _ _ HS.out) (fun _ => ?_)
                  clear hK K
                  generalize w3.heap.size = b1 at HS ⊢
                  generalize World.alloc w3 _ = w4 at HS ⊢
                  refine wpAnyH_ready (rs := [3]) (by kernel_rfl) (by simp) ?_
                  refine AllReadyH.cons rfl (fun K hK => ?_) ?_
                  · refine step_app rfl (.tmp 21) (.tmp 22) 41 rfl 3 i0 _ 8 Tryd.underlying41 hi0 hz0 hz1 hz2 rfl HS.out 0 (by rfl) (by rfl) ad done.length cd (icells done) (by rfl) (icells_length done) (HN1.out _ _ HS.out) (icells_one _) H63a.out (Nat.le_refl 8) ?_
                    intro v3 w5 hs
                    replace HS := hid hs.norm0
                    clear hs
                    refine hK.out _ _ (KP.out _ _ HS.out) (fun _ => ?_)
                    clear hK K
                    try simp only [Act.put, List.setIfInBounds_toArray]
                    refine wpAnyH_ready (rs := [9]) (by kernel_rfl) (by simp) ?_
                    refine AllReadyH.cons rfl (fun K hK => ?_) ?_
                    · refine step_app rfl (.tmp 23) (.tmp 28) 41 rfl 3 i0 _ 8 Tryd.underlying41 hi0 hz0 hz1 hz2 rfl HS.out 0 (by rfl) (by rfl) _ 1 1 (icells [x]) (by rfl) rfl (S.news_sl HS.out 1 (by rfl)) (icells_one _) H63b.out (Nat.le_refl 8) ?_
                      intro v9 w6 hs
                      replace HS := hid hs
                      clear hs
                      refine hK.out _ _ (KP.out _ _ HS.out) (fun _ => ?_)
                      clear hK K
                      try simp only [Act.put]
                      refine wpAnyH_ready (rs := [14]) (by kernel_rfl) (by simp) ?_
                      refine AllReadyH.cons rfl (fun K hK => ?_) ?_
                      · refine step_app rfl (.tmp 30) (.tmp 33) 41 rfl 3 i0 _ 8 Tryd.underlying41 hi0 hz0 hz1 hz2 rfl HS.out 2 (by rfl) (by rfl) (some ⟨gl, ol, none⟩) i cl (icells (left.take i)) (by rfl) HL3.out (HN3.out _ _ HS.out) (icells_one _) H63c.out (Nat.le_refl 8) ?_
                        intro v14 w7 hs
                        replace HS := hid hs.norm0
                        clear hs
                        refine hK.out _ _ (KP.out _ _ HS.out) (fun _ => ?_)
                        clear hK K
                        try simp only [Act.put]
                        refine wpAnyH_ready (rs := [19]) (by kernel_rfl) (by simp) ?_
                        refine AllReadyH.cons rfl (fun K hK => ?_) ?_
                        · refine step_app rfl (.tmp 34) (.tmp 38) 41 rfl 3 i0 _ 8 Tryd.underlying41 hi0 hz0 hz1 hz2 rfl HS.out 0 (by rfl) (by rfl) A4 (left.length - (i + 1)) (cl - (i + 1)) (icells (left.drop (i + 1))) (by rfl) HL4.out (HN4.out _ _ HS.out) (icells_one _) H63d.out (Nat.le_refl 8) ?_
                          intro v19 w8 hs
                          replace HS := hid hs
                          clear hs
                          refine hK.out _ _ (KP.out _ _ HS.out) (fun _ => ?_)
                          clear hK K
                          try simp only [Act.put]
                          refine wpAnyH_ready (rs := [20]) (by kernel_rfl) (by simp) ?_
                          refine AllReadyH.cons rfl (fun K hK => ?_) ?_
                          · go_simp
                            go_wp2_with (go_at_call 28; with_reducible refine (IH _ _ _ (done ++ [x]) (left.take i ++ left.drop (i + 1)) _ HLN.out HLB.out (HJ.out _ _ _ (S.headTwo HS.out))).mono ?_; rintro e w' ⟨b, rfl, himp, hs'⟩; have HX := hid (HBK.out _ _ _ hs'); have HI := hid himp; clear hs' himp)
                            refine hK.out _ _ (HKX.out _ HX.out) (fun _ => ?_)
                            clear hK K
                            refine wpAnyH_done (by kernel_rfl) ?_ _
                            go_wp2_with fail
                            go_meet
                            exact ⟨b, rfl, HI, HX.out⟩
                          exact AllReadyH.nil
                        exact AllReadyH.nil
                      exact AllReadyH.nil
                    exact AllReadyH.nil
                  exact AllReadyH.nil
                exact AllReadyH.nil
              exact AllReadyH.nil
            exact AllReadyH.nil
          case rest =>
          --R1
          obtain ⟨b, rfl, hI, hsx⟩ := hcut
          have H2 := hid hsx
          clear hsx
          cases b with
          | true =>
            obtain ⟨p, hp, hf⟩ := hI.out rfl
            have hf' : fitsB es (done ++ x :: p) = true := by rw [List.append_assoc] at hf; exact hf
            have hp' : (x :: p).Perm left := by
              have h1 : left.take i ++ x :: left.drop (i + 1) = left := by
                have h2 := List.getElem?_eq_some_iff.1 HP.out
                rw [← h2.2, List.getElem_cons_drop, List.take_append_drop]
              exact (hp.cons x).trans ((List.perm_middle.symm).trans (by rw [h1]))
            have HF := hid hf'; have HPP := hid hp'
            clear hp hf hf' hp' hI
            go_wp2_with fail
            go_ret
            exact ⟨true, rfl, fun _ => ⟨_, HPP.out, HF.out⟩, H2.out⟩
          | false =>
            clear hI
            go_wp2_with fail
            go_roundw
            case rel => exact ⟨i + 1, by omega, by go_num, H2.out⟩
            case measure => simp [intOf]; omega
        · have H2 := hid hsr
          clear hsr
          go_wp2_with fail
          go_ret
          exact ⟨false, rfl, by simp, H2.out⟩
end Go.Proofs.YtbcoddibdipjkaaDoor
