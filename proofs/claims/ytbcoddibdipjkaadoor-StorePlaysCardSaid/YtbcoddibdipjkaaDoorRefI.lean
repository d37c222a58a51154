/- The reference's store: Install. -/
import Derived.Test.YtbcoddibdipjkaaDoorRefG
import Derived.Test.YtbcoddibdipjkaaDoorRegK
import Derived.Deep.DeepCutAuto
import Derived.Deep.CutBlock
namespace Go.Proofs.YtbcoddibdipjkaaDoor
open Go Go.RowKit Go.Sep

def RInstPost (w0 : World) (b : Nat) (K : List Kep) (last at_ : Int) (l : Vers) (L : List HProp) (e : Ending) (w' : World) : Prop :=
  if last < at_ ∧ at_ ≤ 1099511627776 then
    match badAt 0 l with
    | none => e = .returned (.agg #[.int .i64 0, .int .i64 (-1)]) ∧ S w0 w' (refP 74 129 b (K ++ rrows at_ l 10) at_ :: L)
    | some (x, p) => e = .returned (.agg #[.int .i64 x, .int .i64 p]) ∧ S w0 w' (refP 74 129 b K last :: L)
  else e = .returned (.agg #[.int .i64 10, .int .i64 (-1)]) ∧ S w0 w' (refP 74 129 b K last :: L)

theorem act_world {w0 w : World} {L : List HProp} {K : Act → World → Prop} {a : Act} (hq : Hid (S w0 w L)) (h : ∀ w', Hid (S w0 w' L) → K a w') : K a w := h w hq
theorem wpAnyH_world {P : Program} {md : Region.Mode} {ops : Array Oper} {Q : Exit → Act → World → Prop} {SS : World → Prop} {fuel : Nat} {listed : Array Bool} {a : Act} {w : World} (q : World → Prop) (hq : q w) (h : ∀ w', q w' → wpAnyH P md ops Q SS fuel listed a w') : wpAnyH P md ops Q SS fuel listed a w := h w hq
set_option maxRecDepth 40000 in
set_option maxHeartbeats 16000000 in
theorem rinstall_any (w0 w : World) (b : Nat) (K : List Kep) (last at_ : Int) (v : Value) (l : Vers) (L : List HProp) (hs : S w0 w (refP 74 129 b K last :: L)) (hr : RdK w0 L v l.length (pcells l)) (hb : K.length ≤ 900000) :
    Calls Tryd.prog 30 #[.pointer (some ⟨b, 0, none⟩), .int .i64 at_, v] w (RInstPost w0 b K last at_ l L) := by
  obtain ⟨v0, h1⟩ := hs.ref_elim
  have h2 := h1.alloc #[.int .i64 0, .int .i64 0] 79
  have c1 := h2.swap.blk_cell 1 rfl
  have H2 : Hid (S w0 (w.alloc (.cells #[.int .i64 0, .int .i64 0] 79)) (blk w.heap.size 79 [.int .i64 0, .int .i64 0] :: refP 74 129 b K last :: L)) := hid (S.swap (S.ref_intro (h2.conv (M := blk b 74 [v0, .int .i64 last] :: sl 129 3 v0 K.length (fcells kcells K) :: blk w.heap.size 79 [.int .i64 0, .int .i64 0] :: L) (by simp only [all]; ac_rfl))))
  obtain ⟨la, lc, rfl, hlc, hlc2, _⟩ := hr w hs.tail
  unfold maxLen at hlc2
  have HRD := hid hr
  clear h1 h2 hs hr
  by_cases h1 : at_ ≤ last
  · have hpo : ∀ e w', (e = Ending.returned (.agg #[.int .i64 10, .int .i64 (-1)]) ∧ S w0 w' (refP 74 129 b K last :: L)) → RInstPost w0 b K last at_ l L e w' := fun e w' h => by unfold RInstPost; rw [if_neg (by omega)]; exact h
    have HPO := hid hpo
    clear hpo
    go_enter Tryd.func30, Tryd.ntmps30
    go_wp2_with (go_at_call 64; with_reducible refine (Bare_any _ _).mono ?_; rintro e w' ⟨rfl, hbw⟩; have hsb := (H2.out).onto hbw; have e0 := hsb.blk_cell 0 rfl; have e1 := hsb.blk_cell 1 rfl; have f0 := hsb.blk_free 0; have f1 := hsb.blk_free 1; have hse := (hsb.blk_set 0 (by simp) (.int .i64 10)).blk_set 1 (by simp) (.int .i64 (-1)); have r0 := hse.blk_cell 0 rfl; have r1 := hse.blk_cell 1 rfl; have HF := hid hse; clear hbw hsb hse)
    exact bodyPost_ret (v := .agg #[.int .i64 10, .int .i64 (-1)]) (by simp [results, Tryd.results30, go_sem, r0, r1]) rfl (HPO.out _ _ ⟨rfl, HF.out.tail⟩)
  by_cases h2 : 1099511627776 < at_
  · have hpo : ∀ e w', (e = Ending.returned (.agg #[.int .i64 10, .int .i64 (-1)]) ∧ S w0 w' (refP 74 129 b K last :: L)) → RInstPost w0 b K last at_ l L e w' := fun e w' h => by unfold RInstPost; rw [if_neg (by omega)]; exact h
    have HPO := hid hpo
    have h1' : last < at_ := by omega
    clear hpo h1
    go_enter Tryd.func30, Tryd.ntmps30
    go_wp2_with (go_at_call 64; with_reducible refine (Bare_any _ _).mono ?_; rintro e w' ⟨rfl, hbw⟩; have hsb := (H2.out).onto hbw; have e0 := hsb.blk_cell 0 rfl; have e1 := hsb.blk_cell 1 rfl; have f0 := hsb.blk_free 0; have f1 := hsb.blk_free 1; have hse := (hsb.blk_set 0 (by simp) (.int .i64 10)).blk_set 1 (by simp) (.int .i64 (-1)); have r0 := hse.blk_cell 0 rfl; have r1 := hse.blk_cell 1 rfl; have HF := hid hse; clear hbw hsb hse)
    exact bodyPost_ret (v := .agg #[.int .i64 10, .int .i64 (-1)]) (by simp [results, Tryd.results30, go_sem, r0, r1]) rfl (HPO.out _ _ ⟨rfl, HF.out.tail⟩)
  have h1' : last < at_ := by omega
  have h2' : at_ ≤ 1099511627776 := by omega
  have hpo : ∀ e w', (match badAt 0 l with
      | none => e = Ending.returned (.agg #[.int .i64 0, .int .i64 (-1)]) ∧ S w0 w' (refP 74 129 b (K ++ rrows at_ l 10) at_ :: L)
      | some (x, p) => e = Ending.returned (.agg #[.int .i64 x, .int .i64 p]) ∧ S w0 w' (refP 74 129 b K last :: L)) → RInstPost w0 b K last at_ l L e w' := fun e w' h => by
    unfold RInstPost; rw [if_pos ⟨h1', h2'⟩]; exact h
  have HPO := hid hpo
  clear hpo h1 h2
  go_enter Tryd.func30, Tryd.ntmps30
  go_wp2_with fail
  go_loopw [26] (fun c wr => ∃ i : Nat, i ≤ l.length ∧ c = .int .i64 i ∧ Hid (badAt 0 l = badAt i (l.drop i)) ∧ S w0 wr (blk w.heap.size 79 [.int .i64 0, .int .i64 0] :: refP 74 129 b K last :: L)) (fun c _ => l.length - (intOf c).toNat)
  case atStart => exact ⟨0, Nat.zero_le _, rfl, hid rfl, H2.out⟩
  case round =>
    rename World => wr
    obtain ⟨i, hi, rfl, hbad, hsr⟩ := hrel
    clear H2 c1
    by_cases hlt : i < l.length
    · have hp : l[i]? = some l[i] := by simp [hlt]
      generalize l[i] = p at hp
      obtain ⟨lb, lo, rfl, c1, c2⟩ := HRD.out.pair hsr.tail.tail hp
      have hd : l.drop i = p :: l.drop (i + 1) := by
        have := List.getElem?_eq_some_iff.1 hp
        rw [List.drop_eq_getElem_cons this.1, this.2]
      have hbad' := hbad.out
      rw [hd] at hbad'
      clear hbad
      by_cases hk : keyOk p.1
      · have hkb : decide ((0 : Int) ≤ p.1 ∧ p.1 ≤ 9) = true := decide_eq_true (by unfold keyOk at hk; omega)
        by_cases hv : valOk p.2
        · have hvb : decide ((-1099511627776 : Int) ≤ p.2 ∧ p.2 ≤ 1099511627776) = true := decide_eq_true hv
          have hx := hbad'
          rw [show badAt i (p :: l.drop (i + 1)) = badAt (i + 1) (l.drop (i + 1)) by simp [badAt, hk, hv]] at hx
          have HX := hid hx; have HF := hid (hsr.alloc #[.int .i64 p.1, .int .i64 p.2] 31).tail
          clear hbad' hsr hx hp hd hk hv
          go_wp2_with (first | (go_at_call 65; with_reducible refine (in_any _ _ _ _).mono ?_; rw [hkb]; rintro e w' ⟨rfl, rfl⟩) | (go_at_call 65; with_reducible refine (in_any _ _ _ _).mono ?_; rw [hvb]; rintro e w' ⟨rfl, rfl⟩))
          go_roundw
          case rel => exact ⟨i + 1, by omega, by go_num, HX, HF.out⟩
          case measure => simp [intOf]; omega
        · have hvb : decide ((-1099511627776 : Int) ≤ p.2 ∧ p.2 ≤ 1099511627776) = false := decide_eq_false hv
          have hx := hbad'
          rw [show badAt i (p :: l.drop (i + 1)) = some (1, (i : Int)) by simp [badAt, hk, hv]] at hx
          have hs2 := (hsr.alloc #[.int .i64 p.1, .int .i64 p.2] 31).tail
          have e0 := hs2.blk_cell 0 rfl
          have e1 := hs2.blk_cell 1 rfl
          have f0 := hs2.blk_free 0
          have f1 := hs2.blk_free 1
          have hse := (hs2.blk_set 0 (by simp) (.int .i64 1)).blk_set 1 (by simp) (.int .i64 (i : Int))
          have r0 := hse.blk_cell 0 rfl
          have r1 := hse.blk_cell 1 rfl
          have HF := hid hse; have HX := hid hx
          clear hk hv hbad' hsr hs2 hse hx hp hd
          go_wp2_with (first | (go_at_call 65; with_reducible refine (in_any _ _ _ _).mono ?_; rw [hkb]; rintro e w' ⟨rfl, rfl⟩) | (go_at_call 65; with_reducible refine (in_any _ _ _ _).mono ?_; rw [hvb]; rintro e w' ⟨rfl, rfl⟩))
          exact bodyPost_ret (v := .agg #[.int .i64 1, .int .i64 (i : Int)]) (by simp [results, Tryd.results30, go_sem, r0, r1]) rfl (HPO.out _ _ (by rw [HX.out]; exact ⟨rfl, HF.out.tail⟩))
      · have hkb : decide ((0 : Int) ≤ p.1 ∧ p.1 ≤ 9) = false := decide_eq_false (by unfold keyOk at hk; omega)
        have hvb := hkb
        have hx := hbad'
        rw [show badAt i (p :: l.drop (i + 1)) = some (2, (i : Int)) by simp [badAt, hk]] at hx
        have hs2 := (hsr.alloc #[.int .i64 p.1, .int .i64 p.2] 31).tail
        have e0 := hs2.blk_cell 0 rfl
        have e1 := hs2.blk_cell 1 rfl
        have f0 := hs2.blk_free 0
        have f1 := hs2.blk_free 1
        have hse := (hs2.blk_set 0 (by simp) (.int .i64 2)).blk_set 1 (by simp) (.int .i64 (i : Int))
        have r0 := hse.blk_cell 0 rfl
        have r1 := hse.blk_cell 1 rfl
        have HF := hid hse; have HX := hid hx
        clear hk hbad' hsr hs2 hse hx hp hd
        go_wp2_with (first | (go_at_call 65; with_reducible refine (in_any _ _ _ _).mono ?_; rw [hkb]; rintro e w' ⟨rfl, rfl⟩) | (go_at_call 65; with_reducible refine (in_any _ _ _ _).mono ?_; rw [hvb]; rintro e w' ⟨rfl, rfl⟩))
        exact bodyPost_ret (v := .agg #[.int .i64 2, .int .i64 (i : Int)]) (by simp [results, Tryd.results30, go_sem, r0, r1]) rfl (HPO.out _ _ (by rw [HX.out]; exact ⟨rfl, HF.out.tail⟩))
    · obtain rfl : i = l.length := by omega
      have hnone : badAt 0 l = none := by rw [hbad.out, List.drop_length]; rfl
      have hr0 : K ++ rrows at_ l 0 = K := by simp [rrows]
      rw [← hr0] at hsr
      have H3 := hid hsr; have HNB := hid hnone
      clear hsr hbad hnone hr0
      go_wp2_with fail
      go_loopw [44] (fun c wr => ∃ k : Nat, k ≤ 10 ∧ c = .int .i64 k ∧ S w0 wr (blk w.heap.size 79 [.int .i64 0, .int .i64 0] :: refP 74 129 b (K ++ rrows at_ l k) last :: L)) (fun c _ => 10 - (intOf c).toNat)
      case atStart => exact ⟨0, Nat.zero_le _, rfl, H3.out⟩
      case round =>
        rename World => wr
        obtain ⟨k, hk, rfl, hsr⟩ := hrel
        clear H3
        by_cases hk10 : k < 10
        · have H4 := hid hsr
          clear hsr
          go_wp2_with fail
          go_loopw [10, 49] (fun lv c wx => ∃ j : Nat, j ≤ l.length ∧ c = .int .i64 j ∧ lv = .int .i64 (lastIx 0 k (-1) (l.take j)) ∧ S w0 wx (blk w.heap.size 79 [.int .i64 0, .int .i64 0] :: refP 74 129 b (K ++ rrows at_ l k) last :: L)) (fun _ c _ => l.length - (intOf c).toNat)
          case atStart => exact ⟨0, Nat.zero_le _, rfl, rfl, H4.out⟩
          case round =>
            rename World => wx
            obtain ⟨j, hj, rfl, rfl, hsx⟩ := hrel
            clear H4
            by_cases hjl : j < l.length
            · have hp : l[j]? = some l[j] := by simp [hjl]
              generalize l[j] = p at hp
              obtain ⟨lb, lo, rfl, c1, c2⟩ := HRD.out.pair hsx.tail.tail hp
              have hix := lastIx_snoc k (l.take j) 0 (-1) p
              rw [← take_succ_get hp, List.length_take, Nat.min_eq_left (by omega), Nat.zero_add] at hix
              have H5 := hid (hsx.alloc #[.int .i64 p.1, .int .i64 p.2] 31).tail
              clear hsx hp
              by_cases hpk : p.1 = k
              · rw [hpk] at c1 H5
                rw [if_pos hpk] at hix
                have HIX := hid hix
                clear hix hpk
                go_wp2_with fail
                go_roundw
                case rel => exact ⟨j + 1, by omega, by go_num, by rw [HIX.out], H5.out⟩
                case measure => simp [intOf]; omega
              · have hpb : (p.1 == (k : Int)) = false := by simpa using hpk
                rw [if_neg hpk] at hix
                have HIX := hid hix
                clear hix hpk
                go_wp2_with fail
                go_roundw
                case rel => exact ⟨j + 1, by omega, by go_num, by rw [HIX.out], H5.out⟩
                case measure => simp [intOf]; omega
            · obtain rfl : j = l.length := by omega
              rw [List.take_length]
              have hsuc := rrows_succ at_ l k
              rcases lastIx_spec l k with ⟨h1, h2⟩ | ⟨j, p, h1, h2, h3⟩
              · rw [h1]
                have hrr : rrow at_ l k = [] := by unfold rrow; rw [h2]
                rw [hrr, List.append_nil] at hsuc
                have H5 := hid hsx; have HSUC := hid hsuc
                clear hsx h1 h2 hrr hsuc
                go_wp2_with fail
                go_roundw
                case rel => exact ⟨k + 1, by omega, by go_num, by rw [HSUC.out]; exact H5.out⟩
                case measure => simp [intOf]; omega
              · rw [h1]
                obtain ⟨pk, vv⟩ := p
                have hrr : rrow at_ l k = [((k : Int), at_, vv)] := by unfold rrow; rw [h3]
                rw [hrr] at hsuc
                replace hsuc : K ++ rrows at_ l (k + 1) = K ++ rrows at_ l k ++ [((k : Int), at_, vv)] := by rw [hsuc, List.append_assoc]
                have hrl := rrows_le at_ l k
                have hjl2 := (List.getElem?_eq_some_iff.1 h2).1
                obtain ⟨gl, ol, rfl, _, _⟩ := HRD.out.pair hsx.tail.tail h2
                obtain ⟨K', hK'⟩ : ∃ K', K ++ rrows at_ l k = K' := ⟨_, rfl⟩
                have hKl : K'.length ≤ 900010 := by rw [← hK', List.length_append]; omega
                rw [hK'] at hsx hsuc
                obtain ⟨v1, hsr⟩ := (hsx.swap).ref_elim
                obtain ⟨a, c, rfl, hc1, hc2, _⟩ := hsr.swap.sl_val
                have hnq := news_old (w := wx) (ad := a) (xs := fcells kcells K') fun j u hj => by
                  obtain ⟨g2, o2, c2, hv2, _, _, _, hlt2, hcc2, _⟩ := hsr.swap.sl_some (by have := (List.getElem?_eq_some_iff.1 hj).1; omega)
                  simp only [Value.slice.injEq] at hv2
                  exact ⟨g2, o2, hv2.1, hlt2, hcc2 j u hj⟩
                have hjx : ∀ (W : World) (M : List HProp), S wx W M → S w0 W (M ++ (blk b 74 [.slice a K'.length c, .int .i64 last] :: sl 129 3 (.slice a K'.length c) K'.length (fcells kcells K') :: blk w.heap.size 79 [.int .i64 0, .int .i64 0] :: L)) := fun W M h => hsr.join h
                have hkp : ∀ (W : World) (M : List HProp), S wx W M → W.cell? ⟨b, 0, none⟩ = some (.slice a K'.length c) ∧ W.frozen? ⟨b, 0, none⟩ = false := fun W M h => by
                  have h' := (hjx W M h).rest
                  exact ⟨h'.blk_cell 0 rfl, h'.blk_free 0⟩
                have hq : ∀ (W : World) (M : List HProp), S wx W M → W.cell? ⟨gl, ol + j * 2 + 1, none⟩ = some (.int .i64 vv) := fun W M h => by
                  obtain ⟨g2, o2, hg, _, hcc⟩ := HRD.out.pair (hjx W M h).rest.tail.tail.tail h2
                  obtain ⟨rfl, rfl⟩ : gl = g2 ∧ ol = o2 := by simpa using hg
                  exact hcc
                have hq2 : ∀ (W : World), S w0 W (blk w.heap.size 79 [.int .i64 0, .int .i64 0] :: refP 74 129 b (K' ++ [((k : Int), at_, vv)]) last :: L) → W.cell? ⟨gl, ol + j * 2 + 1, none⟩ = some (.int .i64 vv) := fun W h => by
                  obtain ⟨g2, o2, hg, _, hcc⟩ := HRD.out.pair h.tail.tail h2
                  obtain ⟨rfl, rfl⟩ : gl = g2 ∧ ol = o2 := by simpa using hg
                  exact hcc
                have hfin : ∀ (W : World) (v' : Value) (B : HProp), S wx W [sl 129 3 v' (K'.length + 1) (fcells kcells K' ++ fcells kcells [((k : Int), at_, vv)]), B] → S w0 (W.setCell ⟨b, 0, none⟩ v') (blk w.heap.size 79 [.int .i64 0, .int .i64 0] :: refP 74 129 b (K' ++ [((k : Int), at_, vv)]) last :: L) := fun W v' B h => by
                  have h1 : S w0 W (blk b 74 [.slice a K'.length c, .int .i64 last] :: sl 129 3 v' (K' ++ [((k : Int), at_, vv)]).length (fcells kcells (K' ++ [((k : Int), at_, vv)])) :: B :: sl 129 3 (.slice a K'.length c) K'.length (fcells kcells K') :: blk w.heap.size 79 [.int .i64 0, .int .i64 0] :: L) := (hjx W _ h).conv (by
                    rw [fcells_append, List.length_append, List.length_singleton]
                    simp only [List.cons_append, List.nil_append, all]; ac_rfl)
                  have h2 := h1.blk_set 0 (by simp) v'
                  exact S.swap (S.ref_intro (h2.conv (M := B :: sl 129 3 (.slice a K'.length c) K'.length (fcells kcells K') :: blk b 74 [v', .int .i64 last] :: sl 129 3 v' (K' ++ [((k : Int), at_, vv)]).length (fcells kcells (K' ++ [((k : Int), at_, vv)])) :: blk w.heap.size 79 [.int .i64 0, .int .i64 0] :: L) (by simp only [all, List.set_cons_zero]; ac_rfl)).tail.tail)
                have HFIN := hid hfin; have KP := hid hkp; have HN := hid hnq; have HQ := hid hq; have HQ2 := hid hq2; have HSUC := hid hsuc
                have H63a : Hid (0 + K'.length ≤ 1000000) := hid (by omega)
                have H63b : Hid (K'.length + 1 ≤ 1000000) := hid (by omega)
                have hjb0 : (0 : Int) ≤ (j : Int) := by omega
                have hjb1 : (j : Int) < (l.length : Int) := by omega
                obtain ⟨i0, hi0, hz0, hz1, hz2⟩ := info_parts Tryd.info129
                clear hfin hkp hnq hq hq2 hjx hsr hsx h1 h2 h3 hrr hsuc hK'
                go_wp2_with fail
                refine wp_region_held_drew (S := fun w' => w'.cell? ⟨gl, ol + j * 2 + 1, none⟩ = some (.int .i64 vv)) (by kernel_rfl) (HQ.out _ _ (S.start wx).drew) (fun hHeld => ?_)
                refine wpAnyH_take (i := 0) (v := ?_) rfl (by kernel_rfl) (by kernel_rfl) (by kernel_rfl) (fun _ _ _ h => h) (Or.inl ⟨by rfl, ?_⟩) hHeld ?_
                rotate_left
                · (intro w hSw; (try dsimp only at hSw); go_simp) <;> with_reducible rfl
                try simp only [Act.put, List.setIfInBounds_toArray]
                refine wpAnyH_take (i := 2) (v := ?_) rfl (by kernel_rfl) (by kernel_rfl) (by kernel_rfl) (fun _ _ _ h => h) (Or.inl ⟨by rfl, ?_⟩) hHeld ?_
                rotate_left
                · (intro w hSw; (try dsimp only at hSw); go_simp) <;> with_reducible rfl
                try simp only [Act.put]
                refine wpAnyH_take (i := 3) (v := ?_) rfl (by kernel_rfl) (by kernel_rfl) (by kernel_rfl) (fun _ _ _ h => h) (Or.inl ⟨by rfl, ?_⟩) hHeld ?_
                rotate_left
                · (intro w hSw; (try dsimp only at hSw); go_simp) <;> with_reducible rfl
                try simp only [Act.put]
                refine wpAnyH_take (i := 4) (v := ?_) rfl (by kernel_rfl) (by kernel_rfl) (by kernel_rfl) (fun _ _ _ h => h) (Or.inl ⟨by rfl, ?_⟩) hHeld ?_
                rotate_left
                · (intro w hSw; (try dsimp only at hSw); go_simp) <;> with_reducible rfl
                try simp only [Act.put]
                refine wpAnyH_take (i := 7) (v := ?_) rfl (by kernel_rfl) (by kernel_rfl) (by kernel_rfl) (fun _ _ _ h => h) (Or.inl ⟨by rfl, ?_⟩) hHeld ?_
                rotate_left
                · (intro w hSw; (try dsimp only at hSw); go_simp) <;> with_reducible rfl
                try simp only [Act.put]
                refine wpAnyH_take (i := 8) (v := ?_) rfl (by kernel_rfl) (by kernel_rfl) (by kernel_rfl) (fun _ _ _ h => h) (Or.inl ⟨by rfl, ?_⟩) hHeld ?_
                rotate_left
                · (intro w hSw; (try dsimp only at hSw); go_simp) <;> with_reducible rfl
                try simp only [Act.put]
                refine wpAnyH_take (i := 9) (v := ?_) rfl (by kernel_rfl) (by kernel_rfl) (by kernel_rfl) (fun _ _ _ h => h) (Or.inl ⟨by rfl, ?_⟩) hHeld ?_
                rotate_left
                · (intro w hSw; (try dsimp only at hSw); go_simp) <;> with_reducible rfl
                try simp only [Act.put]
                refine wpAnyH_take (i := 10) (v := ?_) rfl (by kernel_rfl) (by kernel_rfl) (by kernel_rfl) (fun _ _ _ h => h) (Or.inl ⟨by rfl, ?_⟩) hHeld ?_
                rotate_left
                · (intro w hSw; (try dsimp only at hSw); go_simp) <;> with_reducible rfl
                try simp only [Act.put]
                refine wpAnyH_take (i := 11) (v := ?_) rfl (by kernel_rfl) (by kernel_rfl) (by kernel_rfl) (fun _ _ _ h => h) (Or.inl ⟨by rfl, ?_⟩) hHeld ?_
                rotate_left
                · (intro w hSw; (try dsimp only at hSw); go_simp) <;> with_reducible rfl
                try simp only [Act.put]
                refine wpAnyH_take (i := 12) (v := ?_) rfl (by kernel_rfl) (by kernel_rfl) (by kernel_rfl) (fun _ _ _ h => h) (Or.inl ⟨by rfl, ?_⟩) hHeld ?_
                rotate_left
                · (intro w hSw; (try dsimp only at hSw); go_simp) <;> with_reducible rfl
                try simp only [Act.put]
                refine wpAnyH_take (i := 13) (v := ?_) rfl (by kernel_rfl) (by kernel_rfl) (by kernel_rfl) (fun _ _ _ h => h) (Or.inl ⟨by rfl, ?_⟩) hHeld ?_
                rotate_left
                · (intro w hSw; (try dsimp only at hSw); go_simp) <;> with_reducible rfl
                try simp only [Act.put]
                refine wpAnyH_take (i := 14) (v := ?_) rfl (by kernel_rfl) (by kernel_rfl) (by kernel_rfl) (fun _ _ _ h => h) (Or.inl ⟨by rfl, ?_⟩) hHeld ?_
                rotate_left
                · (intro w hSw; (try dsimp only at hSw); go_simp) <;> with_reducible rfl
                try simp only [Act.put]
                refine wpAnyH_take (i := 15) (v := ?_) rfl (by kernel_rfl) (by kernel_rfl) (by kernel_rfl) (fun _ _ _ h => h) (Or.inl ⟨by rfl, ?_⟩) hHeld ?_
                rotate_left
                · (intro w hSw; (try dsimp only at hSw); go_simp) <;> with_reducible rfl
                try simp only [Act.put]
                have HS := hid (S.start wx).drew
                clear hHeld
                refine wpAnyH_world (fun w => Hid (S wx w [])) HS (fun w1 HS => ?_)
                refine wpAnyH_ready (rs := [1, 5, 16]) (by kernel_rfl) (by simp) ?_
                refine AllReadyH.cons rfl (fun K hK => ?_) ?_
                · go_simp
                  replace HS := hid (HS.out.alloc_slK (e := 129) (size := 3) [] 0 rfl (by unfold maxLen; omega))
                  generalize w1.heap.size = b1 at HS ⊢
                  refine act_world HS (fun w2 HS => ?_)
                  refine hK.out _ _ (HQ.out _ _ HS.out) (fun _ => ?_)
                  clear hK K
                  refine wpAnyH_ready (rs := [5, 16]) (by kernel_rfl) (by simp) ?_
                  refine AllReadyH.cons rfl (fun K hK => ?_) ?_
                  · have q := (KP.out _ _ HS.out).1
                    go_simp
                    refine hK.out _ _ (HQ.out _ _ HS.out) (fun _ => ?_)
                    clear hK K q
                    refine wpAnyH_ready (rs := [6, 16]) (by kernel_rfl) (by simp) ?_
                    refine AllReadyH.cons rfl (fun K hK => ?_) ?_
                    · refine step_appK rfl (.tmp 63) (.tmp 67) 72 rfl 129 i0 _ 3 24 Tryd.underlying72 hi0 hz0 hz1 hz2 rfl (by decide) HS.out 0 (by rfl) (by rfl) a K'.length c (fcells kcells K') (by rfl) (fk_len K') (HN.out _ _ HS.out) (fk_one _) H63a.out (by decide) ?_
                      intro v_a6 w3 hs
                      replace HS := hid hs.norm0K
                      clear hs
                      refine hK.out _ _ (HQ.out _ _ HS.out) (fun _ => ?_)
                      clear hK K
                      try simp only [Act.put, List.setIfInBounds_toArray]
                      refine wpAnyH_ready (rs := [16]) (by kernel_rfl) (by simp) ?_
                      refine AllReadyH.cons rfl (fun K hK => ?_) ?_
                      · go_simp
                        replace HS := hid (HS.out.alloc_slK (e := 129) (size := 3) (fcells kcells [((k : Int), at_, vv)]) 1 rfl (by unfold maxLen; omega))
                        generalize w3.heap.size = b16 at HS ⊢
                        refine act_world HS (fun w4 HS => ?_)
                        refine hK.out _ _ (HQ.out _ _ HS.out) (fun _ => ?_)
                        clear hK K
                        refine wpAnyH_ready (rs := [17]) (by kernel_rfl) (by simp) ?_
                        refine AllReadyH.cons rfl (fun K hK => ?_) ?_
                        · refine step_appK rfl (.tmp 68) (.tmp 78) 72 rfl 129 i0 _ 3 24 Tryd.underlying72 hi0 hz0 hz1 hz2 rfl (by decide) HS.out 1 (by rfl) (by rfl) _ 1 1 (fcells kcells [((k : Int), at_, vv)]) (by rfl) rfl (S.news_slK HS.out 0 (by rfl)) (fk_one _) H63b.out (by decide) ?_
                          intro v_a17 w5 hs
                          replace HS := hid hs
                          clear hs
                          refine hK.out _ _ (HQ.out _ _ HS.out) (fun _ => ?_)
                          clear hK K
                          try simp only [Act.put, List.setIfInBounds_toArray]
                          obtain ⟨aN, cN, rfl, _, _, _⟩ := HS.out.sl_val
                          refine wpAnyH_take (i := 18) (v := ?_) rfl (by kernel_rfl) (by kernel_rfl) (by kernel_rfl) (fun _ _ _ h => h) (Or.inl ⟨by rfl, ?_⟩) (HQ.out _ _ HS.out) ?_
                          rotate_left
                          · (intro w hSw; (try dsimp only at hSw); go_simp) <;> with_reducible rfl
                          try simp only [Act.put]
                          refine wpAnyH_take (i := 19) (v := ?_) rfl (by kernel_rfl) (by kernel_rfl) (by kernel_rfl) (fun _ _ _ h => h) (Or.inl ⟨by rfl, ?_⟩) (HQ.out _ _ HS.out) ?_
                          rotate_left
                          · (intro w hSw; (try dsimp only at hSw); go_simp) <;> with_reducible rfl
                          try simp only [Act.put]
                          refine wpAnyH_ready (rs := [20]) (by kernel_rfl) (by simp) ?_
                          refine AllReadyH.cons rfl (fun K hK => ?_) ?_
                          · have q := (KP.out _ _ HS.out).1
                            have q2 := (KP.out _ _ HS.out).2
                            go_simp
                            refine hK.out _ _ (HQ2.out _ (HFIN.out _ _ _ (S.headTwo HS.out))) (fun _ => ?_)
                            clear hK K q q2
                            refine wpAnyH_done (by kernel_rfl) ?_ _
                            have H6 := hid (HFIN.out _ _ _ (S.headTwo HS.out))
                            go_wp2_with fail
                            go_roundw
                            case rel => exact ⟨k + 1, by omega, by go_num, by rw [HSUC.out]; exact H6.out⟩
                            case measure => simp [intOf]; omega
                          exact AllReadyH.nil
                        exact AllReadyH.nil
                      exact AllReadyH.nil
                    refine AllReadyH.cons rfl (fun K hK => ?_) ?_
                    · go_simp
                      replace HS := hid (HS.out.alloc_slK (e := 129) (size := 3) (fcells kcells [((k : Int), at_, vv)]) 1 rfl (by unfold maxLen; omega))
                      generalize w2.heap.size = b16 at HS ⊢
                      refine act_world HS (fun w3 HS => ?_)
                      refine hK.out _ _ (HQ.out _ _ HS.out) (fun _ => ?_)
                      clear hK K
                      refine wpAnyH_ready (rs := [6]) (by kernel_rfl) (by simp) ?_
                      refine AllReadyH.cons rfl (fun K hK => ?_) ?_
                      · refine step_appK rfl (.tmp 63) (.tmp 67) 72 rfl 129 i0 _ 3 24 Tryd.underlying72 hi0 hz0 hz1 hz2 rfl (by decide) HS.out 1 (by rfl) (by rfl) a K'.length c (fcells kcells K') (by rfl) (fk_len K') (HN.out _ _ HS.out) (fk_one _) H63a.out (by decide) ?_
                        intro v_a6 w4 hs
                        replace HS := hid hs.norm0K
                        clear hs
                        refine hK.out _ _ (HQ.out _ _ HS.out) (fun _ => ?_)
                        clear hK K
                        try simp only [Act.put, List.setIfInBounds_toArray]
                        refine wpAnyH_ready (rs := [17]) (by kernel_rfl) (by simp) ?_
                        refine AllReadyH.cons rfl (fun K hK => ?_) ?_
                        · refine step_appK rfl (.tmp 68) (.tmp 78) 72 rfl 129 i0 _ 3 24 Tryd.underlying72 hi0 hz0 hz1 hz2 rfl (by decide) HS.out 0 (by rfl) (by rfl) _ 1 1 (fcells kcells [((k : Int), at_, vv)]) (by rfl) rfl (S.news_slK HS.out 1 (by rfl)) (fk_one _) H63b.out (by decide) ?_
                          intro v_a17 w5 hs
                          replace HS := hid hs
                          clear hs
                          refine hK.out _ _ (HQ.out _ _ HS.out) (fun _ => ?_)
                          clear hK K
                          try simp only [Act.put]
                          obtain ⟨aN, cN, rfl, _, _, _⟩ := HS.out.sl_val
                          refine wpAnyH_take (i := 18) (v := ?_) rfl (by kernel_rfl) (by kernel_rfl) (by kernel_rfl) (fun _ _ _ h => h) (Or.inl ⟨by rfl, ?_⟩) (HQ.out _ _ HS.out) ?_
                          rotate_left
                          · (intro w hSw; (try dsimp only at hSw); go_simp) <;> with_reducible rfl
                          try simp only [Act.put]
                          refine wpAnyH_take (i := 19) (v := ?_) rfl (by kernel_rfl) (by kernel_rfl) (by kernel_rfl) (fun _ _ _ h => h) (Or.inl ⟨by rfl, ?_⟩) (HQ.out _ _ HS.out) ?_
                          rotate_left
                          · (intro w hSw; (try dsimp only at hSw); go_simp) <;> with_reducible rfl
                          try simp only [Act.put]
                          refine wpAnyH_ready (rs := [20]) (by kernel_rfl) (by simp) ?_
                          refine AllReadyH.cons rfl (fun K hK => ?_) ?_
                          · have q := (KP.out _ _ HS.out).1
                            have q2 := (KP.out _ _ HS.out).2
                            go_simp
                            refine hK.out _ _ (HQ2.out _ (HFIN.out _ _ _ (S.headTwo HS.out))) (fun _ => ?_)
                            clear hK K q q2
                            refine wpAnyH_done (by kernel_rfl) ?_ _
                            have H6 := hid (HFIN.out _ _ _ (S.headTwo HS.out))
                            go_wp2_with fail
                            go_roundw
                            case rel => exact ⟨k + 1, by omega, by go_num, by rw [HSUC.out]; exact H6.out⟩
                            case measure => simp [intOf]; omega
                          exact AllReadyH.nil
                        exact AllReadyH.nil
                      exact AllReadyH.nil
                    exact AllReadyH.nil
                  refine AllReadyH.cons rfl (fun K hK => ?_) ?_
                  · go_simp
                    replace HS := hid (HS.out.alloc_slK (e := 129) (size := 3) (fcells kcells [((k : Int), at_, vv)]) 1 rfl (by unfold maxLen; omega))
                    generalize w2.heap.size = b16 at HS ⊢
                    refine act_world HS (fun w3 HS => ?_)
                    refine hK.out _ _ (HQ.out _ _ HS.out) (fun _ => ?_)
                    clear hK K
                    refine wpAnyH_ready (rs := [5]) (by kernel_rfl) (by simp) ?_
                    refine AllReadyH.cons rfl (fun K hK => ?_) ?_
                    · have q := (KP.out _ _ HS.out).1
                      go_simp
                      refine hK.out _ _ (HQ.out _ _ HS.out) (fun _ => ?_)
                      clear hK K q
                      refine wpAnyH_ready (rs := [6]) (by kernel_rfl) (by simp) ?_
                      refine AllReadyH.cons rfl (fun K hK => ?_) ?_
                      · refine step_appK rfl (.tmp 63) (.tmp 67) 72 rfl 129 i0 _ 3 24 Tryd.underlying72 hi0 hz0 hz1 hz2 rfl (by decide) HS.out 1 (by rfl) (by rfl) a K'.length c (fcells kcells K') (by rfl) (fk_len K') (HN.out _ _ HS.out) (fk_one _) H63a.out (by decide) ?_
                        intro v_a6 w4 hs
                        replace HS := hid hs.norm0K
                        clear hs
                        refine hK.out _ _ (HQ.out _ _ HS.out) (fun _ => ?_)
                        clear hK K
                        try simp only [Act.put, List.setIfInBounds_toArray]
                        refine wpAnyH_ready (rs := [17]) (by kernel_rfl) (by simp) ?_
                        refine AllReadyH.cons rfl (fun K hK => ?_) ?_
                        · refine step_appK rfl (.tmp 68) (.tmp 78) 72 rfl 129 i0 _ 3 24 Tryd.underlying72 hi0 hz0 hz1 hz2 rfl (by decide) HS.out 0 (by rfl) (by rfl) _ 1 1 (fcells kcells [((k : Int), at_, vv)]) (by rfl) rfl (S.news_slK HS.out 1 (by rfl)) (fk_one _) H63b.out (by decide) ?_
                          intro v_a17 w5 hs
                          replace HS := hid hs
                          clear hs
                          refine hK.out _ _ (HQ.out _ _ HS.out) (fun _ => ?_)
                          clear hK K
                          try simp only [Act.put]
                          obtain ⟨aN, cN, rfl, _, _, _⟩ := HS.out.sl_val
                          refine wpAnyH_take (i := 18) (v := ?_) rfl (by kernel_rfl) (by kernel_rfl) (by kernel_rfl) (fun _ _ _ h => h) (Or.inl ⟨by rfl, ?_⟩) (HQ.out _ _ HS.out) ?_
                          rotate_left
                          · (intro w hSw; (try dsimp only at hSw); go_simp) <;> with_reducible rfl
                          try simp only [Act.put]
                          refine wpAnyH_take (i := 19) (v := ?_) rfl (by kernel_rfl) (by kernel_rfl) (by kernel_rfl) (fun _ _ _ h => h) (Or.inl ⟨by rfl, ?_⟩) (HQ.out _ _ HS.out) ?_
                          rotate_left
                          · (intro w hSw; (try dsimp only at hSw); go_simp) <;> with_reducible rfl
                          try simp only [Act.put]
                          refine wpAnyH_ready (rs := [20]) (by kernel_rfl) (by simp) ?_
                          refine AllReadyH.cons rfl (fun K hK => ?_) ?_
                          · have q := (KP.out _ _ HS.out).1
                            have q2 := (KP.out _ _ HS.out).2
                            go_simp
                            refine hK.out _ _ (HQ2.out _ (HFIN.out _ _ _ (S.headTwo HS.out))) (fun _ => ?_)
                            clear hK K q q2
                            refine wpAnyH_done (by kernel_rfl) ?_ _
                            have H6 := hid (HFIN.out _ _ _ (S.headTwo HS.out))
                            go_wp2_with fail
                            go_roundw
                            case rel => exact ⟨k + 1, by omega, by go_num, by rw [HSUC.out]; exact H6.out⟩
                            case measure => simp [intOf]; omega
                          exact AllReadyH.nil
                        exact AllReadyH.nil
                      exact AllReadyH.nil
                    exact AllReadyH.nil
                  exact AllReadyH.nil
                refine AllReadyH.cons rfl (fun K hK => ?_) ?_
                · have q := (KP.out _ _ HS.out).1
                  go_simp
                  refine hK.out _ _ (HQ.out _ _ HS.out) (fun _ => ?_)
                  clear hK K q
                  refine wpAnyH_ready (rs := [1, 16]) (by kernel_rfl) (by simp) ?_
                  refine AllReadyH.cons rfl (fun K hK => ?_) ?_
                  · go_simp
                    replace HS := hid (HS.out.alloc_slK (e := 129) (size := 3) [] 0 rfl (by unfold maxLen; omega))
                    generalize w1.heap.size = b1 at HS ⊢
                    refine act_world HS (fun w2 HS => ?_)
                    refine hK.out _ _ (HQ.out _ _ HS.out) (fun _ => ?_)
                    clear hK K
                    refine wpAnyH_ready (rs := [6, 16]) (by kernel_rfl) (by simp) ?_
                    refine AllReadyH.cons rfl (fun K hK => ?_) ?_
                    · refine step_appK rfl (.tmp 63) (.tmp 67) 72 rfl 129 i0 _ 3 24 Tryd.underlying72 hi0 hz0 hz1 hz2 rfl (by decide) HS.out 0 (by rfl) (by rfl) a K'.length c (fcells kcells K') (by rfl) (fk_len K') (HN.out _ _ HS.out) (fk_one _) H63a.out (by decide) ?_
                      intro v_a6 w3 hs
                      replace HS := hid hs.norm0K
                      clear hs
                      refine hK.out _ _ (HQ.out _ _ HS.out) (fun _ => ?_)
                      clear hK K
                      try simp only [Act.put, List.setIfInBounds_toArray]
                      refine wpAnyH_ready (rs := [16]) (by kernel_rfl) (by simp) ?_
                      refine AllReadyH.cons rfl (fun K hK => ?_) ?_
                      · go_simp
                        replace HS := hid (HS.out.alloc_slK (e := 129) (size := 3) (fcells kcells [((k : Int), at_, vv)]) 1 rfl (by unfold maxLen; omega))
                        generalize w3.heap.size = b16 at HS ⊢
                        refine act_world HS (fun w4 HS => ?_)
                        refine hK.out _ _ (HQ.out _ _ HS.out) (fun _ => ?_)
                        clear hK K
                        refine wpAnyH_ready (rs := [17]) (by kernel_rfl) (by simp) ?_
                        refine AllReadyH.cons rfl (fun K hK => ?_) ?_
                        · refine step_appK rfl (.tmp 68) (.tmp 78) 72 rfl 129 i0 _ 3 24 Tryd.underlying72 hi0 hz0 hz1 hz2 rfl (by decide) HS.out 1 (by rfl) (by rfl) _ 1 1 (fcells kcells [((k : Int), at_, vv)]) (by rfl) rfl (S.news_slK HS.out 0 (by rfl)) (fk_one _) H63b.out (by decide) ?_
                          intro v_a17 w5 hs
                          replace HS := hid hs
                          clear hs
                          refine hK.out _ _ (HQ.out _ _ HS.out) (fun _ => ?_)
                          clear hK K
                          try simp only [Act.put, List.setIfInBounds_toArray]
                          obtain ⟨aN, cN, rfl, _, _, _⟩ := HS.out.sl_val
                          refine wpAnyH_take (i := 18) (v := ?_) rfl (by kernel_rfl) (by kernel_rfl) (by kernel_rfl) (fun _ _ _ h => h) (Or.inl ⟨by rfl, ?_⟩) (HQ.out _ _ HS.out) ?_
                          rotate_left
                          · (intro w hSw; (try dsimp only at hSw); go_simp) <;> with_reducible rfl
                          try simp only [Act.put]
                          refine wpAnyH_take (i := 19) (v := ?_) rfl (by kernel_rfl) (by kernel_rfl) (by kernel_rfl) (fun _ _ _ h => h) (Or.inl ⟨by rfl, ?_⟩) (HQ.out _ _ HS.out) ?_
                          rotate_left
                          · (intro w hSw; (try dsimp only at hSw); go_simp) <;> with_reducible rfl
                          try simp only [Act.put]
                          refine wpAnyH_ready (rs := [20]) (by kernel_rfl) (by simp) ?_
                          refine AllReadyH.cons rfl (fun K hK => ?_) ?_
                          · have q := (KP.out _ _ HS.out).1
                            have q2 := (KP.out _ _ HS.out).2
                            go_simp
                            refine hK.out _ _ (HQ2.out _ (HFIN.out _ _ _ (S.headTwo HS.out))) (fun _ => ?_)
                            clear hK K q q2
                            refine wpAnyH_done (by kernel_rfl) ?_ _
                            have H6 := hid (HFIN.out _ _ _ (S.headTwo HS.out))
                            go_wp2_with fail
                            go_roundw
                            case rel => exact ⟨k + 1, by omega, by go_num, by rw [HSUC.out]; exact H6.out⟩
                            case measure => simp [intOf]; omega
                          exact AllReadyH.nil
                        exact AllReadyH.nil
                      exact AllReadyH.nil
                    refine AllReadyH.cons rfl (fun K hK => ?_) ?_
                    · go_simp
                      replace HS := hid (HS.out.alloc_slK (e := 129) (size := 3) (fcells kcells [((k : Int), at_, vv)]) 1 rfl (by unfold maxLen; omega))
                      generalize w2.heap.size = b16 at HS ⊢
                      refine act_world HS (fun w3 HS => ?_)
                      refine hK.out _ _ (HQ.out _ _ HS.out) (fun _ => ?_)
                      clear hK K
                      refine wpAnyH_ready (rs := [6]) (by kernel_rfl) (by simp) ?_
                      refine AllReadyH.cons rfl (fun K hK => ?_) ?_
                      · refine step_appK rfl (.tmp 63) (.tmp 67) 72 rfl 129 i0 _ 3 24 Tryd.underlying72 hi0 hz0 hz1 hz2 rfl (by decide) HS.out 1 (by rfl) (by rfl) a K'.length c (fcells kcells K') (by rfl) (fk_len K') (HN.out _ _ HS.out) (fk_one _) H63a.out (by decide) ?_
                        intro v_a6 w4 hs
                        replace HS := hid hs.norm0K
                        clear hs
                        refine hK.out _ _ (HQ.out _ _ HS.out) (fun _ => ?_)
                        clear hK K
                        try simp only [Act.put, List.setIfInBounds_toArray]
                        refine wpAnyH_ready (rs := [17]) (by kernel_rfl) (by simp) ?_
                        refine AllReadyH.cons rfl (fun K hK => ?_) ?_
                        · refine step_appK rfl (.tmp 68) (.tmp 78) 72 rfl 129 i0 _ 3 24 Tryd.underlying72 hi0 hz0 hz1 hz2 rfl (by decide) HS.out 0 (by rfl) (by rfl) _ 1 1 (fcells kcells [((k : Int), at_, vv)]) (by rfl) rfl (S.news_slK HS.out 1 (by rfl)) (fk_one _) H63b.out (by decide) ?_
                          intro v_a17 w5 hs
                          replace HS := hid hs
                          clear hs
                          refine hK.out _ _ (HQ.out _ _ HS.out) (fun _ => ?_)
                          clear hK K
                          try simp only [Act.put]
                          obtain ⟨aN, cN, rfl, _, _, _⟩ := HS.out.sl_val
                          refine wpAnyH_take (i := 18) (v := ?_) rfl (by kernel_rfl) (by kernel_rfl) (by kernel_rfl) (fun _ _ _ h => h) (Or.inl ⟨by rfl, ?_⟩) (HQ.out _ _ HS.out) ?_
                          rotate_left
                          · (intro w hSw; (try dsimp only at hSw); go_simp) <;> with_reducible rfl
                          try simp only [Act.put]
                          refine wpAnyH_take (i := 19) (v := ?_) rfl (by kernel_rfl) (by kernel_rfl) (by kernel_rfl) (fun _ _ _ h => h) (Or.inl ⟨by rfl, ?_⟩) (HQ.out _ _ HS.out) ?_
                          rotate_left
                          · (intro w hSw; (try dsimp only at hSw); go_simp) <;> with_reducible rfl
                          try simp only [Act.put]
                          refine wpAnyH_ready (rs := [20]) (by kernel_rfl) (by simp) ?_
                          refine AllReadyH.cons rfl (fun K hK => ?_) ?_
                          · have q := (KP.out _ _ HS.out).1
                            have q2 := (KP.out _ _ HS.out).2
                            go_simp
                            refine hK.out _ _ (HQ2.out _ (HFIN.out _ _ _ (S.headTwo HS.out))) (fun _ => ?_)
                            clear hK K q q2
                            refine wpAnyH_done (by kernel_rfl) ?_ _
                            have H6 := hid (HFIN.out _ _ _ (S.headTwo HS.out))
                            go_wp2_with fail
                            go_roundw
                            case rel => exact ⟨k + 1, by omega, by go_num, by rw [HSUC.out]; exact H6.out⟩
                            case measure => simp [intOf]; omega
                          exact AllReadyH.nil
                        exact AllReadyH.nil
                      exact AllReadyH.nil
                    exact AllReadyH.nil
                  refine AllReadyH.cons rfl (fun K hK => ?_) ?_
                  · go_simp
                    replace HS := hid (HS.out.alloc_slK (e := 129) (size := 3) (fcells kcells [((k : Int), at_, vv)]) 1 rfl (by unfold maxLen; omega))
                    generalize w1.heap.size = b16 at HS ⊢
                    refine act_world HS (fun w2 HS => ?_)
                    refine hK.out _ _ (HQ.out _ _ HS.out) (fun _ => ?_)
                    clear hK K
                    refine wpAnyH_ready (rs := [1]) (by kernel_rfl) (by simp) ?_
                    refine AllReadyH.cons rfl (fun K hK => ?_) ?_
                    · go_simp
                      replace HS := hid (HS.out.alloc_slK (e := 129) (size := 3) [] 0 rfl (by unfold maxLen; omega))
                      generalize w2.heap.size = b1 at HS ⊢
                      refine act_world HS (fun w3 HS => ?_)
                      refine hK.out _ _ (HQ.out _ _ HS.out) (fun _ => ?_)
                      clear hK K
                      refine wpAnyH_ready (rs := [6]) (by kernel_rfl) (by simp) ?_
                      refine AllReadyH.cons rfl (fun K hK => ?_) ?_
                      · refine step_appK rfl (.tmp 63) (.tmp 67) 72 rfl 129 i0 _ 3 24 Tryd.underlying72 hi0 hz0 hz1 hz2 rfl (by decide) HS.out 0 (by rfl) (by rfl) a K'.length c (fcells kcells K') (by rfl) (fk_len K') (HN.out _ _ HS.out) (fk_one _) H63a.out (by decide) ?_
                        intro v_a6 w4 hs
                        replace HS := hid hs.norm0K
                        clear hs
                        refine hK.out _ _ (HQ.out _ _ HS.out) (fun _ => ?_)
                        clear hK K
                        try simp only [Act.put, List.setIfInBounds_toArray]
                        refine wpAnyH_ready (rs := [17]) (by kernel_rfl) (by simp) ?_
                        refine AllReadyH.cons rfl (fun K hK => ?_) ?_
                        · refine step_appK rfl (.tmp 68) (.tmp 78) 72 rfl 129 i0 _ 3 24 Tryd.underlying72 hi0 hz0 hz1 hz2 rfl (by decide) HS.out 0 (by rfl) (by rfl) _ 1 1 (fcells kcells [((k : Int), at_, vv)]) (by rfl) rfl (S.news_slK HS.out 1 (by rfl)) (fk_one _) H63b.out (by decide) ?_
                          intro v_a17 w5 hs
                          replace HS := hid hs
                          clear hs
                          refine hK.out _ _ (HQ.out _ _ HS.out) (fun _ => ?_)
                          clear hK K
                          try simp only [Act.put]
                          obtain ⟨aN, cN, rfl, _, _, _⟩ := HS.out.sl_val
                          refine wpAnyH_take (i := 18) (v := ?_) rfl (by kernel_rfl) (by kernel_rfl) (by kernel_rfl) (fun _ _ _ h => h) (Or.inl ⟨by rfl, ?_⟩) (HQ.out _ _ HS.out) ?_
                          rotate_left
                          · (intro w hSw; (try dsimp only at hSw); go_simp) <;> with_reducible rfl
                          try simp only [Act.put]
                          refine wpAnyH_take (i := 19) (v := ?_) rfl (by kernel_rfl) (by kernel_rfl) (by kernel_rfl) (fun _ _ _ h => h) (Or.inl ⟨by rfl, ?_⟩) (HQ.out _ _ HS.out) ?_
                          rotate_left
                          · (intro w hSw; (try dsimp only at hSw); go_simp) <;> with_reducible rfl
                          try simp only [Act.put]
                          refine wpAnyH_ready (rs := [20]) (by kernel_rfl) (by simp) ?_
                          refine AllReadyH.cons rfl (fun K hK => ?_) ?_
                          · have q := (KP.out _ _ HS.out).1
                            have q2 := (KP.out _ _ HS.out).2
                            go_simp
                            refine hK.out _ _ (HQ2.out _ (HFIN.out _ _ _ (S.headTwo HS.out))) (fun _ => ?_)
                            clear hK K q q2
                            refine wpAnyH_done (by kernel_rfl) ?_ _
                            have H6 := hid (HFIN.out _ _ _ (S.headTwo HS.out))
                            go_wp2_with fail
                            go_roundw
                            case rel => exact ⟨k + 1, by omega, by go_num, by rw [HSUC.out]; exact H6.out⟩
                            case measure => simp [intOf]; omega
                          exact AllReadyH.nil
                        exact AllReadyH.nil
                      exact AllReadyH.nil
                    exact AllReadyH.nil
                  exact AllReadyH.nil
                refine AllReadyH.cons rfl (fun K hK => ?_) ?_
                · go_simp
                  replace HS := hid (HS.out.alloc_slK (e := 129) (size := 3) (fcells kcells [((k : Int), at_, vv)]) 1 rfl (by unfold maxLen; omega))
                  generalize w1.heap.size = b16 at HS ⊢
                  refine act_world HS (fun w2 HS => ?_)
                  refine hK.out _ _ (HQ.out _ _ HS.out) (fun _ => ?_)
                  clear hK K
                  refine wpAnyH_ready (rs := [1, 5]) (by kernel_rfl) (by simp) ?_
                  refine AllReadyH.cons rfl (fun K hK => ?_) ?_
                  · go_simp
                    replace HS := hid (HS.out.alloc_slK (e := 129) (size := 3) [] 0 rfl (by unfold maxLen; omega))
                    generalize w2.heap.size = b1 at HS ⊢
                    refine act_world HS (fun w3 HS => ?_)
                    refine hK.out _ _ (HQ.out _ _ HS.out) (fun _ => ?_)
                    clear hK K
                    refine wpAnyH_ready (rs := [5]) (by kernel_rfl) (by simp) ?_
                    refine AllReadyH.cons rfl (fun K hK => ?_) ?_
                    · have q := (KP.out _ _ HS.out).1
                      go_simp
                      refine hK.out _ _ (HQ.out _ _ HS.out) (fun _ => ?_)
                      clear hK K q
                      refine wpAnyH_ready (rs := [6]) (by kernel_rfl) (by simp) ?_
                      refine AllReadyH.cons rfl (fun K hK => ?_) ?_
                      · refine step_appK rfl (.tmp 63) (.tmp 67) 72 rfl 129 i0 _ 3 24 Tryd.underlying72 hi0 hz0 hz1 hz2 rfl (by decide) HS.out 0 (by rfl) (by rfl) a K'.length c (fcells kcells K') (by rfl) (fk_len K') (HN.out _ _ HS.out) (fk_one _) H63a.out (by decide) ?_
                        intro v_a6 w4 hs
                        replace HS := hid hs.norm0K
                        clear hs
                        refine hK.out _ _ (HQ.out _ _ HS.out) (fun _ => ?_)
                        clear hK K
                        try simp only [Act.put, List.setIfInBounds_toArray]
                        refine wpAnyH_ready (rs := [17]) (by kernel_rfl) (by simp) ?_
                        refine AllReadyH.cons rfl (fun K hK => ?_) ?_
                        · refine step_appK rfl (.tmp 68) (.tmp 78) 72 rfl 129 i0 _ 3 24 Tryd.underlying72 hi0 hz0 hz1 hz2 rfl (by decide) HS.out 0 (by rfl) (by rfl) _ 1 1 (fcells kcells [((k : Int), at_, vv)]) (by rfl) rfl (S.news_slK HS.out 1 (by rfl)) (fk_one _) H63b.out (by decide) ?_
                          intro v_a17 w5 hs
                          replace HS := hid hs
                          clear hs
                          refine hK.out _ _ (HQ.out _ _ HS.out) (fun _ => ?_)
                          clear hK K
                          try simp only [Act.put]
                          obtain ⟨aN, cN, rfl, _, _, _⟩ := HS.out.sl_val
                          refine wpAnyH_take (i := 18) (v := ?_) rfl (by kernel_rfl) (by kernel_rfl) (by kernel_rfl) (fun _ _ _ h => h) (Or.inl ⟨by rfl, ?_⟩) (HQ.out _ _ HS.out) ?_
                          rotate_left
                          · (intro w hSw; (try dsimp only at hSw); go_simp) <;> with_reducible rfl
                          try simp only [Act.put]
                          refine wpAnyH_take (i := 19) (v := ?_) rfl (by kernel_rfl) (by kernel_rfl) (by kernel_rfl) (fun _ _ _ h => h) (Or.inl ⟨by rfl, ?_⟩) (HQ.out _ _ HS.out) ?_
                          rotate_left
                          · (intro w hSw; (try dsimp only at hSw); go_simp) <;> with_reducible rfl
                          try simp only [Act.put]
                          refine wpAnyH_ready (rs := [20]) (by kernel_rfl) (by simp) ?_
                          refine AllReadyH.cons rfl (fun K hK => ?_) ?_
                          · have q := (KP.out _ _ HS.out).1
                            have q2 := (KP.out _ _ HS.out).2
                            go_simp
                            refine hK.out _ _ (HQ2.out _ (HFIN.out _ _ _ (S.headTwo HS.out))) (fun _ => ?_)
                            clear hK K q q2
                            refine wpAnyH_done (by kernel_rfl) ?_ _
                            have H6 := hid (HFIN.out _ _ _ (S.headTwo HS.out))
                            go_wp2_with fail
                            go_roundw
                            case rel => exact ⟨k + 1, by omega, by go_num, by rw [HSUC.out]; exact H6.out⟩
                            case measure => simp [intOf]; omega
                          exact AllReadyH.nil
                        exact AllReadyH.nil
                      exact AllReadyH.nil
                    exact AllReadyH.nil
                  refine AllReadyH.cons rfl (fun K hK => ?_) ?_
                  · have q := (KP.out _ _ HS.out).1
                    go_simp
                    refine hK.out _ _ (HQ.out _ _ HS.out) (fun _ => ?_)
                    clear hK K q
                    refine wpAnyH_ready (rs := [1]) (by kernel_rfl) (by simp) ?_
                    refine AllReadyH.cons rfl (fun K hK => ?_) ?_
                    · go_simp
                      replace HS := hid (HS.out.alloc_slK (e := 129) (size := 3) [] 0 rfl (by unfold maxLen; omega))
                      generalize w2.heap.size = b1 at HS ⊢
                      refine act_world HS (fun w3 HS => ?_)
                      refine hK.out _ _ (HQ.out _ _ HS.out) (fun _ => ?_)
                      clear hK K
                      refine wpAnyH_ready (rs := [6]) (by kernel_rfl) (by simp) ?_
                      refine AllReadyH.cons rfl (fun K hK => ?_) ?_
                      · refine step_appK rfl (.tmp 63) (.tmp 67) 72 rfl 129 i0 _ 3 24 Tryd.underlying72 hi0 hz0 hz1 hz2 rfl (by decide) HS.out 0 (by rfl) (by rfl) a K'.length c (fcells kcells K') (by rfl) (fk_len K') (HN.out _ _ HS.out) (fk_one _) H63a.out (by decide) ?_
                        intro v_a6 w4 hs
                        replace HS := hid hs.norm0K
                        clear hs
                        refine hK.out _ _ (HQ.out _ _ HS.out) (fun _ => ?_)
                        clear hK K
                        try simp only [Act.put, List.setIfInBounds_toArray]
                        refine wpAnyH_ready (rs := [17]) (by kernel_rfl) (by simp) ?_
                        refine AllReadyH.cons rfl (fun K hK => ?_) ?_
                        · refine step_appK rfl (.tmp 68) (.tmp 78) 72 rfl 129 i0 _ 3 24 Tryd.underlying72 hi0 hz0 hz1 hz2 rfl (by decide) HS.out 0 (by rfl) (by rfl) _ 1 1 (fcells kcells [((k : Int), at_, vv)]) (by rfl) rfl (S.news_slK HS.out 1 (by rfl)) (fk_one _) H63b.out (by decide) ?_
                          intro v_a17 w5 hs
                          replace HS := hid hs
                          clear hs
                          refine hK.out _ _ (HQ.out _ _ HS.out) (fun _ => ?_)
                          clear hK K
                          try simp only [Act.put]
                          obtain ⟨aN, cN, rfl, _, _, _⟩ := HS.out.sl_val
                          refine wpAnyH_take (i := 18) (v := ?_) rfl (by kernel_rfl) (by kernel_rfl) (by kernel_rfl) (fun _ _ _ h => h) (Or.inl ⟨by rfl, ?_⟩) (HQ.out _ _ HS.out) ?_
                          rotate_left
                          · (intro w hSw; (try dsimp only at hSw); go_simp) <;> with_reducible rfl
                          try simp only [Act.put]
                          refine wpAnyH_take (i := 19) (v := ?_) rfl (by kernel_rfl) (by kernel_rfl) (by kernel_rfl) (fun _ _ _ h => h) (Or.inl ⟨by rfl, ?_⟩) (HQ.out _ _ HS.out) ?_
                          rotate_left
                          · (intro w hSw; (try dsimp only at hSw); go_simp) <;> with_reducible rfl
                          try simp only [Act.put]
                          refine wpAnyH_ready (rs := [20]) (by kernel_rfl) (by simp) ?_
                          refine AllReadyH.cons rfl (fun K hK => ?_) ?_
                          · have q := (KP.out _ _ HS.out).1
                            have q2 := (KP.out _ _ HS.out).2
                            go_simp
                            refine hK.out _ _ (HQ2.out _ (HFIN.out _ _ _ (S.headTwo HS.out))) (fun _ => ?_)
                            clear hK K q q2
                            refine wpAnyH_done (by kernel_rfl) ?_ _
                            have H6 := hid (HFIN.out _ _ _ (S.headTwo HS.out))
                            go_wp2_with fail
                            go_roundw
                            case rel => exact ⟨k + 1, by omega, by go_num, by rw [HSUC.out]; exact H6.out⟩
                            case measure => simp [intOf]; omega
                          exact AllReadyH.nil
                        exact AllReadyH.nil
                      exact AllReadyH.nil
                    exact AllReadyH.nil
                  exact AllReadyH.nil
                exact AllReadyH.nil
        · obtain rfl : k = 10 := by omega
          obtain ⟨v1, hsb⟩ := (hsr.swap).ref_elim
          have g1 := hsb.blk_free 1
          have g2 := hsb.blk_cell 1 rfl
          have hst := S.swap (S.ref_intro ((hsb.blk_set 1 (by simp) (.int .i64 at_)).conv (M := blk b 74 [v1, .int .i64 at_] :: sl 129 3 v1 (K ++ rrows at_ l 10).length (fcells kcells (K ++ rrows at_ l 10)) :: blk w.heap.size 79 [.int .i64 0, .int .i64 0] :: L) rfl))
          have H6 := hid hst
          clear hsr hsb hst
          go_wp2_with (go_at_call 64; with_reducible refine (Bare_any _ _).mono ?_; rintro e w' ⟨rfl, hbw⟩; have hsb := (H6.out).onto hbw; have e0 := hsb.blk_cell 0 rfl; have e1 := hsb.blk_cell 1 rfl; have f0 := hsb.blk_free 0; have f1 := hsb.blk_free 1; have hse := (hsb.blk_set 0 (by simp) (.int .i64 0)).blk_set 1 (by simp) (.int .i64 (-1)); have r0 := hse.blk_cell 0 rfl; have r1 := hse.blk_cell 1 rfl; have HF := hid hse; clear hbw hsb hse)
          exact bodyPost_ret (v := .agg #[.int .i64 0, .int .i64 (-1)]) (by simp [results, Tryd.results30, go_sem, r0, r1]) rfl (HPO.out _ _ (by rw [HNB.out]; exact ⟨rfl, HF.out.tail⟩))
end Go.Proofs.YtbcoddibdipjkaaDoor
