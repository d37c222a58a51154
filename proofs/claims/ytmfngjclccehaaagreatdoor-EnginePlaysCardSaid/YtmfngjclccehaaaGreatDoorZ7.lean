/- The program's engine: whether a key was read. -/
import Derived.Test.YtmfngjclccehaaaGreatDoorZ0
import Derived.Test.YtmfngjclccehaaaGreatDoorZ6
import Derived.Test.YtmfngjclccehaaaGreatDoorZ4
import Derived.Deep.DeepCutAuto
import Derived.Deep.CutBlock
import Derived.Test.YtmfngjclccehaaaGreatDoorZ3
import Derived.Test.YtmfngjclccehaaaGreatDoorZ1
import Derived.Test.YtmfngjclccehaaaGreatDoorZ5
/- The reference's store: Install. -/
namespace Go.Proofs.YtmfngjclccehaaaGreatDoor
open Go Go.RowKit Go.Sep
def RInstPost (w0 : World) (b : Nat) (K : List Kep) (last at_ : Int) (l : Vers) (L : List HProp) (e : Ending) (w' : World) : Prop :=
 if last < at_ ∧ at_ ≤ 1099511627776 then
  match badAt 0 l with
  | none => e = .returned (.agg #[.int .i64 0, .int .i64 (-1)]) ∧ S w0 w' (refP 47 109 b (K ++ rrows at_ l 10) at_ :: L)
  | some (x, p) => e = .returned (.agg #[.int .i64 x, .int .i64 p]) ∧ S w0 w' (refP 47 109 b K last :: L)
 else e = .returned (.agg #[.int .i64 10, .int .i64 (-1)]) ∧ S w0 w' (refP 47 109 b K last :: L)
theorem act_world {w0 w : World} {L : List HProp} {K : Act → World → Prop} {a : Act} (hq : Hid (S w0 w L)) (h : ∀ w', Hid (S w0 w' L) → K a w') : K a w := h w hq
theorem wpAnyH_world {P : Program} {md : Region.Mode} {ops : Array Oper} {Q : Exit → Act → World → Prop} {SS : World → Prop} {fuel : Nat} {listed : Array Bool} {a : Act} {w : World} (q : World → Prop) (hq : q w) (h : ∀ w', q w' → wpAnyH P md ops Q SS fuel listed a w') : wpAnyH P md ops Q SS fuel listed a w := h w hq
set_option maxRecDepth 40000 in
set_option maxHeartbeats 16000000 in
theorem rinstall_any (w0 w : World) (b : Nat) (K : List Kep) (last at_ : Int) (v : Value) (l : Vers) (L : List HProp) (hs : S w0 w (refP 47 109 b K last :: L)) (hr : RdK w0 L v l.length (pcells l)) (hb : K.length ≤ 900000) :
  Calls Tryz.prog 12 #[.pointer (some ⟨b, 0, none⟩), .int .i64 at_, v] w (RInstPost w0 b K last at_ l L) := by
 obtain ⟨v0, h1⟩ := hs.ref_elim
 have h2 := h1.alloc #[.int .i64 0, .int .i64 0] 27
 have c1 := h2.swap.c0_cell 1 rfl
 have H2 : Hid (S w0 (w.alloc (.cells #[.int .i64 0, .int .i64 0] 27)) (blk w.heap.size 27 [.int .i64 0, .int .i64 0] :: refP 47 109 b K last :: L)) := hid (S.swap (S.ref_intro (h2.conv (M := cells b 0 [v0, .int .i64 last] :: sl 109 3 v0 K.length (fcells kcells K) :: blk w.heap.size 27 [.int .i64 0, .int .i64 0] :: L) (by simp only [all]; ac_rfl))))
 obtain ⟨la, lc, rfl, hlc, hlc2, _⟩ := hr w hs.tail
 unfold maxLen at hlc2
 have HRD := hid hr
 clear h1 h2 hs hr
 by_cases h1 : at_ ≤ last
 ·have hpo : ∀ e w', (e = Ending.returned (.agg #[.int .i64 10, .int .i64 (-1)]) ∧ S w0 w' (refP 47 109 b K last :: L)) → RInstPost w0 b K last at_ l L e w' := fun e w' h => by unfold RInstPost; rw [if_neg (by omega)]; exact h
  have HPO := hid hpo
  clear hpo
  go_enter Tryz.func12, Tryz.ntmps12
  go_wp2_with (go_at_call 11; with_reducible refine (Bare_any _ _).mono ?_; rintro e w' ⟨rfl, hbw⟩; have hsb := (H2.out).onto hbw; have e0 := hsb.blk_cell 0 rfl; have e1 := hsb.blk_cell 1 rfl; have f0 := hsb.blk_free 0; have f1 := hsb.blk_free 1; have hse := (hsb.blk_set 0 (by simp) (.int .i64 10)).blk_set 1 (by simp) (.int .i64 (-1)); have r0 := hse.blk_cell 0 rfl; have r1 := hse.blk_cell 1 rfl; have HF := hid hse; clear hbw hsb hse)
  exact bodyPost_ret (v := .agg #[.int .i64 10, .int .i64 (-1)]) (by simp [results, Tryz.results12, go_sem, r0, r1]) rfl (HPO.out _ _ ⟨rfl, HF.out.tail⟩)
 by_cases h2 : 1099511627776 < at_
 ·have hpo : ∀ e w', (e = Ending.returned (.agg #[.int .i64 10, .int .i64 (-1)]) ∧ S w0 w' (refP 47 109 b K last :: L)) → RInstPost w0 b K last at_ l L e w' := fun e w' h => by unfold RInstPost; rw [if_neg (by omega)]; exact h
  have HPO := hid hpo
  have h1' : last < at_ := by omega
  clear hpo h1
  go_enter Tryz.func12, Tryz.ntmps12
  go_wp2_with (go_at_call 11; with_reducible refine (Bare_any _ _).mono ?_; rintro e w' ⟨rfl, hbw⟩; have hsb := (H2.out).onto hbw; have e0 := hsb.blk_cell 0 rfl; have e1 := hsb.blk_cell 1 rfl; have f0 := hsb.blk_free 0; have f1 := hsb.blk_free 1; have hse := (hsb.blk_set 0 (by simp) (.int .i64 10)).blk_set 1 (by simp) (.int .i64 (-1)); have r0 := hse.blk_cell 0 rfl; have r1 := hse.blk_cell 1 rfl; have HF := hid hse; clear hbw hsb hse)
  exact bodyPost_ret (v := .agg #[.int .i64 10, .int .i64 (-1)]) (by simp [results, Tryz.results12, go_sem, r0, r1]) rfl (HPO.out _ _ ⟨rfl, HF.out.tail⟩)
 have h1' : last < at_ := by omega
 have h2' : at_ ≤ 1099511627776 := by omega
 have hpo : ∀ e w', (match badAt 0 l with
   | none => e = Ending.returned (.agg #[.int .i64 0, .int .i64 (-1)]) ∧ S w0 w' (refP 47 109 b (K ++ rrows at_ l 10) at_ :: L)
   | some (x, p) => e = Ending.returned (.agg #[.int .i64 x, .int .i64 p]) ∧ S w0 w' (refP 47 109 b K last :: L)) → RInstPost w0 b K last at_ l L e w' := fun e w' h => by
  unfold RInstPost; rw [if_pos ⟨h1', h2'⟩]; exact h
 have HPO := hid hpo
 clear hpo h1 h2
 go_enter Tryz.func12, Tryz.ntmps12
 go_wp2_with fail
 go_loopw [26] (fun c wr => ∃ i : Nat, i ≤ l.length ∧ c = .int .i64 i ∧ Hid (badAt 0 l = badAt i (l.drop i)) ∧ S w0 wr (blk w.heap.size 27 [.int .i64 0, .int .i64 0] :: refP 47 109 b K last :: L)) (fun c _ => l.length - (intOf c).toNat)
 case atStart => exact ⟨0, Nat.zero_le _, rfl, hid rfl, H2.out⟩
 case round =>
  rename World => wr
  obtain ⟨i, hi, rfl, hbad, hsr⟩ := hrel
  clear H2 c1
  by_cases hlt : i < l.length
  ·have hp : l[i]? = some l[i] := by simp [hlt]
   generalize l[i] = p at hp
   obtain ⟨lb, lo, rfl, c1, c2⟩ := HRD.out.pair hsr.tail.tail hp
   have hd : l.drop i = p :: l.drop (i + 1) := by
    have := List.getElem?_eq_some_iff.1 hp
    rw [List.drop_eq_getElem_cons this.1, this.2]
   have hbad' := hbad.out
   rw [hd] at hbad'
   clear hbad
   by_cases hk : keyOk p.1
   ·have hkb : decide ((0 : Int) ≤ p.1 ∧ p.1 ≤ 9) = true := decide_eq_true (by unfold keyOk at hk; omega)
    by_cases hv : valOk p.2
    ·have hvb : decide ((-1099511627776 : Int) ≤ p.2 ∧ p.2 ≤ 1099511627776) = true := decide_eq_true hv
     have hx := hbad'
     rw [show badAt i (p :: l.drop (i + 1)) = badAt (i + 1) (l.drop (i + 1)) by simp [badAt, hk, hv]] at hx
     have HX := hid hx; have HF := hid (hsr.alloc #[.int .i64 p.1, .int .i64 p.2] 101).tail
     clear hbad' hsr hx hp hd hk hv
     go_wp2_with (first | (go_at_call 44; with_reducible refine (in_any _ _ _ _).mono ?_; rw [hkb]; rintro e w' ⟨rfl, rfl⟩) | (go_at_call 44; with_reducible refine (in_any _ _ _ _).mono ?_; rw [hvb]; rintro e w' ⟨rfl, rfl⟩))
     go_roundw
     case rel => exact ⟨i + 1, by omega, by go_num, HX, HF.out⟩
     case measure => simp [intOf]; omega
    ·have hvb : decide ((-1099511627776 : Int) ≤ p.2 ∧ p.2 ≤ 1099511627776) = false := decide_eq_false hv
     have hx := hbad'
     rw [show badAt i (p :: l.drop (i + 1)) = some (1, (i : Int)) by simp [badAt, hk, hv]] at hx
     have hs2 := (hsr.alloc #[.int .i64 p.1, .int .i64 p.2] 101).tail
     have e0 := hs2.blk_cell 0 rfl
     have e1 := hs2.blk_cell 1 rfl
     have f0 := hs2.blk_free 0
     have f1 := hs2.blk_free 1
     have hse := (hs2.blk_set 0 (by simp) (.int .i64 1)).blk_set 1 (by simp) (.int .i64 (i : Int))
     have r0 := hse.blk_cell 0 rfl
     have r1 := hse.blk_cell 1 rfl
     have HF := hid hse; have HX := hid hx
     clear hk hv hbad' hsr hs2 hse hx hp hd
     go_wp2_with (first | (go_at_call 44; with_reducible refine (in_any _ _ _ _).mono ?_; rw [hkb]; rintro e w' ⟨rfl, rfl⟩) | (go_at_call 44; with_reducible refine (in_any _ _ _ _).mono ?_; rw [hvb]; rintro e w' ⟨rfl, rfl⟩))
     exact bodyPost_ret (v := .agg #[.int .i64 1, .int .i64 (i : Int)]) (by simp [results, Tryz.results12, go_sem, r0, r1]) rfl (HPO.out _ _ (by rw [HX.out]; exact ⟨rfl, HF.out.tail⟩))
   ·have hkb : decide ((0 : Int) ≤ p.1 ∧ p.1 ≤ 9) = false := decide_eq_false (by unfold keyOk at hk; omega)
    have hvb := hkb
    have hx := hbad'
    rw [show badAt i (p :: l.drop (i + 1)) = some (2, (i : Int)) by simp [badAt, hk]] at hx
    have hs2 := (hsr.alloc #[.int .i64 p.1, .int .i64 p.2] 101).tail
    have e0 := hs2.blk_cell 0 rfl
    have e1 := hs2.blk_cell 1 rfl
    have f0 := hs2.blk_free 0
    have f1 := hs2.blk_free 1
    have hse := (hs2.blk_set 0 (by simp) (.int .i64 2)).blk_set 1 (by simp) (.int .i64 (i : Int))
    have r0 := hse.blk_cell 0 rfl
    have r1 := hse.blk_cell 1 rfl
    have HF := hid hse; have HX := hid hx
    clear hk hbad' hsr hs2 hse hx hp hd
    go_wp2_with (first | (go_at_call 44; with_reducible refine (in_any _ _ _ _).mono ?_; rw [hkb]; rintro e w' ⟨rfl, rfl⟩) | (go_at_call 44; with_reducible refine (in_any _ _ _ _).mono ?_; rw [hvb]; rintro e w' ⟨rfl, rfl⟩))
    exact bodyPost_ret (v := .agg #[.int .i64 2, .int .i64 (i : Int)]) (by simp [results, Tryz.results12, go_sem, r0, r1]) rfl (HPO.out _ _ (by rw [HX.out]; exact ⟨rfl, HF.out.tail⟩))
  ·obtain rfl : i = l.length := by omega
   have hnone : badAt 0 l = none := by rw [hbad.out, List.drop_length]; rfl
   have hr0 : K ++ rrows at_ l 0 = K := by simp [rrows]
   rw [← hr0] at hsr
   have H3 := hid hsr; have HNB := hid hnone
   clear hsr hbad hnone hr0
   go_wp2_with fail
   go_loopw [44] (fun c wr => ∃ k : Nat, k ≤ 10 ∧ c = .int .i64 k ∧ S w0 wr (blk w.heap.size 27 [.int .i64 0, .int .i64 0] :: refP 47 109 b (K ++ rrows at_ l k) last :: L)) (fun c _ => 10 - (intOf c).toNat)
   case atStart => exact ⟨0, Nat.zero_le _, rfl, H3.out⟩
   case round =>
    rename World => wr
    obtain ⟨k, hk, rfl, hsr⟩ := hrel
    clear H3
    by_cases hk10 : k < 10
    ·have H4 := hid hsr
     clear hsr
     go_wp2_with fail
     go_loopw [10, 49] (fun lv c wx => ∃ j : Nat, j ≤ l.length ∧ c = .int .i64 j ∧ lv = .int .i64 (lastIx 0 k (-1) (l.take j)) ∧ S w0 wx (blk w.heap.size 27 [.int .i64 0, .int .i64 0] :: refP 47 109 b (K ++ rrows at_ l k) last :: L)) (fun _ c _ => l.length - (intOf c).toNat)
     case atStart => exact ⟨0, Nat.zero_le _, rfl, rfl, H4.out⟩
     case round =>
      rename World => wx
      obtain ⟨j, hj, rfl, rfl, hsx⟩ := hrel
      clear H4
      by_cases hjl : j < l.length
      ·have hp : l[j]? = some l[j] := by simp [hjl]
       generalize l[j] = p at hp
       obtain ⟨lb, lo, rfl, c1, c2⟩ := HRD.out.pair hsx.tail.tail hp
       have hix := lastIx_snoc k (l.take j) 0 (-1) p
       rw [← take_succ_get hp, List.length_take, Nat.min_eq_left (by omega), Nat.zero_add] at hix
       have H5 := hid (hsx.alloc #[.int .i64 p.1, .int .i64 p.2] 101).tail
       clear hsx hp
       by_cases hpk : p.1 = k
       ·rw [hpk] at c1 H5
        rw [if_pos hpk] at hix
        have HIX := hid hix
        clear hix hpk
        go_wp2_with fail
        go_roundw
        case rel => exact ⟨j + 1, by omega, by go_num, by rw [HIX.out], H5.out⟩
        case measure => simp [intOf]; omega
       ·have hpb : (p.1 == (k : Int)) = false := by simpa using hpk
        rw [if_neg hpk] at hix
        have HIX := hid hix
        clear hix hpk
        go_wp2_with fail
        go_roundw
        case rel => exact ⟨j + 1, by omega, by go_num, by rw [HIX.out], H5.out⟩
        case measure => simp [intOf]; omega
      ·obtain rfl : j = l.length := by omega
       rw [List.take_length]
       have hsuc := rrows_succ at_ l k
       rcases lastIx_spec l k with ⟨h1, h2⟩ | ⟨j, p, h1, h2, h3⟩
       ·rw [h1]
        have hrr : rrow at_ l k = [] := by unfold rrow; rw [h2]
        rw [hrr, List.append_nil] at hsuc
        have H5 := hid hsx; have HSUC := hid hsuc
        clear hsx h1 h2 hrr hsuc
        go_wp2_with fail
        go_roundw
        case rel => exact ⟨k + 1, by omega, by go_num, by rw [HSUC.out]; exact H5.out⟩
        case measure => simp [intOf]; omega
       ·rw [h1]
        obtain ⟨pk, vv⟩ := p
        have hrr : rrow at_ l k = [((k : Int), at_, vv)] := by unfold rrow; rw [h3]
        rw [hrr] at hsuc
        replace hsuc : K ++ rrows at_ l (k + 1) = K ++ rrows at_ l k ++ [((k : Int), at_, vv)] := by rw [hsuc, List.append_assoc]
        have hrl := rrows_le at_ l k
        have hjl2 := (List.getElem?_eq_some_iff.1 h2).1
        obtain ⟨gl, ol, rfl, _, _⟩ := HRD.out.pair hsx.tail.tail h2
        obtain ⟨K', hK'⟩ : ∃ K', K ++ rrows at_ l k = K' := ⟨_, rfl⟩
        have hKl : K'.length ≤ 900010 := by rw [← hK', List.length_append]; omega
        rw [hK'] at hsx hsuc
        obtain ⟨v1, hsr⟩ := (hsx.swap).ref_elim
        obtain ⟨a, c, rfl, hc1, hc2, _⟩ := hsr.swap.sl_val
        have hnq := news_old (w := wx) (ad := a) (xs := fcells kcells K') fun j u hj => by
         obtain ⟨g2, o2, c2, hv2, _, _, _, hlt2, hcc2, _⟩ := hsr.swap.sl_some (by have := (List.getElem?_eq_some_iff.1 hj).1; omega)
         simp only [Value.slice.injEq] at hv2
         exact ⟨g2, o2, hv2.1, hlt2, hcc2 j u hj⟩
        have hjx : ∀ (W : World) (M : List HProp), S wx W M → S w0 W (M ++ (cells b 0 [.slice a K'.length c, .int .i64 last] :: sl 109 3 (.slice a K'.length c) K'.length (fcells kcells K') :: blk w.heap.size 27 [.int .i64 0, .int .i64 0] :: L)) := fun W M h => hsr.join h
        have hkp : ∀ (W : World) (M : List HProp), S wx W M → W.cell? ⟨b, 0, none⟩ = some (.slice a K'.length c) ∧ W.frozen? ⟨b, 0, none⟩ = false := fun W M h => by
         have h' := (hjx W M h).rest
         exact ⟨h'.c0_cell 0 rfl, h'.c0_free 0 rfl⟩
        have hq : ∀ (W : World) (M : List HProp), S wx W M → W.cell? ⟨gl, ol + j * 2 + 1, none⟩ = some (.int .i64 vv) := fun W M h => by
         obtain ⟨g2, o2, hg, _, hcc⟩ := HRD.out.pair (hjx W M h).rest.tail.tail.tail h2
         obtain ⟨rfl, rfl⟩ : gl = g2 ∧ ol = o2 := by simpa using hg
         exact hcc
        have hq2 : ∀ (W : World), S w0 W (blk w.heap.size 27 [.int .i64 0, .int .i64 0] :: refP 47 109 b (K' ++ [((k : Int), at_, vv)]) last :: L) → W.cell? ⟨gl, ol + j * 2 + 1, none⟩ = some (.int .i64 vv) := fun W h => by
         obtain ⟨g2, o2, hg, _, hcc⟩ := HRD.out.pair h.tail.tail h2
         obtain ⟨rfl, rfl⟩ : gl = g2 ∧ ol = o2 := by simpa using hg
         exact hcc
        have hfin : ∀ (W : World) (v' : Value) (B : HProp), S wx W [sl 109 3 v' (K'.length + 1) (fcells kcells K' ++ fcells kcells [((k : Int), at_, vv)]), B] → S w0 (W.setCell ⟨b, 0, none⟩ v') (blk w.heap.size 27 [.int .i64 0, .int .i64 0] :: refP 47 109 b (K' ++ [((k : Int), at_, vv)]) last :: L) := fun W v' B h => by
         have h1 : S w0 W (cells b 0 [.slice a K'.length c, .int .i64 last] :: sl 109 3 v' (K' ++ [((k : Int), at_, vv)]).length (fcells kcells (K' ++ [((k : Int), at_, vv)])) :: B :: sl 109 3 (.slice a K'.length c) K'.length (fcells kcells K') :: blk w.heap.size 27 [.int .i64 0, .int .i64 0] :: L) := (hjx W _ h).conv (by
          rw [fcells_append, List.length_append, List.length_singleton]
          simp only [List.cons_append, List.nil_append, all]; ac_rfl)
         have h2 := h1.c0_set 0 (by simp) v'
         exact S.swap (S.ref_intro (h2.conv (M := B :: sl 109 3 (.slice a K'.length c) K'.length (fcells kcells K') :: cells b 0 [v', .int .i64 last] :: sl 109 3 v' (K' ++ [((k : Int), at_, vv)]).length (fcells kcells (K' ++ [((k : Int), at_, vv)])) :: blk w.heap.size 27 [.int .i64 0, .int .i64 0] :: L) (by simp only [all, List.set_cons_zero]; ac_rfl)).tail.tail)
        have HFIN := hid hfin; have KP := hid hkp; have HN := hid hnq; have HQ := hid hq; have HQ2 := hid hq2; have HSUC := hid hsuc
        have H63a : Hid (0 + K'.length ≤ 1000000) := hid (by omega)
        have H63b : Hid (K'.length + 1 ≤ 1000000) := hid (by omega)
        have hjb0 : (0 : Int) ≤ (j : Int) := by omega
        have hjb1 : (j : Int) < (l.length : Int) := by omega
        obtain ⟨i0, hi0, hz0, hz1, hz2⟩ := info_parts Tryz.info109
        clear hfin hkp hnq hq hq2 hjx hsr hsx h1 h2 h3 hrr hsuc hK'
        go_wp2_with fail
        refine wp_region_held_drew (S := fun w' => w'.cell? ⟨gl, ol + j * 2 + 1, none⟩ = some (.int .i64 vv)) (by kernel_rfl) (HQ.out _ _ (S.start wx).drew) (fun hHeld => ?_)
        refine wpAnyH_take (i := 0) (v := ?_) rfl (by kernel_rfl) (by kernel_rfl) (by kernel_rfl) (fun _ _ _ h => h) (Or.inl ⟨by rfl, ?_⟩) hHeld ?_
        rotate_left
        ·(intro w hSw; (try dsimp only at hSw); go_simp) <;> with_reducible rfl
        try simp only [Act.put, List.setIfInBounds_toArray]
        refine wpAnyH_take (i := 2) (v := ?_) rfl (by kernel_rfl) (by kernel_rfl) (by kernel_rfl) (fun _ _ _ h => h) (Or.inl ⟨by rfl, ?_⟩) hHeld ?_
        rotate_left
        ·(intro w hSw; (try dsimp only at hSw); go_simp) <;> with_reducible rfl
        try simp only [Act.put]
        refine wpAnyH_take (i := 3) (v := ?_) rfl (by kernel_rfl) (by kernel_rfl) (by kernel_rfl) (fun _ _ _ h => h) (Or.inl ⟨by rfl, ?_⟩) hHeld ?_
        rotate_left
        ·(intro w hSw; (try dsimp only at hSw); go_simp) <;> with_reducible rfl
        try simp only [Act.put]
        refine wpAnyH_take (i := 4) (v := ?_) rfl (by kernel_rfl) (by kernel_rfl) (by kernel_rfl) (fun _ _ _ h => h) (Or.inl ⟨by rfl, ?_⟩) hHeld ?_
        rotate_left
        ·(intro w hSw; (try dsimp only at hSw); go_simp) <;> with_reducible rfl
        try simp only [Act.put]
        refine wpAnyH_take (i := 7) (v := ?_) rfl (by kernel_rfl) (by kernel_rfl) (by kernel_rfl) (fun _ _ _ h => h) (Or.inl ⟨by rfl, ?_⟩) hHeld ?_
        rotate_left
        ·(intro w hSw; (try dsimp only at hSw); go_simp) <;> with_reducible rfl
        try simp only [Act.put]
        refine wpAnyH_take (i := 8) (v := ?_) rfl (by kernel_rfl) (by kernel_rfl) (by kernel_rfl) (fun _ _ _ h => h) (Or.inl ⟨by rfl, ?_⟩) hHeld ?_
        rotate_left
        ·(intro w hSw; (try dsimp only at hSw); go_simp) <;> with_reducible rfl
        try simp only [Act.put]
        refine wpAnyH_take (i := 9) (v := ?_) rfl (by kernel_rfl) (by kernel_rfl) (by kernel_rfl) (fun _ _ _ h => h) (Or.inl ⟨by rfl, ?_⟩) hHeld ?_
        rotate_left
        ·(intro w hSw; (try dsimp only at hSw); go_simp) <;> with_reducible rfl
        try simp only [Act.put]
        refine wpAnyH_take (i := 10) (v := ?_) rfl (by kernel_rfl) (by kernel_rfl) (by kernel_rfl) (fun _ _ _ h => h) (Or.inl ⟨by rfl, ?_⟩) hHeld ?_
        rotate_left
        ·(intro w hSw; (try dsimp only at hSw); go_simp) <;> with_reducible rfl
        try simp only [Act.put]
        refine wpAnyH_take (i := 11) (v := ?_) rfl (by kernel_rfl) (by kernel_rfl) (by kernel_rfl) (fun _ _ _ h => h) (Or.inl ⟨by rfl, ?_⟩) hHeld ?_
        rotate_left
        ·(intro w hSw; (try dsimp only at hSw); go_simp) <;> with_reducible rfl
        try simp only [Act.put]
        refine wpAnyH_take (i := 12) (v := ?_) rfl (by kernel_rfl) (by kernel_rfl) (by kernel_rfl) (fun _ _ _ h => h) (Or.inl ⟨by rfl, ?_⟩) hHeld ?_
        rotate_left
        ·(intro w hSw; (try dsimp only at hSw); go_simp) <;> with_reducible rfl
        try simp only [Act.put]
        refine wpAnyH_take (i := 13) (v := ?_) rfl (by kernel_rfl) (by kernel_rfl) (by kernel_rfl) (fun _ _ _ h => h) (Or.inl ⟨by rfl, ?_⟩) hHeld ?_
        rotate_left
        ·(intro w hSw; (try dsimp only at hSw); go_simp) <;> with_reducible rfl
        try simp only [Act.put]
        refine wpAnyH_take (i := 14) (v := ?_) rfl (by kernel_rfl) (by kernel_rfl) (by kernel_rfl) (fun _ _ _ h => h) (Or.inl ⟨by rfl, ?_⟩) hHeld ?_
        rotate_left
        ·(intro w hSw; (try dsimp only at hSw); go_simp) <;> with_reducible rfl
        try simp only [Act.put]
        refine wpAnyH_take (i := 15) (v := ?_) rfl (by kernel_rfl) (by kernel_rfl) (by kernel_rfl) (fun _ _ _ h => h) (Or.inl ⟨by rfl, ?_⟩) hHeld ?_
        rotate_left
        ·(intro w hSw; (try dsimp only at hSw); go_simp) <;> with_reducible rfl
        try simp only [Act.put]
        have HS := hid (S.start wx).drew
        clear hHeld
        refine wpAnyH_world (fun w => Hid (S wx w [])) HS (fun w1 HS => ?_)
        refine wpAnyH_ready (rs := [1, 5, 16]) (by kernel_rfl) (by simp) ?_
        refine AllReadyH.cons rfl (fun K hK => ?_) ?_
        ·go_simp
         replace HS := hid (HS.out.alloc_slK (e := 109) (size := 3) [] 0 rfl (by unfold maxLen; omega))
         generalize w1.heap.size = b1 at HS ⊢
         refine act_world HS (fun w2 HS => ?_)
         refine hK.out _ _ (HQ.out _ _ HS.out) (fun _ => ?_)
         clear hK K
         refine wpAnyH_ready (rs := [5, 16]) (by kernel_rfl) (by simp) ?_
         refine AllReadyH.cons rfl (fun K hK => ?_) ?_
         ·have q := (KP.out _ _ HS.out).1
          go_simp
          refine hK.out _ _ (HQ.out _ _ HS.out) (fun _ => ?_)
          clear hK K q
          refine wpAnyH_ready (rs := [6, 16]) (by kernel_rfl) (by simp) ?_
          refine AllReadyH.cons rfl (fun K hK => ?_) ?_
          ·refine step_appK rfl (.tmp 63) (.tmp 67) 45 rfl 109 i0 _ 3 24 Tryz.underlying45 hi0 hz0 hz1 hz2 rfl (by decide) HS.out 0 (by rfl) (by rfl) a K'.length c (fcells kcells K') (by rfl) (fk_len K') (HN.out _ _ HS.out) (fk_one _) H63a.out (by decide) ?_
           intro v_a6 w3 hs
           replace HS := hid hs.norm0K
           clear hs
           refine hK.out _ _ (HQ.out _ _ HS.out) (fun _ => ?_)
           clear hK K
           try simp only [Act.put, List.setIfInBounds_toArray]
           refine wpAnyH_ready (rs := [16]) (by kernel_rfl) (by simp) ?_
           refine AllReadyH.cons rfl (fun K hK => ?_) ?_
           ·go_simp
            replace HS := hid (HS.out.alloc_slK (e := 109) (size := 3) (fcells kcells [((k : Int), at_, vv)]) 1 rfl (by unfold maxLen; omega))
            generalize w3.heap.size = b16 at HS ⊢
            refine act_world HS (fun w4 HS => ?_)
            refine hK.out _ _ (HQ.out _ _ HS.out) (fun _ => ?_)
            clear hK K
            refine wpAnyH_ready (rs := [17]) (by kernel_rfl) (by simp) ?_
            refine AllReadyH.cons rfl (fun K hK => ?_) ?_
            ·refine step_appK rfl (.tmp 68) (.tmp 78) 45 rfl 109 i0 _ 3 24 Tryz.underlying45 hi0 hz0 hz1 hz2 rfl (by decide) HS.out 1 (by rfl) (by rfl) _ 1 1 (fcells kcells [((k : Int), at_, vv)]) (by rfl) rfl (S.news_slK HS.out 0 (by rfl)) (fk_one _) H63b.out (by decide) ?_
             intro v_a17 w5 hs
             replace HS := hid hs
             clear hs
             refine hK.out _ _ (HQ.out _ _ HS.out) (fun _ => ?_)
             clear hK K
             try simp only [Act.put, List.setIfInBounds_toArray]
             obtain ⟨aN, cN, rfl, _, _, _⟩ := HS.out.sl_val
             refine wpAnyH_take (i := 18) (v := ?_) rfl (by kernel_rfl) (by kernel_rfl) (by kernel_rfl) (fun _ _ _ h => h) (Or.inl ⟨by rfl, ?_⟩) (HQ.out _ _ HS.out) ?_
             rotate_left
             ·(intro w hSw; (try dsimp only at hSw); go_simp) <;> with_reducible rfl
             try simp only [Act.put]
             refine wpAnyH_take (i := 19) (v := ?_) rfl (by kernel_rfl) (by kernel_rfl) (by kernel_rfl) (fun _ _ _ h => h) (Or.inl ⟨by rfl, ?_⟩) (HQ.out _ _ HS.out) ?_
             rotate_left
             ·(intro w hSw; (try dsimp only at hSw); go_simp) <;> with_reducible rfl
             try simp only [Act.put]
             refine wpAnyH_ready (rs := [20]) (by kernel_rfl) (by simp) ?_
             refine AllReadyH.cons rfl (fun K hK => ?_) ?_
             ·have q := (KP.out _ _ HS.out).1
              have q2 := (KP.out _ _ HS.out).2
              go_simp
              refine hK.out _ _ (HQ2.out _ (HFIN.out _ _ _ (S.headTwo HS.out))) (fun _ => ?_)
              clear hK K q q2
              refine wpAnyH_done (by kernel_rfl) ?_ _
              have H6 := hid (HFIN.out _ _ _ (S.headTwo HS.out))
              go_wp2_with fail
              go_roundw
              case rel => exact ⟨k + 1, by omega, by go_num, by rw [HSUC.out]; exact H6.out⟩
              case measure => simp [intOf]; omega
             exact AllReadyH.nil
            exact AllReadyH.nil
           exact AllReadyH.nil
          refine AllReadyH.cons rfl (fun K hK => ?_) ?_
          ·go_simp
           replace HS := hid (HS.out.alloc_slK (e := 109) (size := 3) (fcells kcells [((k : Int), at_, vv)]) 1 rfl (by unfold maxLen; omega))
           generalize w2.heap.size = b16 at HS ⊢
           refine act_world HS (fun w3 HS => ?_)
           refine hK.out _ _ (HQ.out _ _ HS.out) (fun _ => ?_)
           clear hK K
           refine wpAnyH_ready (rs := [6]) (by kernel_rfl) (by simp) ?_
           refine AllReadyH.cons rfl (fun K hK => ?_) ?_
           ·refine step_appK rfl (.tmp 63) (.tmp 67) 45 rfl 109 i0 _ 3 24 Tryz.underlying45 hi0 hz0 hz1 hz2 rfl (by decide) HS.out 1 (by rfl) (by rfl) a K'.length c (fcells kcells K') (by rfl) (fk_len K') (HN.out _ _ HS.out) (fk_one _) H63a.out (by decide) ?_
            intro v_a6 w4 hs
            replace HS := hid hs.norm0K
            clear hs
            refine hK.out _ _ (HQ.out _ _ HS.out) (fun _ => ?_)
            clear hK K
            try simp only [Act.put, List.setIfInBounds_toArray]
            refine wpAnyH_ready (rs := [17]) (by kernel_rfl) (by simp) ?_
            refine AllReadyH.cons rfl (fun K hK => ?_) ?_
            ·refine step_appK rfl (.tmp 68) (.tmp 78) 45 rfl 109 i0 _ 3 24 Tryz.underlying45 hi0 hz0 hz1 hz2 rfl (by decide) HS.out 0 (by rfl) (by rfl) _ 1 1 (fcells kcells [((k : Int), at_, vv)]) (by rfl) rfl (S.news_slK HS.out 1 (by rfl)) (fk_one _) H63b.out (by decide) ?_
             intro v_a17 w5 hs
             replace HS := hid hs
             clear hs
             refine hK.out _ _ (HQ.out _ _ HS.out) (fun _ => ?_)
             clear hK K
             try simp only [Act.put]
             obtain ⟨aN, cN, rfl, _, _, _⟩ := HS.out.sl_val
             refine wpAnyH_take (i := 18) (v := ?_) rfl (by kernel_rfl) (by kernel_rfl) (by kernel_rfl) (fun _ _ _ h => h) (Or.inl ⟨by rfl, ?_⟩) (HQ.out _ _ HS.out) ?_
             rotate_left
             ·(intro w hSw; (try dsimp only at hSw); go_simp) <;> with_reducible rfl
             try simp only [Act.put]
             refine wpAnyH_take (i := 19) (v := ?_) rfl (by kernel_rfl) (by kernel_rfl) (by kernel_rfl) (fun _ _ _ h => h) (Or.inl ⟨by rfl, ?_⟩) (HQ.out _ _ HS.out) ?_
             rotate_left
             ·(intro w hSw; (try dsimp only at hSw); go_simp) <;> with_reducible rfl
             try simp only [Act.put]
             refine wpAnyH_ready (rs := [20]) (by kernel_rfl) (by simp) ?_
             refine AllReadyH.cons rfl (fun K hK => ?_) ?_
             ·have q := (KP.out _ _ HS.out).1
              have q2 := (KP.out _ _ HS.out).2
              go_simp
              refine hK.out _ _ (HQ2.out _ (HFIN.out _ _ _ (S.headTwo HS.out))) (fun _ => ?_)
              clear hK K q q2
              refine wpAnyH_done (by kernel_rfl) ?_ _
              have H6 := hid (HFIN.out _ _ _ (S.headTwo HS.out))
              go_wp2_with fail
              go_roundw
              case rel => exact ⟨k + 1, by omega, by go_num, by rw [HSUC.out]; exact H6.out⟩
              case measure => simp [intOf]; omega
             exact AllReadyH.nil
            exact AllReadyH.nil
           exact AllReadyH.nil
          exact AllReadyH.nil
         refine AllReadyH.cons rfl (fun K hK => ?_) ?_
         ·go_simp
          replace HS := hid (HS.out.alloc_slK (e := 109) (size := 3) (fcells kcells [((k : Int), at_, vv)]) 1 rfl (by unfold maxLen; omega))
          generalize w2.heap.size = b16 at HS ⊢
          refine act_world HS (fun w3 HS => ?_)
          refine hK.out _ _ (HQ.out _ _ HS.out) (fun _ => ?_)
          clear hK K
          refine wpAnyH_ready (rs := [5]) (by kernel_rfl) (by simp) ?_
          refine AllReadyH.cons rfl (fun K hK => ?_) ?_
          ·have q := (KP.out _ _ HS.out).1
           go_simp
           refine hK.out _ _ (HQ.out _ _ HS.out) (fun _ => ?_)
           clear hK K q
           refine wpAnyH_ready (rs := [6]) (by kernel_rfl) (by simp) ?_
           refine AllReadyH.cons rfl (fun K hK => ?_) ?_
           ·refine step_appK rfl (.tmp 63) (.tmp 67) 45 rfl 109 i0 _ 3 24 Tryz.underlying45 hi0 hz0 hz1 hz2 rfl (by decide) HS.out 1 (by rfl) (by rfl) a K'.length c (fcells kcells K') (by rfl) (fk_len K') (HN.out _ _ HS.out) (fk_one _) H63a.out (by decide) ?_
            intro v_a6 w4 hs
            replace HS := hid hs.norm0K
            clear hs
            refine hK.out _ _ (HQ.out _ _ HS.out) (fun _ => ?_)
            clear hK K
            try simp only [Act.put, List.setIfInBounds_toArray]
            refine wpAnyH_ready (rs := [17]) (by kernel_rfl) (by simp) ?_
            refine AllReadyH.cons rfl (fun K hK => ?_) ?_
            ·refine step_appK rfl (.tmp 68) (.tmp 78) 45 rfl 109 i0 _ 3 24 Tryz.underlying45 hi0 hz0 hz1 hz2 rfl (by decide) HS.out 0 (by rfl) (by rfl) _ 1 1 (fcells kcells [((k : Int), at_, vv)]) (by rfl) rfl (S.news_slK HS.out 1 (by rfl)) (fk_one _) H63b.out (by decide) ?_
             intro v_a17 w5 hs
             replace HS := hid hs
             clear hs
             refine hK.out _ _ (HQ.out _ _ HS.out) (fun _ => ?_)
             clear hK K
             try simp only [Act.put]
             obtain ⟨aN, cN, rfl, _, _, _⟩ := HS.out.sl_val
             refine wpAnyH_take (i := 18) (v := ?_) rfl (by kernel_rfl) (by kernel_rfl) (by kernel_rfl) (fun _ _ _ h => h) (Or.inl ⟨by rfl, ?_⟩) (HQ.out _ _ HS.out) ?_
             rotate_left
             ·(intro w hSw; (try dsimp only at hSw); go_simp) <;> with_reducible rfl
             try simp only [Act.put]
             refine wpAnyH_take (i := 19) (v := ?_) rfl (by kernel_rfl) (by kernel_rfl) (by kernel_rfl) (fun _ _ _ h => h) (Or.inl ⟨by rfl, ?_⟩) (HQ.out _ _ HS.out) ?_
             rotate_left
             ·(intro w hSw; (try dsimp only at hSw); go_simp) <;> with_reducible rfl
             try simp only [Act.put]
             refine wpAnyH_ready (rs := [20]) (by kernel_rfl) (by simp) ?_
             refine AllReadyH.cons rfl (fun K hK => ?_) ?_
             ·have q := (KP.out _ _ HS.out).1
              have q2 := (KP.out _ _ HS.out).2
              go_simp
              refine hK.out _ _ (HQ2.out _ (HFIN.out _ _ _ (S.headTwo HS.out))) (fun _ => ?_)
              clear hK K q q2
              refine wpAnyH_done (by kernel_rfl) ?_ _
              have H6 := hid (HFIN.out _ _ _ (S.headTwo HS.out))
              go_wp2_with fail
              go_roundw
              case rel => exact ⟨k + 1, by omega, by go_num, by rw [HSUC.out]; exact H6.out⟩
              case measure => simp [intOf]; omega
             exact AllReadyH.nil
            exact AllReadyH.nil
           exact AllReadyH.nil
          exact AllReadyH.nil
         exact AllReadyH.nil
        refine AllReadyH.cons rfl (fun K hK => ?_) ?_
        ·have q := (KP.out _ _ HS.out).1
         go_simp
         refine hK.out _ _ (HQ.out _ _ HS.out) (fun _ => ?_)
         clear hK K q
         refine wpAnyH_ready (rs := [1, 16]) (by kernel_rfl) (by simp) ?_
         refine AllReadyH.cons rfl (fun K hK => ?_) ?_
         ·go_simp
          replace HS := hid (HS.out.alloc_slK (e := 109) (size := 3) [] 0 rfl (by unfold maxLen; omega))
          generalize w1.heap.size = b1 at HS ⊢
          refine act_world HS (fun w2 HS => ?_)
          refine hK.out _ _ (HQ.out _ _ HS.out) (fun _ => ?_)
          clear hK K
          refine wpAnyH_ready (rs := [6, 16]) (by kernel_rfl) (by simp) ?_
          refine AllReadyH.cons rfl (fun K hK => ?_) ?_
          ·refine step_appK rfl (.tmp 63) (.tmp 67) 45 rfl 109 i0 _ 3 24 Tryz.underlying45 hi0 hz0 hz1 hz2 rfl (by decide) HS.out 0 (by rfl) (by rfl) a K'.length c (fcells kcells K') (by rfl) (fk_len K') (HN.out _ _ HS.out) (fk_one _) H63a.out (by decide) ?_
           intro v_a6 w3 hs
           replace HS := hid hs.norm0K
           clear hs
           refine hK.out _ _ (HQ.out _ _ HS.out) (fun _ => ?_)
           clear hK K
           try simp only [Act.put, List.setIfInBounds_toArray]
           refine wpAnyH_ready (rs := [16]) (by kernel_rfl) (by simp) ?_
           refine AllReadyH.cons rfl (fun K hK => ?_) ?_
           ·go_simp
            replace HS := hid (HS.out.alloc_slK (e := 109) (size := 3) (fcells kcells [((k : Int), at_, vv)]) 1 rfl (by unfold maxLen; omega))
            generalize w3.heap.size = b16 at HS ⊢
            refine act_world HS (fun w4 HS => ?_)
            refine hK.out _ _ (HQ.out _ _ HS.out) (fun _ => ?_)
            clear hK K
            refine wpAnyH_ready (rs := [17]) (by kernel_rfl) (by simp) ?_
            refine AllReadyH.cons rfl (fun K hK => ?_) ?_
            ·refine step_appK rfl (.tmp 68) (.tmp 78) 45 rfl 109 i0 _ 3 24 Tryz.underlying45 hi0 hz0 hz1 hz2 rfl (by decide) HS.out 1 (by rfl) (by rfl) _ 1 1 (fcells kcells [((k : Int), at_, vv)]) (by rfl) rfl (S.news_slK HS.out 0 (by rfl)) (fk_one _) H63b.out (by decide) ?_
             intro v_a17 w5 hs
             replace HS := hid hs
             clear hs
             refine hK.out _ _ (HQ.out _ _ HS.out) (fun _ => ?_)
             clear hK K
             try simp only [Act.put, List.setIfInBounds_toArray]
             obtain ⟨aN, cN, rfl, _, _, _⟩ := HS.out.sl_val
             refine wpAnyH_take (i := 18) (v := ?_) rfl (by kernel_rfl) (by kernel_rfl) (by kernel_rfl) (fun _ _ _ h => h) (Or.inl ⟨by rfl, ?_⟩) (HQ.out _ _ HS.out) ?_
             rotate_left
             ·(intro w hSw; (try dsimp only at hSw); go_simp) <;> with_reducible rfl
             try simp only [Act.put]
             refine wpAnyH_take (i := 19) (v := ?_) rfl (by kernel_rfl) (by kernel_rfl) (by kernel_rfl) (fun _ _ _ h => h) (Or.inl ⟨by rfl, ?_⟩) (HQ.out _ _ HS.out) ?_
             rotate_left
             ·(intro w hSw; (try dsimp only at hSw); go_simp) <;> with_reducible rfl
             try simp only [Act.put]
             refine wpAnyH_ready (rs := [20]) (by kernel_rfl) (by simp) ?_
             refine AllReadyH.cons rfl (fun K hK => ?_) ?_
             ·have q := (KP.out _ _ HS.out).1
              have q2 := (KP.out _ _ HS.out).2
              go_simp
              refine hK.out _ _ (HQ2.out _ (HFIN.out _ _ _ (S.headTwo HS.out))) (fun _ => ?_)
              clear hK K q q2
              refine wpAnyH_done (by kernel_rfl) ?_ _
              have H6 := hid (HFIN.out _ _ _ (S.headTwo HS.out))
              go_wp2_with fail
              go_roundw
              case rel => exact ⟨k + 1, by omega, by go_num, by rw [HSUC.out]; exact H6.out⟩
              case measure => simp [intOf]; omega
             exact AllReadyH.nil
            exact AllReadyH.nil
           exact AllReadyH.nil
          refine AllReadyH.cons rfl (fun K hK => ?_) ?_
          ·go_simp
           replace HS := hid (HS.out.alloc_slK (e := 109) (size := 3) (fcells kcells [((k : Int), at_, vv)]) 1 rfl (by unfold maxLen; omega))
           generalize w2.heap.size = b16 at HS ⊢
           refine act_world HS (fun w3 HS => ?_)
           refine hK.out _ _ (HQ.out _ _ HS.out) (fun _ => ?_)
           clear hK K
           refine wpAnyH_ready (rs := [6]) (by kernel_rfl) (by simp) ?_
           refine AllReadyH.cons rfl (fun K hK => ?_) ?_
           ·refine step_appK rfl (.tmp 63) (.tmp 67) 45 rfl 109 i0 _ 3 24 Tryz.underlying45 hi0 hz0 hz1 hz2 rfl (by decide) HS.out 1 (by rfl) (by rfl) a K'.length c (fcells kcells K') (by rfl) (fk_len K') (HN.out _ _ HS.out) (fk_one _) H63a.out (by decide) ?_
            intro v_a6 w4 hs
            replace HS := hid hs.norm0K
            clear hs
            refine hK.out _ _ (HQ.out _ _ HS.out) (fun _ => ?_)
            clear hK K
            try simp only [Act.put, List.setIfInBounds_toArray]
            refine wpAnyH_ready (rs := [17]) (by kernel_rfl) (by simp) ?_
            refine AllReadyH.cons rfl (fun K hK => ?_) ?_
            ·refine step_appK rfl (.tmp 68) (.tmp 78) 45 rfl 109 i0 _ 3 24 Tryz.underlying45 hi0 hz0 hz1 hz2 rfl (by decide) HS.out 0 (by rfl) (by rfl) _ 1 1 (fcells kcells [((k : Int), at_, vv)]) (by rfl) rfl (S.news_slK HS.out 1 (by rfl)) (fk_one _) H63b.out (by decide) ?_
             intro v_a17 w5 hs
             replace HS := hid hs
             clear hs
             refine hK.out _ _ (HQ.out _ _ HS.out) (fun _ => ?_)
             clear hK K
             try simp only [Act.put]
             obtain ⟨aN, cN, rfl, _, _, _⟩ := HS.out.sl_val
             refine wpAnyH_take (i := 18) (v := ?_) rfl (by kernel_rfl) (by kernel_rfl) (by kernel_rfl) (fun _ _ _ h => h) (Or.inl ⟨by rfl, ?_⟩) (HQ.out _ _ HS.out) ?_
             rotate_left
             ·(intro w hSw; (try dsimp only at hSw); go_simp) <;> with_reducible rfl
             try simp only [Act.put]
             refine wpAnyH_take (i := 19) (v := ?_) rfl (by kernel_rfl) (by kernel_rfl) (by kernel_rfl) (fun _ _ _ h => h) (Or.inl ⟨by rfl, ?_⟩) (HQ.out _ _ HS.out) ?_
             rotate_left
             ·(intro w hSw; (try dsimp only at hSw); go_simp) <;> with_reducible rfl
             try simp only [Act.put]
             refine wpAnyH_ready (rs := [20]) (by kernel_rfl) (by simp) ?_
             refine AllReadyH.cons rfl (fun K hK => ?_) ?_
             ·have q := (KP.out _ _ HS.out).1
              have q2 := (KP.out _ _ HS.out).2
              go_simp
              refine hK.out _ _ (HQ2.out _ (HFIN.out _ _ _ (S.headTwo HS.out))) (fun _ => ?_)
              clear hK K q q2
              refine wpAnyH_done (by kernel_rfl) ?_ _
              have H6 := hid (HFIN.out _ _ _ (S.headTwo HS.out))
              go_wp2_with fail
              go_roundw
              case rel => exact ⟨k + 1, by omega, by go_num, by rw [HSUC.out]; exact H6.out⟩
              case measure => simp [intOf]; omega
             exact AllReadyH.nil
            exact AllReadyH.nil
           exact AllReadyH.nil
          exact AllReadyH.nil
         refine AllReadyH.cons rfl (fun K hK => ?_) ?_
         ·go_simp
          replace HS := hid (HS.out.alloc_slK (e := 109) (size := 3) (fcells kcells [((k : Int), at_, vv)]) 1 rfl (by unfold maxLen; omega))
          generalize w1.heap.size = b16 at HS ⊢
          refine act_world HS (fun w2 HS => ?_)
          refine hK.out _ _ (HQ.out _ _ HS.out) (fun _ => ?_)
          clear hK K
          refine wpAnyH_ready (rs := [1]) (by kernel_rfl) (by simp) ?_
          refine AllReadyH.cons rfl (fun K hK => ?_) ?_
          ·go_simp
           replace HS := hid (HS.out.alloc_slK (e := 109) (size := 3) [] 0 rfl (by unfold maxLen; omega))
           generalize w2.heap.size = b1 at HS ⊢
           refine act_world HS (fun w3 HS => ?_)
           refine hK.out _ _ (HQ.out _ _ HS.out) (fun _ => ?_)
           clear hK K
           refine wpAnyH_ready (rs := [6]) (by kernel_rfl) (by simp) ?_
           refine AllReadyH.cons rfl (fun K hK => ?_) ?_
           ·refine step_appK rfl (.tmp 63) (.tmp 67) 45 rfl 109 i0 _ 3 24 Tryz.underlying45 hi0 hz0 hz1 hz2 rfl (by decide) HS.out 0 (by rfl) (by rfl) a K'.length c (fcells kcells K') (by rfl) (fk_len K') (HN.out _ _ HS.out) (fk_one _) H63a.out (by decide) ?_
            intro v_a6 w4 hs
            replace HS := hid hs.norm0K
            clear hs
            refine hK.out _ _ (HQ.out _ _ HS.out) (fun _ => ?_)
            clear hK K
            try simp only [Act.put, List.setIfInBounds_toArray]
            refine wpAnyH_ready (rs := [17]) (by kernel_rfl) (by simp) ?_
            refine AllReadyH.cons rfl (fun K hK => ?_) ?_
            ·refine step_appK rfl (.tmp 68) (.tmp 78) 45 rfl 109 i0 _ 3 24 Tryz.underlying45 hi0 hz0 hz1 hz2 rfl (by decide) HS.out 0 (by rfl) (by rfl) _ 1 1 (fcells kcells [((k : Int), at_, vv)]) (by rfl) rfl (S.news_slK HS.out 1 (by rfl)) (fk_one _) H63b.out (by decide) ?_
             intro v_a17 w5 hs
             replace HS := hid hs
             clear hs
             refine hK.out _ _ (HQ.out _ _ HS.out) (fun _ => ?_)
             clear hK K
             try simp only [Act.put]
             obtain ⟨aN, cN, rfl, _, _, _⟩ := HS.out.sl_val
             refine wpAnyH_take (i := 18) (v := ?_) rfl (by kernel_rfl) (by kernel_rfl) (by kernel_rfl) (fun _ _ _ h => h) (Or.inl ⟨by rfl, ?_⟩) (HQ.out _ _ HS.out) ?_
             rotate_left
             ·(intro w hSw; (try dsimp only at hSw); go_simp) <;> with_reducible rfl
             try simp only [Act.put]
             refine wpAnyH_take (i := 19) (v := ?_) rfl (by kernel_rfl) (by kernel_rfl) (by kernel_rfl) (fun _ _ _ h => h) (Or.inl ⟨by rfl, ?_⟩) (HQ.out _ _ HS.out) ?_
             rotate_left
             ·(intro w hSw; (try dsimp only at hSw); go_simp) <;> with_reducible rfl
             try simp only [Act.put]
             refine wpAnyH_ready (rs := [20]) (by kernel_rfl) (by simp) ?_
             refine AllReadyH.cons rfl (fun K hK => ?_) ?_
             ·have q := (KP.out _ _ HS.out).1
              have q2 := (KP.out _ _ HS.out).2
              go_simp
              refine hK.out _ _ (HQ2.out _ (HFIN.out _ _ _ (S.headTwo HS.out))) (fun _ => ?_)
              clear hK K q q2
              refine wpAnyH_done (by kernel_rfl) ?_ _
              have H6 := hid (HFIN.out _ _ _ (S.headTwo HS.out))
              go_wp2_with fail
              go_roundw
              case rel => exact ⟨k + 1, by omega, by go_num, by rw [HSUC.out]; exact H6.out⟩
              case measure => simp [intOf]; omega
             exact AllReadyH.nil
            exact AllReadyH.nil
           exact AllReadyH.nil
          exact AllReadyH.nil
         exact AllReadyH.nil
        refine AllReadyH.cons rfl (fun K hK => ?_) ?_
        ·go_simp
         replace HS := hid (HS.out.alloc_slK (e := 109) (size := 3) (fcells kcells [((k : Int), at_, vv)]) 1 rfl (by unfold maxLen; omega))
         generalize w1.heap.size = b16 at HS ⊢
         refine act_world HS (fun w2 HS => ?_)
         refine hK.out _ _ (HQ.out _ _ HS.out) (fun _ => ?_)
         clear hK K
         refine wpAnyH_ready (rs := [1, 5]) (by kernel_rfl) (by simp) ?_
         refine AllReadyH.cons rfl (fun K hK => ?_) ?_
         ·go_simp
          replace HS := hid (HS.out.alloc_slK (e := 109) (size := 3) [] 0 rfl (by unfold maxLen; omega))
          generalize w2.heap.size = b1 at HS ⊢
          refine act_world HS (fun w3 HS => ?_)
          refine hK.out _ _ (HQ.out _ _ HS.out) (fun _ => ?_)
          clear hK K
          refine wpAnyH_ready (rs := [5]) (by kernel_rfl) (by simp) ?_
          refine AllReadyH.cons rfl (fun K hK => ?_) ?_
          ·have q := (KP.out _ _ HS.out).1
           go_simp
           refine hK.out _ _ (HQ.out _ _ HS.out) (fun _ => ?_)
           clear hK K q
           refine wpAnyH_ready (rs := [6]) (by kernel_rfl) (by simp) ?_
           refine AllReadyH.cons rfl (fun K hK => ?_) ?_
           ·refine step_appK rfl (.tmp 63) (.tmp 67) 45 rfl 109 i0 _ 3 24 Tryz.underlying45 hi0 hz0 hz1 hz2 rfl (by decide) HS.out 0 (by rfl) (by rfl) a K'.length c (fcells kcells K') (by rfl) (fk_len K') (HN.out _ _ HS.out) (fk_one _) H63a.out (by decide) ?_
            intro v_a6 w4 hs
            replace HS := hid hs.norm0K
            clear hs
            refine hK.out _ _ (HQ.out _ _ HS.out) (fun _ => ?_)
            clear hK K
            try simp only [Act.put, List.setIfInBounds_toArray]
            refine wpAnyH_ready (rs := [17]) (by kernel_rfl) (by simp) ?_
            refine AllReadyH.cons rfl (fun K hK => ?_) ?_
            ·refine step_appK rfl (.tmp 68) (.tmp 78) 45 rfl 109 i0 _ 3 24 Tryz.underlying45 hi0 hz0 hz1 hz2 rfl (by decide) HS.out 0 (by rfl) (by rfl) _ 1 1 (fcells kcells [((k : Int), at_, vv)]) (by rfl) rfl (S.news_slK HS.out 1 (by rfl)) (fk_one _) H63b.out (by decide) ?_
             intro v_a17 w5 hs
             replace HS := hid hs
             clear hs
             refine hK.out _ _ (HQ.out _ _ HS.out) (fun _ => ?_)
             clear hK K
             try simp only [Act.put]
             obtain ⟨aN, cN, rfl, _, _, _⟩ := HS.out.sl_val
             refine wpAnyH_take (i := 18) (v := ?_) rfl (by kernel_rfl) (by kernel_rfl) (by kernel_rfl) (fun _ _ _ h => h) (Or.inl ⟨by rfl, ?_⟩) (HQ.out _ _ HS.out) ?_
             rotate_left
             ·(intro w hSw; (try dsimp only at hSw); go_simp) <;> with_reducible rfl
             try simp only [Act.put]
             refine wpAnyH_take (i := 19) (v := ?_) rfl (by kernel_rfl) (by kernel_rfl) (by kernel_rfl) (fun _ _ _ h => h) (Or.inl ⟨by rfl, ?_⟩) (HQ.out _ _ HS.out) ?_
             rotate_left
             ·(intro w hSw; (try dsimp only at hSw); go_simp) <;> with_reducible rfl
             try simp only [Act.put]
             refine wpAnyH_ready (rs := [20]) (by kernel_rfl) (by simp) ?_
             refine AllReadyH.cons rfl (fun K hK => ?_) ?_
             ·have q := (KP.out _ _ HS.out).1
              have q2 := (KP.out _ _ HS.out).2
              go_simp
              refine hK.out _ _ (HQ2.out _ (HFIN.out _ _ _ (S.headTwo HS.out))) (fun _ => ?_)
              clear hK K q q2
              refine wpAnyH_done (by kernel_rfl) ?_ _
              have H6 := hid (HFIN.out _ _ _ (S.headTwo HS.out))
              go_wp2_with fail
              go_roundw
              case rel => exact ⟨k + 1, by omega, by go_num, by rw [HSUC.out]; exact H6.out⟩
              case measure => simp [intOf]; omega
             exact AllReadyH.nil
            exact AllReadyH.nil
           exact AllReadyH.nil
          exact AllReadyH.nil
         refine AllReadyH.cons rfl (fun K hK => ?_) ?_
         ·have q := (KP.out _ _ HS.out).1
          go_simp
          refine hK.out _ _ (HQ.out _ _ HS.out) (fun _ => ?_)
          clear hK K q
          refine wpAnyH_ready (rs := [1]) (by kernel_rfl) (by simp) ?_
          refine AllReadyH.cons rfl (fun K hK => ?_) ?_
          ·go_simp
           replace HS := hid (HS.out.alloc_slK (e := 109) (size := 3) [] 0 rfl (by unfold maxLen; omega))
           generalize w2.heap.size = b1 at HS ⊢
           refine act_world HS (fun w3 HS => ?_)
           refine hK.out _ _ (HQ.out _ _ HS.out) (fun _ => ?_)
           clear hK K
           refine wpAnyH_ready (rs := [6]) (by kernel_rfl) (by simp) ?_
           refine AllReadyH.cons rfl (fun K hK => ?_) ?_
           ·refine step_appK rfl (.tmp 63) (.tmp 67) 45 rfl 109 i0 _ 3 24 Tryz.underlying45 hi0 hz0 hz1 hz2 rfl (by decide) HS.out 0 (by rfl) (by rfl) a K'.length c (fcells kcells K') (by rfl) (fk_len K') (HN.out _ _ HS.out) (fk_one _) H63a.out (by decide) ?_
            intro v_a6 w4 hs
            replace HS := hid hs.norm0K
            clear hs
            refine hK.out _ _ (HQ.out _ _ HS.out) (fun _ => ?_)
            clear hK K
            try simp only [Act.put, List.setIfInBounds_toArray]
            refine wpAnyH_ready (rs := [17]) (by kernel_rfl) (by simp) ?_
            refine AllReadyH.cons rfl (fun K hK => ?_) ?_
            ·refine step_appK rfl (.tmp 68) (.tmp 78) 45 rfl 109 i0 _ 3 24 Tryz.underlying45 hi0 hz0 hz1 hz2 rfl (by decide) HS.out 0 (by rfl) (by rfl) _ 1 1 (fcells kcells [((k : Int), at_, vv)]) (by rfl) rfl (S.news_slK HS.out 1 (by rfl)) (fk_one _) H63b.out (by decide) ?_
             intro v_a17 w5 hs
             replace HS := hid hs
             clear hs
             refine hK.out _ _ (HQ.out _ _ HS.out) (fun _ => ?_)
             clear hK K
             try simp only [Act.put]
             obtain ⟨aN, cN, rfl, _, _, _⟩ := HS.out.sl_val
             refine wpAnyH_take (i := 18) (v := ?_) rfl (by kernel_rfl) (by kernel_rfl) (by kernel_rfl) (fun _ _ _ h => h) (Or.inl ⟨by rfl, ?_⟩) (HQ.out _ _ HS.out) ?_
             rotate_left
             ·(intro w hSw; (try dsimp only at hSw); go_simp) <;> with_reducible rfl
             try simp only [Act.put]
             refine wpAnyH_take (i := 19) (v := ?_) rfl (by kernel_rfl) (by kernel_rfl) (by kernel_rfl) (fun _ _ _ h => h) (Or.inl ⟨by rfl, ?_⟩) (HQ.out _ _ HS.out) ?_
             rotate_left
             ·(intro w hSw; (try dsimp only at hSw); go_simp) <;> with_reducible rfl
             try simp only [Act.put]
             refine wpAnyH_ready (rs := [20]) (by kernel_rfl) (by simp) ?_
             refine AllReadyH.cons rfl (fun K hK => ?_) ?_
             ·have q := (KP.out _ _ HS.out).1
              have q2 := (KP.out _ _ HS.out).2
              go_simp
              refine hK.out _ _ (HQ2.out _ (HFIN.out _ _ _ (S.headTwo HS.out))) (fun _ => ?_)
              clear hK K q q2
              refine wpAnyH_done (by kernel_rfl) ?_ _
              have H6 := hid (HFIN.out _ _ _ (S.headTwo HS.out))
              go_wp2_with fail
              go_roundw
              case rel => exact ⟨k + 1, by omega, by go_num, by rw [HSUC.out]; exact H6.out⟩
              case measure => simp [intOf]; omega
             exact AllReadyH.nil
            exact AllReadyH.nil
           exact AllReadyH.nil
          exact AllReadyH.nil
         exact AllReadyH.nil
        exact AllReadyH.nil
    ·obtain rfl : k = 10 := by omega
     obtain ⟨v1, hsb⟩ := (hsr.swap).ref_elim
     have g1 := hsb.c0_free 1 rfl
     have g2 := hsb.c0_cell 1 rfl
     have hst := S.swap (S.ref_intro (T := 47) ((hsb.c0_set 1 (by simp) (.int .i64 at_)).conv (M := cells b 0 [v1, .int .i64 at_] :: sl 109 3 v1 (K ++ rrows at_ l 10).length (fcells kcells (K ++ rrows at_ l 10)) :: blk w.heap.size 27 [.int .i64 0, .int .i64 0] :: L) rfl))
     have H6 := hid hst
     clear hsr hsb hst
     go_wp2_with (go_at_call 11; with_reducible refine (Bare_any _ _).mono ?_; rintro e w' ⟨rfl, hbw⟩; have hsb := (H6.out).onto hbw; have e0 := hsb.blk_cell 0 rfl; have e1 := hsb.blk_cell 1 rfl; have f0 := hsb.blk_free 0; have f1 := hsb.blk_free 1; have hse := (hsb.blk_set 0 (by simp) (.int .i64 0)).blk_set 1 (by simp) (.int .i64 (-1)); have r0 := hse.blk_cell 0 rfl; have r1 := hse.blk_cell 1 rfl; have HF := hid hse; clear hbw hsb hse)
     exact bodyPost_ret (v := .agg #[.int .i64 0, .int .i64 (-1)]) (by simp [results, Tryz.results12, go_sem, r0, r1]) rfl (HPO.out _ _ (by rw [HNB.out]; exact ⟨rfl, HF.out.tail⟩))
end Go.Proofs.YtmfngjclccehaaaGreatDoor
/- The answers of the program's store and the reference's, side by side. -/
namespace Go.Proofs.YtmfngjclccehaaaGreatDoor
open Go Go.RowKit Go.Sep
theorem Same.row_le {V : List Vers} {last : Int} {K : List Kep} (h : Same V last K) : ∀ vs ∈ V, vs.length ≤ K.length := by
 intro vs hv
 obtain ⟨j, hj⟩ := List.getElem?_of_mem hv
 have hl := (List.getElem?_eq_some_iff.1 hj).1
 rw [h.len] at hl
 rw [h.key j hl] at hj
 rw [← Option.some.inj hj]
 unfold proj
 rw [List.length_map]
 exact List.length_filter_le _ _
theorem Same.size {V : List Vers} {last : Int} {K : List Kep} (h : Same V last K) (at_ : Int) : (((V.map (sweptN at_)).sum : Nat) : Int) = (K.length : Int) - (rswept K at_).length := by
 have := h.swept_sum at_; omega
def instErr (last at_ : Int) (l : Vers) : Err := if last < at_ ∧ at_ ≤ 1099511627776 then (match badAt 0 l with | none => .nil | some (x, p) => .at_ x p) else .no 10
def instOk (last at_ : Int) (l : Vers) : Bool := decide (last < at_ ∧ at_ ≤ 1099511627776) && (badAt 0 l).isNone
theorem install2 (w0 w : World) (b o : Nat) (V : List Vers) (last at_ : Int) (v : Value) (l : Vers) (L : List HProp) (N : Nat)
  (hs : S w0 w (storeP 107 b o V last :: L)) (hr : RdK w0 L v l.length (pcells l)) (hN : ∀ vs ∈ V, vs.length ≤ N) (hb : N + l.length ≤ 1000000) :
  Calls Tryz.prog 13 #[.pointer (some ⟨b, o, none⟩), .int .i64 at_, v] w fun e w' => ∃ u, e = .returned u ∧
   S w0 w' (errP 25 113 112 u (instErr last at_ l) :: storeP 107 b o (if instOk last at_ l then putAll at_ V l else V) (if instOk last at_ l then at_ else last) :: L) := by
 refine (install_any w0 w b o V last at_ v l L N hs hr hN hb).mono fun e w' h => ?_
 unfold InstPost at h
 unfold instErr instOk
 by_cases hc : last < at_ ∧ at_ ≤ 1099511627776
 ·rw [if_pos hc] at h
  cases hba : badAt 0 l with
  | none =>
   rw [hba] at h
   obtain ⟨rfl, h⟩ := h
   simp only [hc, and_self, decide_true, Option.isNone_none, Bool.and_self, ↓reduceIte]
   exact ⟨_, rfl, S.pur_intro rfl h⟩
  | some x =>
   obtain ⟨x, p⟩ := x
   rw [hba] at h
   obtain ⟨u, rfl, h⟩ := h
   simp only [hc, and_self, decide_true, Option.isNone_some, Bool.and_false, Bool.false_eq_true, ↓reduceIte]
   exact ⟨_, rfl, h⟩
 ·rw [if_neg hc] at h
  obtain ⟨rfl, h⟩ := h
  simp only [hc, decide_false, Bool.false_and, Bool.false_eq_true, ↓reduceIte]
  exact ⟨_, rfl, S.pur_intro rfl h⟩
theorem rinstall2 (w0 w : World) (b : Nat) (K : List Kep) (last at_ : Int) (v : Value) (l : Vers) (L : List HProp) (hs : S w0 w (refP 47 109 b K last :: L)) (hr : RdK w0 L v l.length (pcells l)) (hb : K.length ≤ 900000) :
  Calls Tryz.prog 12 #[.pointer (some ⟨b, 0, none⟩), .int .i64 at_, v] w fun e w' => e = .returned (.agg #[.int .i64 (Err.errno (instErr last at_ l)), .int .i64 (Err.place (instErr last at_ l))]) ∧
   S w0 w' (refP 47 109 b (if instOk last at_ l then K ++ rrows at_ l 10 else K) (if instOk last at_ l then at_ else last) :: L) := by
 refine (rinstall_any w0 w b K last at_ v l L hs hr hb).mono fun e w' h => ?_
 unfold RInstPost at h
 unfold instErr instOk
 by_cases hc : last < at_ ∧ at_ ≤ 1099511627776
 ·rw [if_pos hc] at h
  cases hba : badAt 0 l with
  | none =>
   rw [hba] at h
   simp only [hc, and_self, decide_true, Option.isNone_none, Bool.and_self, ↓reduceIte]
   exact h
  | some x =>
   obtain ⟨x, p⟩ := x
   rw [hba] at h
   simp only [hc, and_self, decide_true, Option.isNone_some, Bool.and_false, Bool.false_eq_true, ↓reduceIte]
   exact h
 ·rw [if_neg hc] at h
  simp only [hc, decide_false, Bool.false_and, Bool.false_eq_true, ↓reduceIte]
  exact h
theorem instErr_is (last at_ : Int) (l : Vers) : isE (instErr last at_ l) (Err.errno (instErr last at_ l)) (Err.place (instErr last at_ l)) = true := by
 unfold isE; simp
theorem Same.inst {V : List Vers} {last : Int} {K : List Kep} (h : Same V last K) (at_ : Int) (l : Vers) : Same (if instOk last at_ l then putAll at_ V l else V) (if instOk last at_ l then at_ else last) (if instOk last at_ l then K ++ rrows at_ l 10 else K) ∧ (if instOk last at_ l then K ++ rrows at_ l 10 else K).length ≤ K.length + 10 := by
 by_cases hk : instOk last at_ l = true
 ·rw [if_pos hk, if_pos hk, if_pos hk]
  unfold instOk at hk
  rw [Bool.and_eq_true, decide_eq_true_eq, Option.isNone_iff_eq_none] at hk
  refine ⟨h.put l (fun p hp => (badAt_none hk.2 p hp).1) hk.1.1, ?_⟩
  rw [List.length_append]
  have := rrows_le at_ l 10; omega
 ·rw [if_neg hk, if_neg hk, if_neg hk]
  exact ⟨h, by omega⟩
def errBV (e : Int) : Value := if e = 0 then .nilIface else .iface 25 (.int .i64 e)
def errB (er : Int) : Err := if er = 0 then .nil else .no er
theorem errB_S {w0 w : World} {L : List HProp} (er : Int) (h : S w0 w L) : S w0 w (errP 25 113 112 (errBV er) (errB er) :: L) := by
 unfold errB errBV
 by_cases e : er = 0
 ·rw [if_pos e, if_pos e]; exact S.pur_intro rfl h
 ·rw [if_neg e, if_neg e]; exact S.pur_intro rfl h
theorem errB_is (er : Int) : isE (errB er) er (-1) = true := by
 unfold isE errB
 by_cases e : er = 0
 ·rw [if_pos e, e]; rfl
 ·rw [if_neg e]; simp [Err.errno, Err.place]
theorem bare2 (er : Int) (w0 w : World) (L : List HProp) (hE : ErrT w0) (hs : S w0 w L) :
  Calls Tryz.prog 17 #[errBV er, .int .i64 er] w fun ev w' => ev = .returned (.bool true) ∧ S w0 w' L := by
 have h := bare_any (errB er) (errBV er) er w0 w L hE (errB_S er hs)
 rw [errB_is] at h
 exact h.mono fun e w' h => ⟨h.1, h.2.tail⟩
def readOut (K : List Kep) (k at_ : Int) : Int × Int × Int := if 0 ≤ k ∧ k ≤ 9 then (match rread K k at_ with | some p => (p.1, p.2, 0) | none => (0, 0, 8)) else (0, 0, 2)
theorem rread2 (w0 w : World) (b : Nat) (K : List Kep) (last k at_ : Int) (L : List HProp) (hs : S w0 w (refP 47 109 b K last :: L)) :
  Calls Tryz.prog 50 #[.pointer (some ⟨b, 0, none⟩), .int .i64 k, .int .i64 at_] w fun e w' => e = .returned (.tuple #[.agg #[.int .i64 (readOut K k at_).1, .int .i64 (readOut K k at_).2.1], .int .i64 (readOut K k at_).2.2]) ∧ S w0 w' (refP 47 109 b K last :: L) := by
 refine (rread_any w0 w b K last k at_ L hs).mono fun e w' h => ⟨?_, h.2⟩
 rw [h.1]
 unfold readOut rreadAns
 by_cases hk : 0 ≤ k ∧ k ≤ 9
 ·rw [if_pos hk, if_pos hk]
  cases rread K k at_ with
  | none => rfl
  | some p => rfl
 ·rw [if_neg hk, if_neg hk]
def newOut (K : List Kep) (k at_ : Int) : List Int := if 0 ≤ k ∧ k ≤ 9 then rnewer K k at_ else []
def newErr (k : Int) : Int := if 0 ≤ k ∧ k ≤ 9 then 0 else 2
theorem rnewer2 (w0 w : World) (b : Nat) (V : List Vers) (K : List Kep) (last k at_ : Int) (L : List HProp) (hst : Same V last K) (hs : S w0 w (refP 47 109 b K last :: L)) (hb : K.length ≤ 1000000) :
  Calls Tryz.prog 51 #[.pointer (some ⟨b, 0, none⟩), .int .i64 k, .int .i64 at_] w fun e w' => ∃ v, e = .returned (.tuple #[v, .int .i64 (newErr k)]) ∧ S w0 w' (sl 3 1 v (newOut K k at_).length (icells (newOut K k at_)) :: refP 47 109 b K last :: L) := by
 refine (rnewer_any w0 w b K last k at_ L hs hb).mono fun e w' h => ?_
 unfold RNewPost at h
 unfold newOut newErr
 by_cases hk : 0 ≤ k ∧ k ≤ 9
 ·rw [if_pos hk] at h
  rw [if_pos hk, if_pos hk]
  have hso : sortI (rnewer K k at_) = rnewer K k at_ := by
   obtain ⟨n, rfl⟩ : ∃ n : Nat, k = n := ⟨k.toNat, by omega⟩
   rw [rnewer_eq]
   unfold sortI
   exact List.mergeSort_of_pairwise ((newerL_sorted (hst.inc n (by omega)) at_).imp fun h => by simpa using h)
  rw [hso] at h
  exact h
 ·rw [if_neg hk] at h
  rw [if_neg hk, if_neg hk]
  obtain ⟨rfl, h⟩ := h
  exact ⟨_, rfl, h.sl_nil⟩
def allOut (K : List Kep) (at_ : Int) : List (Int × Int) := allL (fun k => rread K k at_) 10
theorem rall2 (w0 w : World) (b : Nat) (kv : Value) (K : List Kep) (last at_ : Int) (L : List HProp) (hs : S w0 w (refK 47 109 b kv K last :: L)) :
  Calls Tryz.prog 35 #[.pointer (some ⟨b, 0, none⟩), .int .i64 at_] w fun e w' => ∃ v, e = .returned v ∧ S w0 w' (sl 101 2 v (allOut K at_).length (pcells (allOut K at_)) :: refK 47 109 b kv K last :: L) :=
 rallK_any w0 w b kv K last at_ L hs
end Go.Proofs.YtmfngjclccehaaaGreatDoor
/- The program's engine: of, State, Txs, Last, Many, Waits. -/
namespace Go.Proofs.YtmfngjclccehaaaGreatDoor
open Go Go.RowKit Go.Sep
theorem errV_0 : errV 0 = .nilIface := rfl
theorem errV_ne {x : Int} (h : x ≠ 0) : errV x = .iface 25 (.int .i64 x) := if_neg h
theorem of_miss (w0 w : World) (b : Nat) (bs : List Nat) (k : EngV) (e : Eng) (n : Int) (op : Bool) (L : List HProp) (hs : S w0 w (engO b bs k e :: L)) (hn : n < 1 ∨ (e.txs.length : Int) < n) :
  Calls Tryz.prog 55 #[.pointer (some ⟨b, 0, none⟩), .int .i64 n, .bool op] w fun r w' => r = .returned (.tuple #[.pointer none, .iface 25 (.int .i64 7)]) ∧ w = w' := by
 have hc := hs.eng_c.2
 have c14 := hc.txs
 obtain ⟨a, cap, hv, hle, hcap, _⟩ := hc.row
 rw [hv] at c14
 unfold maxLen at hcap
 clear hs hc hv
 by_cases h1 : n < 1
 ·clear hn
  go_enter Tryz.func55, Tryz.ntmps55
  go_wp2
  go_ret2
  exact ⟨rfl, rfl⟩
 ·have h2 : (e.txs.length : Int) < n := by omega
  clear hn
  go_enter Tryz.func55, Tryz.ntmps55
  go_wp2
  go_ret2
  exact ⟨rfl, rfl⟩
theorem of_shut (w0 w : World) (b : Nat) (bs : List Nat) (k : EngV) (e : Eng) (i : Nat) (L : List HProp) (hs : S w0 w (engO b bs k e :: L)) (hi : i < e.txs.length) (hst : (e.tx i).state ≠ 0) :
  Calls Tryz.prog 55 #[.pointer (some ⟨b, 0, none⟩), .int .i64 ((i : Int) + 1), .bool true] w fun r w' => r = .returned (.tuple #[.pointer none, .iface 25 (.int .i64 6)]) ∧ w = w' := by
 have hc := hs.eng_c.2
 have c14 := hc.txs
 obtain ⟨a, cap, hv, hle, hcap, hrow⟩ := hc.row
 obtain ⟨g, o, rfl, ci⟩ := hrow i hi
 rw [hv] at c14
 unfold maxLen at hcap
 have c1 := (hs.eng_txc hi).2.state
 have hb : ((e.tx i).state != 0) = true := by simpa using hst
 unfold ptr at ci
 clear hs hc hv hrow hst
 go_enter Tryz.func55, Tryz.ntmps55
 go_wp2
 go_ret2
 exact ⟨rfl, rfl⟩
theorem of_ok (w0 w : World) (b : Nat) (bs : List Nat) (k : EngV) (e : Eng) (i : Nat) (op : Bool) (L : List HProp) (hs : S w0 w (engO b bs k e :: L)) (hi : i < e.txs.length) (hst : op = true → (e.tx i).state = 0) :
  Calls Tryz.prog 55 #[.pointer (some ⟨b, 0, none⟩), .int .i64 ((i : Int) + 1), .bool op] w fun r w' => r = .returned (.tuple #[ptr bs i, .nilIface]) ∧ w = w' := by
 have hc := hs.eng_c.2
 have c14 := hc.txs
 obtain ⟨a, cap, hv, hle, hcap, hrow⟩ := hc.row
 obtain ⟨g, o, rfl, ci⟩ := hrow i hi
 rw [hv] at c14
 unfold maxLen at hcap
 have c1 := (hs.eng_txc hi).2.state
 unfold ptr at ci ⊢
 clear hs hc hv hrow
 cases op with
 | true =>
  rw [hst rfl] at c1
  clear hst
  go_enter Tryz.func55, Tryz.ntmps55
  go_wp2
  go_ret2
  exact ⟨rfl, rfl⟩
 | false =>
  clear hst
  go_enter Tryz.func55, Tryz.ntmps55
  go_wp2
  go_ret2
  exact ⟨rfl, rfl⟩
theorem Eng.err_cases (e : Eng) (n : Int) (op : Bool) : (e.err n op = 7 ∧ (n < 1 ∨ (e.txs.length : Int) < n)) ∨ ∃ i : Nat, n = (i : Int) + 1 ∧ i < e.txs.length ∧ ((e.err n op = 6 ∧ op = true ∧ (e.tx i).state ≠ 0) ∨ (e.err n op = 0 ∧ (op = true → (e.tx i).state = 0))) := by
 by_cases h : n < 1 ∨ (e.txs.length : Int) < n
 ·exact .inl ⟨if_pos h, h⟩
 ·right
  obtain ⟨i, rfl⟩ : ∃ i : Nat, n = (i : Int) + 1 := ⟨(n - 1).toNat, by omega⟩
  have hi : ((i : Int) + 1).toNat - 1 = i := by omega
  refine ⟨i, rfl, by omega, ?_⟩
  unfold Eng.err
  rw [if_neg h, hi]
  by_cases h2 : op = true ∧ (e.tx i).state ≠ 0
  ·rw [if_pos h2]; exact .inl ⟨rfl, h2⟩
  ·rw [if_neg h2]; exact .inr ⟨rfl, fun ho => Decidable.byContradiction fun hx => h2 ⟨ho, hx⟩⟩
theorem state_any (w0 w : World) (b : Nat) (bs : List Nat) (k : EngV) (e : Eng) (n : Int) (L : List HProp) (hs : S w0 w (engO b bs k e :: L)) :
  Calls Tryz.prog 39 #[.pointer (some ⟨b, 0, none⟩), .int .i64 n] w fun r w' => r = .returned (.tuple #[.int .i64 (e.state n).1, .int .i64 (e.state n).2.1, errV (e.state n).2.2]) ∧ S w0 w' (engO b bs k e :: L) := by
 have HS := hid hs
 rcases e.err_cases n false with ⟨h1, h2⟩ | ⟨i, rfl, hi, ⟨h1, h2, h3⟩ | ⟨h1, h2⟩⟩
 ·have hst : e.state n = (0, 0, 7) := by unfold Eng.state; rw [if_pos (by rw [h1]; decide), h1]
  have HST := hid hst
  have hc := of_miss w0 w b bs k e n false L hs h2
  have HC := hid hc
  clear hs hst hc h1 h2
  go_enter Tryz.func39, Tryz.ntmps39
  go_wp2_with fail
  with_reducible refine HC.out.mono ?_
  rintro r w' ⟨rfl, rfl⟩
  go_wp2_with fail
  go_ret3
  exact ⟨by rw [HST.out]; rfl, HS.out⟩
 ·cases h2
 ·have hi2 : ((i : Int) + 1).toNat - 1 = i := by omega
  have hst : e.state ((i : Int) + 1) = ((e.tx i).state, (e.tx i).why, 0) := by unfold Eng.state; rw [if_neg (by rw [h1]; decide), hi2]
  have HST := hid hst
  have hc := of_ok w0 w b bs k e i false L hs hi h2
  unfold ptr at hc
  have hx := (hs.eng_txc hi).2
  have c1 := hx.state
  have c2 := hx.why
  have HC := hid hc
  clear hs hst hc h1 h2 hx hi2
  go_enter Tryz.func39, Tryz.ntmps39
  go_wp2_with fail
  with_reducible refine HC.out.mono ?_
  rintro r w' ⟨rfl, rfl⟩
  go_wp2_with fail
  go_quiet (fail)
  go_wp2_with fail
  go_ret3
  exact ⟨by rw [HST.out]; rfl, HS.out.drewN nq⟩
theorem txs_any (w0 w : World) (b : Nat) (bs : List Nat) (k : EngV) (e : Eng) (L : List HProp) (hs : S w0 w (engO b bs k e :: L)) :
  Calls Tryz.prog 30 #[.pointer (some ⟨b, 0, none⟩)] w fun r w' => r = .returned (.int .i64 e.txs.length) ∧ w = w' := by
 have hc := hs.eng_c.2
 have c14 := hc.txs
 obtain ⟨a, cap, hv, hle, hcap, _⟩ := hc.row
 rw [hv] at c14
 unfold maxLen at hcap
 clear hs hc hv
 go_enter Tryz.func30, Tryz.ntmps30
 go_wp2
 go_ret
 exact ⟨rfl, rfl⟩
theorem elast_any (w0 w : World) (b : Nat) (e : Eng) (L : List HProp) (hs : S w0 w (storeP 107 b 0 e.V e.last :: L)) :
  Calls Tryz.prog 31 #[.pointer (some ⟨b, 0, none⟩)] w fun r w' => r = .returned (.int .i64 e.last) ∧ w = w' := by
 have hc := last_any b 0 e.last w hs.store_last.1
 clear hs
 go_enter Tryz.func31, Tryz.ntmps31
 go_wp2_with (go_at_call 48; with_reducible refine hc.mono ?_; rintro r w' ⟨rfl, rfl⟩)
 go_ret
 exact ⟨rfl, rfl⟩
theorem ewaits_any (w0 w : World) (b : Nat) (e : Eng) (n : Int) (L : List HProp) (hs : S w0 w (tabP 3 b 11 e.t :: L)) :
  Calls Tryz.prog 42 #[.pointer (some ⟨b, 0, none⟩), .int .i64 n] w fun r w' => r = .returned (.int .i64 (e.waits n)) ∧ w = w' := by
 have hw := twaits_any w0 w 3 b 11 e.t n L hs
 have hh := fun key => tholds_any w0 w 3 b 11 e.t key L hs
 cases hm : mget e.t.wait n with
 | none =>
  have hf : e.waits n = 0 := by unfold Eng.waits; rw [hm]
  rw [hm] at hw
  have HF := hid hf; have HW := hid hw
  clear hs hw hh hm hf
  go_enter Tryz.func42, Tryz.ntmps42
  go_wp2_with fail
  with_reducible refine HW.out.mono ?_
  rintro r w' ⟨rfl, rfl⟩
  go_wp2_with fail
  go_ret
  exact ⟨by rw [HF.out]; rfl, rfl⟩
 | some kk =>
  rw [hm] at hw
  by_cases h0 : 0 ≤ kk
  ·have hf : e.waits n = (mget e.t.hold kk).getD 0 := by unfold Eng.waits; rw [hm]; exact if_pos h0
   have HF := hid hf; have HW := hid hw; have HH := hid (hh kk)
   clear hs hw hh hm hf
   go_enter Tryz.func42, Tryz.ntmps42
   go_wp2_with fail
   with_reducible refine HW.out.mono ?_
   rintro r w' ⟨rfl, rfl⟩
   go_wp2_with fail
   with_reducible refine HH.out.mono ?_
   rintro r w' ⟨rfl, rfl⟩
   go_wp2_with fail
   go_ret
   exact ⟨by rw [HF.out]; rfl, rfl⟩
  ·have hf : e.waits n = 0 := by unfold Eng.waits; rw [hm]; exact if_neg h0
   have HF := hid hf; have HW := hid hw
   clear hs hw hh hm hf
   go_enter Tryz.func42, Tryz.ntmps42
   go_wp2_with fail
   with_reducible refine HW.out.mono ?_
   rintro r w' ⟨rfl, rfl⟩
   go_wp2_with fail
   go_ret
   exact ⟨by rw [HF.out]; rfl, rfl⟩
end Go.Proofs.YtmfngjclccehaaaGreatDoor
namespace Go.Proofs.YtmfngjclccehaaaGreatDoor
open Go Go.RowKit Go.Sep
theorem saw1_any (w0 w : World) (k1 f1 key : Int) (bw : Nat) (L : List HProp) (hs : S w0 w L) (hc : w.cell? ⟨bw, 0, none⟩ = some (.int .i64 key)) :
  Calls Tryz.prog 86 #[.agg #[.int .i64 k1, .int .i64 f1], .pointer (some ⟨bw, 0, none⟩)] w fun r w' => r = .returned (.bool (k1 == key)) ∧ S w0 w' L := by
 have hlt := World.block_lt_of_cell? w ⟨bw, 0, none⟩ hc
 have h1 : (w.alloc (.cells #[.int .i64 k1, .int .i64 f1] 139)).cell? ⟨bw, 0, none⟩ = some (.int .i64 key) := by rw [World.cell?_alloc_lt _ _ _ hlt]; exact hc
 have HS := hid (hs.alloc #[.int .i64 k1, .int .i64 f1] 139).tail
 clear hs hc hlt
 go_enter Tryz.func86, Tryz.ntmps86
 go_wp2
 go_ret
 exact ⟨rfl, HS.out⟩
abbrev sawF (bw : Nat) : Value := .func (.func 86) #[] #[.pointer (some ⟨bw, 0, none⟩)]
def RxPost (w0 : World) (L : List HProp) (key : Int) (l : List (Int × Int)) (e : Ending) (w' : World) : Prop := ∃ r : Int, e = .returned (.int .i64 r) ∧ -1 ≤ r ∧ (decide (0 ≤ r) = l.any fun p => decide (p.1 = key)) ∧ S w0 w' L
set_option maxRecDepth 20000 in
set_option maxHeartbeats 1000000 in
theorem indexR_any (w0 w : World) (b : Nat) (bs : List Nat) (k : EngV) (e : Eng) (j : Nat) (bw : Nat) (key val : Int) (L : List HProp) (hs : S w0 w (blk bw 101 [.int .i64 key, .int .i64 val] :: engO b bs k e :: L)) (hj : j < e.txs.length) :
  Calls Tryz.prog 100 #[(k.v j).rv, sawF bw] w (RxPost w0 (blk bw 101 [.int .i64 key, .int .i64 val] :: engO b bs k e :: L) key (e.tx j).reads) := by
 obtain ⟨a, cap, hrv, hle, hcap, _⟩ := (hs.swap.eng_txc hj).2.rs
 have hrd : ∀ W, S w0 W (blk bw 101 [.int .i64 key, .int .i64 val] :: engO b bs k e :: L) → ∀ i p, (e.tx j).reads[i]? = some p → ∃ g o, a = some ⟨g, o, none⟩ ∧ W.cell? ⟨g, o + i * 2, none⟩ = some (.int .i64 p.1) ∧ W.cell? ⟨g, o + i * 2 + 1, none⟩ = some (.int .i64 p.2) := by
  intro W hW i p hp
  obtain ⟨a', cap', hrv', _, _, h⟩ := (hW.swap.eng_txc hj).2.rs
  rw [hrv] at hrv'
  simp only [Value.slice.injEq] at hrv'
  obtain ⟨rfl, _, _⟩ := hrv'
  exact h i p hp
 rw [hrv]
 generalize (e.tx j).reads = l at *
 unfold maxLen at hcap
 have HS := hid hs; have HRD := hid hrd
 clear hs hrd hrv
 go_enter Tryz.func100, Tryz.ntmps100
 go_wp2_with fail
 go_loopw [8] (fun x wr => ∃ i : Nat, i ≤ l.length ∧ x = .int .i64 i ∧ Hid (∀ p ∈ l.take i, p.1 ≠ key) ∧ S w0 wr (blk bw 101 [.int .i64 key, .int .i64 val] :: engO b bs k e :: L)) (fun x _ => l.length - (intOf x).toNat)
 case atStart => exact ⟨0, Nat.zero_le _, rfl, hid (by simp), HS.out⟩
 case round =>
  rename World => wr
  obtain ⟨i, hi, rfl, hno, hsr⟩ := hrel
  clear HS
  by_cases hlt : i < l.length
  ·have hp : l[i]? = some l[i] := by simp [hlt]
   generalize l[i] = p at hp
   obtain ⟨g, o, rfl, c1, c2⟩ := HRD.out _ hsr _ _ hp
   have hc := saw1_any w0 wr p.1 p.2 key bw _ hsr (hsr.blk_cell 0 rfl)
   have HP := hid hp; have HC := hid hc; have HSR := hid hsr
   clear hp hc hsr
   by_cases hx : p.1 = key
   ·have hbe : (p.1 == key) = true := by simpa using hx
    have HF := hid (show (l.any fun p => decide (p.1 = key)) = true by
     rw [List.any_eq_true]; exact ⟨p, List.mem_of_getElem? HP.out, by simpa using hx⟩)
    clear hx hno
    go_wp2_with fail
    with_reducible refine HC.out.mono ?_
    rintro r w' ⟨rfl, hs'⟩
    have H2 := hid hs'
    clear hs'
    go_wp2_with fail
    go_ret
    exact ⟨i, rfl, by omega, by rw [HF.out]; simp, H2.out⟩
   ·have hn : Hid (∀ q ∈ l.take (i + 1), q.1 ≠ key) := hid (by
     rw [take_succ_get HP.out]
     intro q hq
     rcases List.mem_append.1 hq with hq | hq
     ·exact hno.out q hq
     ·simp only [List.mem_singleton] at hq; subst hq; exact hx)
    have hbe : (p.1 == key) = false := by simpa using hx
    clear hx hno
    go_wp2_with fail
    with_reducible refine HC.out.mono ?_
    rintro r w' ⟨rfl, hs'⟩
    have H2 := hid hs'
    clear hs'
    go_wp2_with fail
    go_roundw
    case rel => exact ⟨i + 1, by omega, by go_num, hn, H2.out⟩
    case measure => simp [intOf]; omega
  ·have HF := hid (show (l.any fun p => decide (p.1 = key)) = false by
    rw [List.any_eq_false]
    intro p hp
    have := hno.out p (by rw [List.take_of_length_le (by omega)]; exact hp)
    simp [this])
   have H2 := hid hsr
   clear hno hsr
   go_wp2_with fail
   go_ret
   exact ⟨-1, rfl, by omega, by rw [HF.out]; simp, H2.out⟩
theorem containsR_any (w0 w : World) (b : Nat) (bs : List Nat) (k : EngV) (e : Eng) (j : Nat) (bw : Nat) (key val : Int) (L : List HProp) (hs : S w0 w (blk bw 101 [.int .i64 key, .int .i64 val] :: engO b bs k e :: L)) (hj : j < e.txs.length) :
  Calls Tryz.prog 85 #[(k.v j).rv, sawF bw] w fun r w' => r = .returned (.bool ((e.tx j).saw key)) ∧ S w0 w' (blk bw 101 [.int .i64 key, .int .i64 val] :: engO b bs k e :: L) := by
 have HC := hid (indexR_any w0 w b bs k e j bw key val L hs hj)
 clear hs
 go_enter Tryz.func85, Tryz.ntmps85
 go_wp2_with fail
 with_reducible refine HC.out.mono ?_
 rintro r w' ⟨x, rfl, hr, hd, hs'⟩
 have HD := hid hd; have H2 := hid hs'
 clear hd hs'
 go_wp2_with fail
 go_ret
 exact ⟨by unfold Tx.saw; rw [← HD.out]; rfl, H2.out⟩
end Go.Proofs.YtmfngjclccehaaaGreatDoor
