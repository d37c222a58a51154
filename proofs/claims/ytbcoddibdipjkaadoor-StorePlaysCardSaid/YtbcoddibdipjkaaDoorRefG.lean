/- The reference's store: Sweep. -/
import Derived.Test.YtbcoddibdipjkaaDoorRefF
namespace Go.Proofs.YtbcoddibdipjkaaDoor
open Go Go.RowKit Go.Sep

theorem Tryd.info129 : (Tryd.prog.info? 129).map (fun i => (i.zero, i.size, i.bytes)) = some (some (.agg #[.int .i64 0, .int .i64 0, .int .i64 0]), 3, 24) := by kernel_rfl
theorem Tryd.eqlV (p q : Int × Int) (w : World) : (binOp .eql 38 (.agg #[.int .i64 p.1, .int .i64 p.2]) (.agg #[.int .i64 q.1, .int .i64 q.2])).run Tryd.prog w = .ok (.bool (decide (p = q))) w := by
  go_simp
  obtain ⟨a, b⟩ := p
  obtain ⟨c, d⟩ := q
  by_cases h1 : a = c <;> by_cases h2 : b = d <;> simp [h1, h2]
theorem Tryd.neqV (p q : Int × Int) (w : World) : (binOp .neq 38 (.agg #[.int .i64 p.1, .int .i64 p.2]) (.agg #[.int .i64 q.1, .int .i64 q.2])).run Tryd.prog w = .ok (.bool (!decide (p = q))) w := by
  go_simp
  obtain ⟨a, b⟩ := p
  obtain ⟨c, d⟩ := q
  by_cases h1 : a = c <;> by_cases h2 : b = d <;> simp [h1, h2]
theorem filter_yes {f : Kep → Bool} {K : List Kep} {i : Nat} {x : Kep} (hp : K[i]? = some x) (h : f x = true) : (K.take (i + 1)).filter f = (K.take i).filter f ++ [x] := by
  rw [take_succ_get hp, List.filter_append]; simp [h]
theorem filter_no {f : Kep → Bool} {K : List Kep} {i : Nat} {x : Kep} (hp : K[i]? = some x) (h : f x = false) : (K.take (i + 1)).filter f = (K.take i).filter f := by
  rw [take_succ_get hp, List.filter_append]; simp [h]
theorem filter_take_le (f : Kep → Bool) (K : List Kep) (i : Nat) : ((K.take i).filter f).length ≤ K.length := by
  have h1 := List.length_filter_le f (K.take i)
  rw [List.length_take] at h1; omega

set_option maxRecDepth 40000 in
set_option maxHeartbeats 8000000 in
theorem rsweep_any (w0 w : World) (b : Nat) (K : List Kep) (last at_ : Int) (L : List HProp) (hs : S w0 w (refP 74 129 b K last :: L)) (hb : K.length ≤ 1000) (hok : ∀ x ∈ K, keyOk x.1) :
    Calls Tryd.prog 31 #[.pointer (some ⟨b, 0, none⟩), .int .i64 at_] w fun e w' => e = .returned (.int .i64 ((K.length : Int) - (rswept K at_).length)) ∧ S w0 w' (refP 74 129 b (rswept K at_) last :: L) := by
  obtain ⟨v, h1⟩ := hs.ex_elim
  obtain ⟨a, c, rfl, hc1, hc2, _⟩ := h1.sep_elim.swap.sl_val
  unfold maxLen at hc2
  have c0 := h1.sep_elim.blk_cell 0 rfl
  have H2 := hid (h1.sl_nil (e := 129) (size := 3)); have HOK := hid hok
  clear hs h1 hok
  go_enter Tryd.func31, Tryd.ntmps31
  go_wp2_with fail
  go_loopw [5, 16] (fun u cn wr => ∃ i : Nat, i ≤ K.length ∧ cn = .int .i64 i ∧ S w0 wr (sl 129 3 u ((K.take i).filter (rkeep K at_)).length (fcells kcells ((K.take i).filter (rkeep K at_))) :: refK 74 129 b (.slice a K.length c) K last :: L)) (fun _ cn _ => K.length - (intOf cn).toNat)
  case atStart => exact ⟨0, Nat.zero_le _, rfl, H2.out⟩
  case round =>
    rename World => wr
    obtain ⟨i, hi, rfl, hsr⟩ := hrel
    clear H2 c0
    by_cases hlt : i < K.length
    · have hp : K[i]? = some K[i] := by simp [hlt]
      generalize K[i] = x at hp
      obtain ⟨au, cu, rfl, hcu, hcu2, _⟩ := hsr.sl_val
      unfold maxLen at hcu2
      have hle := filter_take_le (rkeep K at_) K i
      obtain ⟨g, og, rfl, _, d0, d1, d2⟩ := (S.swap (S.sep_elim (S.swap hsr))).ref_at hp
      have hkx := HOK.out x (List.mem_of_getElem? hp)
      have hfy := filter_yes (f := rkeep K at_) hp
      have hfn := filter_no (f := rkeep K at_) hp
      have hsx := hsr.alloc #[.int .i64 x.1, .int .i64 x.2.1, .int .i64 x.2.2] 129
      obtain ⟨x1, x2, x3⟩ := x
      simp only at d0 d1 d2 hsx hkx
      have hcall := rreadK_any w0 _ b _ K last x1 at_ _ (hsx.conv (M := refK 74 129 b (.slice (some ⟨g, og, none⟩) K.length c) K last :: blk wr.heap.size 129 [.int .i64 x1, .int .i64 x2, .int .i64 x3] :: sl 129 3 (.slice au ((K.take i).filter (rkeep K at_)).length cu) ((K.take i).filter (rkeep K at_)).length (fcells kcells ((K.take i).filter (rkeep K at_))) :: L) (by simp only [all]; ac_rfl))
      rw [rreadAns_in ⟨hkx.1, by have := hkx.2; omega⟩] at hcall
      obtain ⟨r, hr⟩ : ∃ r, rread K x1 at_ = r := ⟨_, rfl⟩
      rw [hr] at hcall
      have hkeep : rkeep K at_ (x1, x2, x3) = decide (at_ < x2 ∨ r = some (x2, x3)) := by unfold rkeep; simp only [hr]
      have HC := hid hcall; have HFY := hid hfy; have HFN := hid hfn; have HKP := hid hkeep
      clear hcall hfy hfn hkeep hr hsr hsx hp hkx
      go_wp2_with fail
      with_reducible refine HC.out.mono ?_
      rintro e w2 ⟨rfl, hs2⟩
      clear HC
      unfold ransV
      have hsz := (hs2.conv (M := blk wr.heap.size 129 [.int .i64 x1, .int .i64 x2, .int .i64 x3] :: sl 129 3 (.slice au ((K.take i).filter (rkeep K at_)).length cu) ((K.take i).filter (rkeep K at_)).length (fcells kcells ((K.take i).filter (rkeep K at_))) :: refK 74 129 b (.slice (some ⟨g, og, none⟩) K.length c) K last :: L) (by simp only [all]; ac_rfl))
      have HZ := hid hsz
      clear hs2 hsz
      cases r with
      | none =>
        have y0 := (HZ.out.alloc #[.int .i64 0, .int .i64 0] 38).swap.blk_cell 0 rfl
        have y1 := (HZ.out.alloc #[.int .i64 0, .int .i64 0] 38).swap.blk_cell 1 rfl
        have y2 := (HZ.out.alloc #[.int .i64 0, .int .i64 0] 38).swap.blk_cell 2 rfl
        by_cases ha : at_ < x2
        · have hk2 := HFY.out (by rw [HKP.out]; exact decide_eq_true (.inl ha))
          obtain ⟨i0, hi0, hz0, hz1, hz2⟩ := info_parts Tryd.info129
          have hs3 := (HZ.out.alloc #[.int .i64 0, .int .i64 0] 38).tail.tail.alloc #[.int .i64 x1, .int .i64 x2, .int .i64 x3] 129
          have hn1 := news_blk hs3
          rw [World.size_alloc] at hn1
          have HX := hid hk2; have HN1 := hid hn1; have H9 := hid hs3.tail
          clear hs3 hn1 hk2 HFY HFN HKP
          go_wp2_with (at_builtin; refine wpList_append rfl (.tmp 43) (.tmp 45) 72 rfl 129 i0 _ 3 24 Tryd.underlying72 hi0 hz0 hz1 hz2 rfl (by decide) H9.out rfl (some ⟨w2.heap.size + 1, 0, none⟩) 1 1 [.int .i64 x1, .int .i64 x2, .int .i64 x3] rfl rfl HN1.out (by simp [Value.oneCell']) (by unfold maxLen; omega) (by omega) ?_; intro v1 w5 hs1; have HS := hid hs1; clear hs1)
          go_roundw
          case rel => exact ⟨i + 1, by omega, by go_num, by rw [HX.out, kcells_snoc, List.length_append, List.length_singleton]; exact HS.out⟩
          case measure => simp [intOf]; omega
        · have hk2 := HFN.out (by rw [HKP.out]; exact decide_eq_false (by rintro (h | h); exact ha h; cases h))
          have HX := hid hk2; have H9 := hid (HZ.out.alloc #[.int .i64 0, .int .i64 0] 38).tail.tail
          clear hk2 HFY HFN HKP
          go_wp2_with fail
          go_roundw
          case rel => exact ⟨i + 1, by omega, by go_num, by rw [HX.out]; exact H9.out⟩
          case measure => simp [intOf]; omega
      | some p =>
        obtain ⟨p1, p2⟩ := p
        have y0 := (HZ.out.alloc #[.int .i64 p1, .int .i64 p2] 38).swap.blk_cell 0 rfl
        have y1 := (HZ.out.alloc #[.int .i64 p1, .int .i64 p2] 38).swap.blk_cell 1 rfl
        have y2 := (HZ.out.alloc #[.int .i64 p1, .int .i64 p2] 38).swap.blk_cell 2 rfl
        have hev := fun W => Tryd.eqlV (p1, p2) (x2, x3) W
        by_cases ha : at_ < x2
        · have hk2 := HFY.out (by rw [HKP.out]; exact decide_eq_true (.inl ha))
          obtain ⟨i0, hi0, hz0, hz1, hz2⟩ := info_parts Tryd.info129
          have hs3 := (HZ.out.alloc #[.int .i64 p1, .int .i64 p2] 38).tail.tail.alloc #[.int .i64 x1, .int .i64 x2, .int .i64 x3] 129
          have hn1 := news_blk hs3
          rw [World.size_alloc] at hn1
          have HX := hid hk2; have HN1 := hid hn1; have H9 := hid hs3.tail
          clear hs3 hn1 hk2 HFY HFN HKP
          go_wp2_with (at_builtin; refine wpList_append rfl (.tmp 43) (.tmp 45) 72 rfl 129 i0 _ 3 24 Tryd.underlying72 hi0 hz0 hz1 hz2 rfl (by decide) H9.out rfl (some ⟨w2.heap.size + 1, 0, none⟩) 1 1 [.int .i64 x1, .int .i64 x2, .int .i64 x3] rfl rfl HN1.out (by simp [Value.oneCell']) (by unfold maxLen; omega) (by omega) ?_; intro v1 w5 hs1; have HS := hid hs1; clear hs1)
          go_roundw
          case rel => exact ⟨i + 1, by omega, by go_num, by rw [HX.out, kcells_snoc, List.length_append, List.length_singleton]; exact HS.out⟩
          case measure => simp [intOf]; omega
        · by_cases hpx : (p1, p2) = (x2, x3)
          · rw [hpx] at hev
            simp only [decide_true] at hev
            obtain ⟨rfl, rfl⟩ : p1 = x2 ∧ p2 = x3 := by simpa using hpx
            have hk2 := HFY.out (by rw [HKP.out]; exact decide_eq_true (.inr rfl))
            obtain ⟨i0, hi0, hz0, hz1, hz2⟩ := info_parts Tryd.info129
            have hs3 := (HZ.out.alloc #[.int .i64 p1, .int .i64 p2] 38).tail.tail.alloc #[.int .i64 x1, .int .i64 p1, .int .i64 p2] 129
            have hn1 := news_blk hs3
            rw [World.size_alloc] at hn1
            have HX := hid hk2; have HN1 := hid hn1; have H9 := hid hs3.tail
            clear hs3 hn1 hk2 HFY HFN HKP
            go_wp2_with (at_builtin; refine wpList_append rfl (.tmp 43) (.tmp 45) 72 rfl 129 i0 _ 3 24 Tryd.underlying72 hi0 hz0 hz1 hz2 rfl (by decide) H9.out rfl (some ⟨w2.heap.size + 1, 0, none⟩) 1 1 [.int .i64 x1, .int .i64 p1, .int .i64 p2] rfl rfl HN1.out (by simp [Value.oneCell']) (by unfold maxLen; omega) (by omega) ?_; intro v1 w5 hs1; have HS := hid hs1; clear hs1)
            go_roundw
            case rel => exact ⟨i + 1, by omega, by go_num, by rw [HX.out, kcells_snoc, List.length_append, List.length_singleton]; exact HS.out⟩
            case measure => simp [intOf]; omega
          · simp only [hpx, decide_false] at hev
            have hk2 := HFN.out (by rw [HKP.out]; exact decide_eq_false (by rintro (h | h); exact ha h; exact hpx (Option.some.inj h)))
            have HX := hid hk2; have H9 := hid (HZ.out.alloc #[.int .i64 p1, .int .i64 p2] 38).tail.tail
            clear hk2 HFY HFN HKP
            go_wp2_with fail
            go_roundw
            case rel => exact ⟨i + 1, by omega, by go_num, by rw [HX.out]; exact H9.out⟩
            case measure => simp [intOf]; omega
    · obtain rfl : i = K.length := by omega
      rw [List.take_length] at hsr
      obtain ⟨au, cu, rfl, hcu, hcu2, _⟩ := hsr.sl_val
      unfold maxLen at hcu2
      have hsb := S.sep_elim (S.swap hsr)
      have e0 := hsb.blk_cell 0 rfl
      have f0 := hsb.blk_free 0
      have hfin := (hsb.blk_set 0 (by simp) (.slice au (K.filter (rkeep K at_)).length cu)).swap.tail.conv (M := blk b 74 [.slice au (K.filter (rkeep K at_)).length cu, .int .i64 last] :: sl 129 3 (.slice au (K.filter (rkeep K at_)).length cu) (K.filter (rkeep K at_)).length (fcells kcells (K.filter (rkeep K at_))) :: L) rfl
      have hle := List.length_filter_le (rkeep K at_) K
      have hw : IntKind.i64.wrap ((K.length : Int) - ((K.filter (rkeep K at_)).length : Int)) = (K.length : Int) - ((K.filter (rkeep K at_)).length : Int) := IntWalk.i64_in _ (by omega)
      have HF := hid hfin
      clear hsr hsb hfin
      go_wp2_with fail
      go_ret
      exact ⟨rfl, S.ref_intro HF.out⟩
end Go.Proofs.YtbcoddibdipjkaaDoor
