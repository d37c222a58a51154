/- The reference's store: Read. -/
import Derived.Test.YtbcoddibdipjkaaDoorRefP
import Derived.Test.YtbcoddibdipjkaaDoorPlace
import Derived.Test.YtbcoddibdipjkaaDoorAc
namespace Go.Sep
open Go Go.RowKit Go.Proofs.YtbcoddibdipjkaaDoor
/-- What stands in a variable of a version. -/
def bcells (r : Option (Int × Int)) : List Value := match r with | some p => [.int .i64 p.1, .int .i64 p.2] | none => [.int .i64 0, .int .i64 0]
def rreadAns (k : Int) (r : Option (Int × Int)) : Value := if 0 ≤ k ∧ k ≤ 9 then (match r with | some p => .tuple #[.agg #[.int .i64 p.1, .int .i64 p.2], .int .i64 0] | none => .tuple #[.agg #[.int .i64 0, .int .i64 0], .int .i64 8]) else .tuple #[.agg #[.int .i64 0, .int .i64 0], .int .i64 2]
end Go.Sep
namespace Go.Proofs.YtbcoddibdipjkaaDoor
open Go Go.RowKit Go.Sep

set_option maxRecDepth 40000 in
set_option maxHeartbeats 4000000 in
theorem rreadK_any (w0 w : World) (b : Nat) (v : Value) (K : List Kep) (last k at_ : Int) (L : List HProp) (hs : S w0 w (refK 74 129 b v K last :: L)) :
    Calls Tryd.prog 32 #[.pointer (some ⟨b, 0, none⟩), .int .i64 k, .int .i64 at_] w fun e w' => e = .returned (rreadAns k (rread K k at_)) ∧ S w0 w' (refK 74 129 b v K last :: L) := by
  by_cases hk : 0 ≤ k ∧ k ≤ 9
  · have hkb : decide ((0 : Int) ≤ k ∧ k ≤ 9) = true := decide_eq_true hk
    have h1 := hs.sep_elim
    obtain ⟨a, c, rfl, hc1, hc2, _⟩ := h1.swap.sl_val
    unfold maxLen at hc2
    have h2 := (h1.alloc #[.int .i64 0, .int .i64 0] 38).alloc #[.int .i64 0, .int .i64 0] 38
    rw [World.size_alloc] at h2
    have c0 := h2.tail.tail.blk_cell 0 rfl
    have hans : ∀ r, rreadAns k r = (match r with | some p => .tuple #[.agg #[.int .i64 p.1, .int .i64 p.2], .int .i64 0] | none => .tuple #[.agg #[.int .i64 0, .int .i64 0], .int .i64 8]) := fun r => by unfold rreadAns; rw [if_pos hk]
    have H2 := hid h2; have HANS := hid hans
    clear hs h1 h2 hk hans
    go_enter Tryd.func32, Tryd.ntmps32
    go_wp2_with (go_at_call 65; with_reducible refine (in_any _ _ _ _).mono ?_; rw [hkb]; rintro e w' ⟨rfl, rfl⟩)
    go_loopw [9, 22] (fun sb cn wr => ∃ i : Nat, i ≤ K.length ∧ cn = .int .i64 i ∧ sb = .bool (rread (K.take i) k at_).isSome ∧ S w0 wr (blk (w.heap.size + 1) 38 (bcells (rread (K.take i) k at_)) :: blk w.heap.size 38 [.int .i64 0, .int .i64 0] :: blk b 74 [.slice a K.length c, .int .i64 last] :: sl 129 3 (.slice a K.length c) K.length (fcells kcells K) :: L)) (fun _ cn _ => K.length - (intOf cn).toNat)
    case atStart => exact ⟨0, Nat.zero_le _, rfl, rfl, H2.out⟩
    case round =>
      rename World => wr
      obtain ⟨i, hi, rfl, rfl, hsr⟩ := hrel
      clear H2
      by_cases hlt : i < K.length
      · have hp : K[i]? = some K[i] := by simp [hlt]
        generalize K[i] = x at hp
        obtain ⟨g, og, rfl, _, d0, d1, d2⟩ := (hsr.conv (M := sl 129 3 (.slice a K.length c) K.length (fcells kcells K) :: blk (w.heap.size + 1) 38 (bcells (rread (K.take i) k at_)) :: blk w.heap.size 38 [.int .i64 0, .int .i64 0] :: blk b 74 [.slice a K.length c, .int .i64 last] :: L) (by simp only [all]; ac_rfl)).ref_at hp
        have hsn : rread (K.take (i + 1)) k at_ = rstep k at_ (rread (K.take i) k at_) x := by rw [take_succ_get hp, rread_snoc]
        generalize rread (K.take i) k at_ = r at hsr hsn ⊢
        have hsx := hsr.alloc #[.int .i64 x.1, .int .i64 x.2.1, .int .i64 x.2.2] 129
        have HSN := hid hsn
        obtain ⟨x1, x2, x3⟩ := x
        simp only at d0 d1 d2 hsx
        by_cases hx : x1 = k
        · by_cases ha : x2 ≤ at_
          · cases r with
            | none =>
              have hn : rread (K.take (i + 1)) k at_ = some (x2, x3) := by rw [HSN.out]; unfold rstep; rw [if_pos ⟨hx, ha, .inl rfl⟩]
              have e0 := hsx.swap.blk_cell 0 rfl
              have e1 := hsx.swap.blk_cell 1 rfl
              have f0 := hsx.swap.blk_free 0
              have f1 := hsx.swap.blk_free 1
              have hfin := ((hsx.swap.blk_set 0 (by simp [bcells]) (.int .i64 x2)).blk_set 1 (by simp [bcells]) (.int .i64 x3)).swap.tail
              have HN := hid hn; have HF := hid hfin
              subst hx
              clear hsr hsx hsn hn hfin hp HSN
              go_wp2_with fail
              go_roundw
              case rel => exact ⟨i + 1, by omega, by go_num, by rw [HN.out] <;> rfl, by rw [HN.out]; exact HF.out⟩
              case measure => simp [intOf]; omega
            | some cc =>
              obtain ⟨c1, c2⟩ := cc
              have e0 := hsx.swap.blk_cell 0 rfl
              have e1 := hsx.swap.blk_cell 1 rfl
              have f0 := hsx.swap.blk_free 0
              have f1 := hsx.swap.blk_free 1
              by_cases hl : c1 < x2
              · have hn : rread (K.take (i + 1)) k at_ = some (x2, x3) := by rw [HSN.out]; unfold rstep; rw [if_pos ⟨hx, ha, .inr ⟨_, rfl, hl⟩⟩]
                have hfin := ((hsx.swap.blk_set 0 (by simp [bcells]) (.int .i64 x2)).blk_set 1 (by simp [bcells]) (.int .i64 x3)).swap.tail
                have HN := hid hn; have HF := hid hfin
                subst hx
                clear hsr hsx hsn hn hfin hp HSN
                go_wp2_with fail
                go_roundw
                case rel => exact ⟨i + 1, by omega, by go_num, by rw [HN.out] <;> rfl, by rw [HN.out]; exact HF.out⟩
                case measure => simp [intOf]; omega
              · have hn : rread (K.take (i + 1)) k at_ = some (c1, c2) := by
                  rw [HSN.out]; unfold rstep; rw [if_neg]
                  rintro ⟨_, _, h | ⟨d, h, h'⟩⟩
                  · cases h
                  · cases h; exact hl h'
                have HN := hid hn; have HF := hid hsx.tail
                subst hx
                clear hsr hsx hsn hn hp HSN
                go_wp2_with fail
                go_roundw
                case rel => exact ⟨i + 1, by omega, by go_num, by rw [HN.out] <;> rfl, by rw [HN.out]; exact HF.out⟩
                case measure => simp [intOf]; omega
          · have hn : rread (K.take (i + 1)) k at_ = r := by rw [HSN.out]; unfold rstep; rw [if_neg (fun h => ha h.2.1)]
            have HN := hid hn; have HF := hid hsx.tail
            subst hx
            clear hsr hsx hsn hn hp HSN
            go_wp2_with fail
            go_roundw
            case rel => exact ⟨i + 1, by omega, by go_num, by rw [HN.out], by rw [HN.out]; exact HF.out⟩
            case measure => simp [intOf]; omega
        · have hxb : (x1 == k) = false := by simpa using hx
          have hn : rread (K.take (i + 1)) k at_ = r := by rw [HSN.out]; unfold rstep; rw [if_neg (fun h => hx h.1)]
          have HN := hid hn; have HF := hid hsx.tail
          clear hsr hsx hsn hn hp HSN hx
          go_wp2_with fail
          go_roundw
          case rel => exact ⟨i + 1, by omega, by go_num, by rw [HN.out], by rw [HN.out]; exact HF.out⟩
          case measure => simp [intOf]; omega
      · obtain rfl : i = K.length := by omega
        rw [List.take_length] at hsr
        rw [List.take_length]
        obtain ⟨r, hrr⟩ : ∃ r, rread K k at_ = r := ⟨_, rfl⟩
        rw [hrr] at hsr
        rw [hrr]
        have HRR := hid hrr
        clear hrr
        have g0 := hsr.swap.blk_cell 0 rfl
        have g1 := hsr.swap.blk_cell 1 rfl
        have f0 := hsr.swap.blk_free 0
        have f1 := hsr.swap.blk_free 1
        cases r with
        | none =>
          have hfin := (hsr.swap.blk_set 0 (by simp) (.int .i64 0)).blk_set 1 (by simp) (.int .i64 0)
          have e0 := hfin.blk_cell 0 rfl
          have e1 := hfin.blk_cell 1 rfl
          have HF := hid hfin
          clear hsr hfin
          go_wp2_with fail
          exact bodyPost_ret (v := rreadAns k none) (by rw [HANS.out]; simp [results, Tryd.results32, go_sem, e0, e1]) rfl ⟨by rw [HRR.out], S.sep_intro HF.out.tail.tail⟩
        | some p =>
          have p0 := hsr.blk_cell 0 rfl
          have p1 := hsr.blk_cell 1 rfl
          have hfin := (hsr.swap.blk_set 0 (by simp) (.int .i64 p.1)).blk_set 1 (by simp) (.int .i64 p.2)
          have e0 := hfin.blk_cell 0 rfl
          have e1 := hfin.blk_cell 1 rfl
          have HF := hid hfin
          clear hsr hfin
          go_wp2_with fail
          exact bodyPost_ret (v := rreadAns k (some p)) (by rw [HANS.out]; simp [results, Tryd.results32, go_sem, e0, e1]) rfl ⟨by rw [HRR.out], S.sep_intro HF.out.tail.tail⟩
  · have hkb : decide ((0 : Int) ≤ k ∧ k ≤ 9) = false := decide_eq_false hk
    have hans : ∀ r, rreadAns k r = .tuple #[.agg #[.int .i64 0, .int .i64 0], .int .i64 2] := fun r => by unfold rreadAns; rw [if_neg hk]
    have hfin := hs.alloc #[.int .i64 0, .int .i64 0] 38
    have e0 := hfin.blk_cell 0 rfl
    have e1 := hfin.blk_cell 1 rfl
    have H2 := hid hfin.tail; have HANS := hid hans
    clear hs hk hans hfin
    go_enter Tryd.func32, Tryd.ntmps32
    go_wp2_with (go_at_call 65; with_reducible refine (in_any _ _ _ _).mono ?_; rw [hkb]; rintro e w' ⟨rfl, rfl⟩)
    exact bodyPost_ret (v := rreadAns k none) (by rw [HANS.out]; simp [results, Tryd.results32, go_sem, e0, e1]) rfl ⟨by rw [HANS.out, HANS.out], H2.out⟩
theorem rread_any (w0 w : World) (b : Nat) (K : List Kep) (last k at_ : Int) (L : List HProp) (hs : S w0 w (refP 74 129 b K last :: L)) :
    Calls Tryd.prog 32 #[.pointer (some ⟨b, 0, none⟩), .int .i64 k, .int .i64 at_] w fun e w' => e = .returned (rreadAns k (rread K k at_)) ∧ S w0 w' (refP 74 129 b K last :: L) := by
  obtain ⟨v, h⟩ := hs.ex_elim
  exact (rreadK_any w0 w b v K last k at_ L h).mono fun e w' ⟨h1, h2⟩ => ⟨h1, .ex_intro v h2⟩
end Go.Proofs.YtbcoddibdipjkaaDoor
