/- interleafkeep.LockMoves: the walk. -/
import Derived.Test.YtbcoddibdipjkaaDoorHeld
import Derived.Test.YtbcoddibdipjkaaDoorKeepStore
import Derived.Test.YtbcoddibdipjkaaDoorCells
import Derived.Test.YtbcoddibdipjkaaDoorArgF
import Derived.Deep.DeepCutAuto
import Derived.Deep.CutBlock
import Derived.Deep.LoopGhost
namespace Go.Proofs.YtbcoddibdipjkaaDoor
open Go Go.RowKit Go.Sep

set_option maxRecDepth 40000 in
set_option maxHeartbeats 8000000 in
theorem moves_any (w0 : World) (v : Value) (ls : List (Int × Int × Int)) (hE : ErrT w0) (hv : ArgF cells3 3 w0 v ls) :
    Calls Tryd.prog 4 #[v] w0 fun e w' => e = .returned (.bool true) ∧ Below w0.heap.size w0 w' := by
  obtain ⟨a, cap, rfl, hcap, hcap2, hrow⟩ := hv
  unfold maxLen at hcap2
  have hs0 := S.start w0
  by_cases h120 : 120 < ls.length
  · go_enter Tryd.func4, Tryd.ntmps4
    go_wp2_with fail
    go_ret
    exact ⟨rfl, Below.refl _ _⟩
  have h120' : ls.length ≤ 120 := by omega
  have HR := hid hrow
  clear hrow h120
  go_enter Tryd.func4, Tryd.ntmps4
  go_wp2_with fail
  with_reducible refine (held_any w0 _ [] hE hs0).mono ?_
  rintro e w1 ⟨rfl, hs1⟩
  have hs2 := (S.blk_cells (hs1.alloc #[.map none, .map none, .map none] 51)).tab_zero (T := 3)
  have H2 := hid hs2
  clear hs0 hs1 hs2
  go_wp2_with fail
  go_loopw [4] (fun c wr => ∃ i : Nat, i ≤ ls.length ∧ c = .int .i64 i ∧ ∃ (t : Tbl) (Q : Int → List Int) (r : Int → Nat), Hid (GoodT t Q r) ∧ S w0 wr (tabP 3 w1.heap.size 0 t :: [])) (fun c _ => ls.length - (intOf c).toNat)
  case atStart => 
    obtain ⟨r, hr⟩ := GoodT.start
    exact ⟨0, Nat.zero_le _, rfl, _, _, r, hid hr, H2.out⟩
  case round =>
    obtain ⟨i, hi, rfl, t, Q, r, hg, hsr⟩ := hrel
    by_cases hlt : i < ls.length
    · have hp : ls[i]? = some ls[i] := by simp [hlt]
      generalize ls[i] = p at hp
      obtain ⟨bb, oo, rfl, hbb, hcc⟩ := HR.out i p hp
      have c0 := (hsr.1.cell (p := ⟨bb, oo + i * 3 + 0, none⟩) hbb).trans (hcc 0 _ rfl)
      have c1 := (hsr.1.cell (p := ⟨bb, oo + i * 3 + 1, none⟩) hbb).trans (hcc 1 _ rfl)
      have c2 := (hsr.1.cell (p := ⟨bb, oo + i * 3 + 2, none⟩) hbb).trans (hcc 2 _ rfl)
      rw [Nat.add_zero] at c0
      obtain ⟨what, xx, kk⟩ := p
      simp only at c0 c1 c2
      obtain ⟨nx, hnx, C1⟩ : ∃ nx : Nat, nx < 8 ∧ Hid (∀ w, Calls Tryd.prog 10 #[.int .i64 xx, .int .i64 8] w fun e w' => e = .returned (.int .i64 nx) ∧ w = w') := ⟨_, pickN_lt xx (by omega), hid fun w => pick_any xx 8 w (by omega) (by omega)⟩
      obtain ⟨nk, hnk, C2⟩ : ∃ nk : Nat, nk < 5 ∧ Hid (∀ w, Calls Tryd.prog 10 #[.int .i64 kk, .int .i64 5] w fun e w' => e = .returned (.int .i64 nk) ∧ w = w') := ⟨_, pickN_lt kk (by omega), hid fun w => pick_any kk 5 w (by omega) (by omega)⟩
      have HS := hid hsr
      have HC0 := hid (show w0.cell? ⟨bb, oo + i * 3, none⟩ = some (.int .i64 what) from hcc 0 _ rfl)
      clear hcc hsr hp
      go_upto_region 9 with fail
      go_cut [5, 6] (fun s5 s6 wx => s5 = .int .i64 (1 + (nx : Int)) ∧ s6 = .int .i64 (nk : Int) ∧ S w0 wx (tabP 3 w1.heap.size 0 t :: []))
      case first =>
        go_region_law (go_simp; first | (go_at_call 10; with_reducible refine (C1.out _).mono ?_; rintro e w2 ⟨rfl, rfl⟩) | (go_at_call 10; with_reducible refine (C2.out _).mono ?_; rintro e w2 ⟨rfl, rfl⟩))
        all_goals
          go_wp2_with fail
          go_meet
          exact ⟨congrArg (Value.int .i64) (IntWalk.i64_in _ (by omega)), rfl, HS.out.drew⟩
      case rest =>
      obtain ⟨rfl, rfl, hsr⟩ := hcut
      have c0 := (hsr.1.cell (p := ⟨bb, oo + i * 3, none⟩) hbb).trans HC0.out
      clear HS
      have HS := hid hsr
      clear hsr
      go_upto_block 2 with (fail)
      have hn5 := HS.out.tab_nodup
      have hh5 : t.hold.length ≤ 1000000 := by have := hg.out.hold_le hn5; omega
      have hll : ∀ k, (lineAt t k).length ≤ 1000000 := fun k => by have := hg.out.line_le k; omega
      have HLL := hid hll; have HN5 := hid hn5
      clear hll hn5
      go_cut [] (fun wx => ∃ (t : Tbl) (Q : Int → List Int) (r : Int → Nat), Hid (GoodT t Q r) ∧ S w0 wx (tabP 3 w1.heap.size 0 t :: []))
      case first =>
        by_cases h0 : what = 0
        · subst h0
          have hrk := Rk.ranked hg.out.tab hg.out.rk
          obtain ⟨c, hc⟩ : ∃ c, ∀ a, mget t.hold (nk : Int) = some a → ∃ n, chase t (1 + (nx : Int)) n a = some c := by
            cases hh : mget t.hold (nk : Int) with
            | none => exact ⟨false, by simp⟩
            | some a =>
              obtain ⟨c, hc⟩ := chase_ends hrk (1 + (nx : Int)) (r a + 1) a (by omega)
              exact ⟨c, fun a' e => by cases e; exact ⟨_, hc⟩⟩
          have hA := hg.out.ask (tx := 1 + (nx : Int)) (key := (nk : Int)) (c := c) (by omega) (by omega) (by omega) (by omega) hc
          have hcall := task_any w0 wc w1.heap.size 0 t (1 + (nx : Int)) nk r c [] HS.out hrk hc (HLL.out _)
          have HA := hid hA; have HC := hid hcall
          clear hA hcall hrk hc hh5
          go_wp2_with fail
          with_reducible refine HC.out.mono ?_
          intro e w2 h
          unfold AskPost at h
          have hA := HA.out
          generalize tbAsk t (1 + (nx : Int)) nk c = r3 at h hA
          obtain ⟨t', okb, er⟩ := r3
          obtain ⟨rfl, hs2⟩ := h
          obtain ⟨⟨Q', r', hg'⟩, hok⟩ := hA
          simp only at hs2 hg' hok
          have H2' := hid hs2; have HG := hid hg'
          clear HA HC hg' H2
          cases okb with
          | false =>
            clear hok hs2
            go_wp2_with fail
            go_meet
            exact ⟨t', Q', r', HG, H2'.out⟩
          | true =>
            obtain ⟨rfl, hhold⟩ := hok rfl
            have hH := tholds_any w0 w2 3 w1.heap.size 0 t' nk [] hs2
            rw [hhold] at hH
            have HH := hid hH
            clear hH hs2 hhold hok
            simp only [errV, ↓reduceIte]
            go_wp2_with fail
            with_reducible refine HH.out.mono ?_
            rintro e w3 ⟨rfl, rfl⟩
            simp only [Option.getD_some]
            go_wp2_with fail
            go_meet
            exact ⟨t', Q', r', HG, H2'.out⟩
        · have hb0 : (what == 0) = false := by simpa using h0
          by_cases h1 : what = 1
          · subst h1
            have hD := hg.out.drop HN5.out (1 + (nx : Int))
            have hcall := tdrop_any w0 wc w1.heap.size 0 t (1 + (nx : Int)) [] HS.out HLL.out hh5
            have HD := hid hD; have HC := hid hcall
            clear hD hcall hh5
            go_wp2_with fail
            with_reducible refine HC.out.mono ?_
            rintro e w2 ⟨v2, rfl, hs2⟩
            have hD := HD.out
            generalize tbDrop t (1 + (nx : Int)) = r3 at hs2 hD
            obtain ⟨t', out⟩ := r3
            obtain ⟨⟨r', hg'⟩, hout⟩ := hD
            simp only at hs2 hg' hout
            obtain ⟨a2, cap2, rfl, hcap3, hcap4, _⟩ := hs2.sl_val
            unfold maxLen at hcap4
            have HG := hid hg'; have HO := hid hout; have H3 := hid hs2
            clear HD HC hg' hout hs2 H2 HN5 HLL
            go_wp2_with fail
            go_loopw [73] (fun iv wr => ∃ j : Nat, j ≤ out.length ∧ iv = .int .i64 j ∧ S w0 wr (sl 31 2 (.slice a2 out.length cap2) out.length (pcells out) :: tabP 3 w1.heap.size 0 t' :: [])) (fun iv _ => out.length - (intOf iv).toNat)
            case atStart => exact ⟨0, Nat.zero_le _, rfl, H3.out⟩
            case round =>
              obtain ⟨j, hj, rfl, hsr⟩ := hrel
              by_cases hjl : j < out.length
              · have hp : out[j]? = some out[j] := by simp [hjl]
                generalize out[j] = p at hp
                obtain ⟨hh1, hh2⟩ := HO.out p (List.mem_of_getElem? hp)
                obtain ⟨g5, o5, rfl, _, d6, d7⟩ := hsr.sl_pair hp
                have hs5 := (hsr.alloc #[.int .i64 p.1, .int .i64 p.2] 31).drew
                have hH := tholds_any w0 _ 3 w1.heap.size 0 t' p.1 _ hs5.rot3
                rw [hh1] at hH
                have hW := twaits_any w0 _ 3 w1.heap.size 0 t' p.2 _ hs5.rot3
                rw [hh2] at hW
                simp only [Option.getD_some, Option.getD_none] at hH hW
                have HH := hid hH; have HW := hid hW; have H5 := hid hs5.tail
                clear hsr hp hs5 hH hW hh1 hh2
                go_wp2_with fail
                go_region_law (go_simp; first | (go_at_call 19; with_reducible refine HH.out.mono ?_; rintro e w5 ⟨rfl, rfl⟩) | (go_at_call 21; with_reducible refine HW.out.mono ?_; rintro e w5 ⟨rfl, rfl⟩))
                all_goals
                  go_wp2_with fail
                  go_roundw
                  case rel => exact ⟨j + 1, by omega, by go_num, H5.out⟩
                  case measure => simp [intOf]; omega
              · go_wp2_with fail
                go_meet
                exact ⟨t', _, r', HG, hsr.tail⟩
          · have hb1 : (what == 1) = false := by simpa using h1
            clear h0 h1
            go_wp2_with fail
            go_meet
            exact ⟨t, Q, r, hg, HS.out⟩
      case rest =>
        obtain ⟨t', Q', r', hg', hs2⟩ := hcut
        have H3 := hid hs2
        clear hs2 HLL HN5 hh5 HS c0
        have hs2 := H3.out
        go_wp2_with fail
        go_loopw [11] (fun xv wr => ∃ x : Nat, 1 ≤ x ∧ x ≤ 9 ∧ xv = .int .i64 x ∧ wr = wc) (fun xv _ => 9 - (intOf xv).toNat)
        case atStart => exact ⟨1, by omega, by omega, rfl, rfl⟩
        case round =>
          obtain ⟨x, hx1, hx9, rfl, rfl⟩ := hrel
          by_cases hx8 : x ≤ 8
          · have hch := Chain.start (r := r') (y := (x : Int)) (by omega) (by omega)
            have HCH := hid hch
            have hxd : decide ((x : Int) ≤ 8) = true := by simp; omega
            clear hch
            go_wp2_with fail
            go_loopw [12, 13, 14] (fun nv yv _ wr' => ∃ (n : Nat) (y : Int), nv = .int .i64 n ∧ yv = .int .i64 y ∧ Hid (Chain r' n y) ∧ wr' = wr) (fun _ yv _ _ => r' (intOf yv))
            case atStart => exact ⟨0, x, rfl, rfl, HCH, rfl⟩
            case round =>
              obtain ⟨n, y, rfl, rfl, hch, rfl⟩ := hrel
              have hW := twaits_any w0 _ 3 w1.heap.size 0 t' y _ hs2
              cases hw : mget t'.wait y with
              | none =>
                rw [hw] at hW
                have HW := hid hW
                clear hW hs2 hw
                simp only [Option.getD_none] at HW
                go_wp2_with fail
                with_reducible refine HW.out.mono ?_
                rintro e w5 ⟨rfl, rfl⟩
                go_wp2_with fail
                go_roundw
                case rel => exact ⟨x + 1, by omega, by omega, by go_num, trivial⟩
                case measure => simp [intOf]; omega
              | some k =>
                rw [hw] at hW
                obtain ⟨a, hh, ha0, hay, hra, ha1, ha8, hk0⟩ := hg'.out.waits hw
                have hH := tholds_any w0 _ 3 w1.heap.size 0 t' k _ hs2
                rw [hh] at hH
                simp only [Option.getD_some] at hH hW
                have hn8 := hch.out.le
                have hnx := hch.out.next hra ha1 ha8
                have hb0 : (a == 0) = false := by simpa using ha0
                have hby : (a == y) = false := by simpa using hay
                have HW := hid hW; have HH := hid hH; have HNX := hid hnx; have HRA := hid hra
                clear hW hs2 hw hH hh hnx hra hch ha0 hay
                go_wp2_with fail
                with_reducible refine HW.out.mono ?_
                rintro e w5 ⟨rfl, rfl⟩
                go_wp2_with fail
                with_reducible refine HW.out.mono ?_
                rintro e w5 ⟨rfl, rfl⟩
                go_wp2_with fail
                with_reducible refine HH.out.mono ?_
                rintro e w5 ⟨rfl, rfl⟩
                go_wp2_with fail
                go_roundw
                case rel => exact ⟨n + 1, a, by go_num, rfl, HNX, trivial⟩
                case measure => simpa [intOf] using HRA.out
          · clear hs2
            go_wp2_with fail
            go_loopw [15] (fun kv wr => ∃ k : Nat, k ≤ 5 ∧ kv = .int .i64 k ∧ S w0 wr (tabP 3 w1.heap.size 0 t' :: [])) (fun kv _ => 5 - (intOf kv).toNat)
            case atStart => exact ⟨0, by omega, rfl, H3.out⟩
            case round =>
              obtain ⟨k, hk, rfl, hsr⟩ := hrel
              by_cases hk5 : k < 5
              · have hll := hg'.out.line_le k
                have hL := tline_any w0 _ w1.heap.size 0 t' k _ hsr (by have := hll; unfold lineAt at this; omega)
                have HL := hid hL
                clear hL hsr
                go_wp2_with fail
                with_reducible refine HL.out.mono ?_
                rintro e w5 ⟨v5, rfl, hs5⟩
                have e1 : (mget t'.line (k : Int)).getD [] = lineAt t' k := rfl
                rw [e1] at hs5
                clear e1 HL
                have hlw : ∀ z ∈ lineAt t' k, mget t'.wait z = some (k : Int) := fun z hz => hg'.out.line_wait hz
                have hlh : lineAt t' k ≠ [] → ∃ a, mget t'.hold k = some a ∧ a ≠ 0 := fun h => hg'.out.line_hold h
                generalize lineAt t' k = ln at hs5 hll hlw hlh
                have HLW := hid hlw; have HLH := hid hlh
                obtain ⟨a5, cap5, rfl, hc5, hc52, _⟩ := hs5.sl_val
                unfold maxLen at hc52
                have H5 := hid hs5
                clear hlw hlh hs5
                go_wp2_with fail
                go_loopw [17] (fun jv wr' => ∃ j : Nat, j ≤ ln.length ∧ jv = .int .i64 j ∧ wr' = w5) (fun jv _ => ln.length - (intOf jv).toNat)
                case atStart => exact ⟨0, Nat.zero_le _, rfl, rfl⟩
                case round =>
                  obtain ⟨j, hj, rfl, rfl⟩ := hrel
                  by_cases hjl : j < ln.length
                  · have hp : ln[j]? = some ln[j] := by simp [hjl]
                    generalize ln[j] = z at hp
                    have hw := HLW.out z (List.mem_of_getElem? hp)
                    obtain ⟨g6, o6, rfl, _, d6⟩ := H5.out.sl_int hp
                    have hW := twaits_any w0 _ 3 w1.heap.size 0 t' z _ H5.out.swap
                    rw [hw] at hW
                    simp only [Option.getD_some] at hW
                    have HW := hid hW
                    clear hW hw hp
                    go_wp2_with fail
                    with_reducible refine HW.out.mono ?_
                    rintro e w6 ⟨rfl, rfl⟩
                    go_wp2_with fail
                    go_roundw
                    case rel => exact ⟨j + 1, by omega, by go_num, trivial⟩
                    case measure => simp [intOf]; omega
                  · by_cases hne : ln = []
                    · subst hne
                      have H6 := hid H5.out.tail
                      clear H5 HLW HLH
                      simp only [List.length_nil]
                      go_wp2_with fail
                      go_roundw
                      case rel => exact ⟨k + 1, by omega, by go_num, H6.out⟩
                      case measure => simp [intOf]; omega
                    · obtain ⟨a, hh, ha0⟩ := HLH.out hne
                      have hpos : 0 < ln.length := List.length_pos_iff.2 hne
                      have hH := tholds_any w0 _ 3 w1.heap.size 0 t' k _ H5.out.swap
                      rw [hh] at hH
                      simp only [Option.getD_some] at hH
                      have hb0 : (a == 0) = false := by simpa using ha0
                      have HH := hid hH; have H6 := hid H5.out.tail
                      clear hH hh ha0 HLW HLH H5 hne
                      go_wp2_with fail
                      with_reducible refine HH.out.mono ?_
                      rintro e w6 ⟨rfl, rfl⟩
                      go_wp2_with fail
                      go_roundw
                      case rel => exact ⟨k + 1, by omega, by go_num, H6.out⟩
                      case measure => simp [intOf]; omega
              · go_wp2_with fail
                go_roundw
                case rel => exact ⟨i + 1, by omega, by go_num, t', Q', r', hg', hsr⟩
                case measure => simp [intOf]; omega
    · have hg0 := hid (And.intro hg.out (Sep.Left.start hg.out.rng))
      have HS := hid hsr
      clear hsr H2
      go_wp2_with fail
      go_loopw [18] (fun xv wr => ∃ x : Nat, 1 ≤ x ∧ x ≤ 9 ∧ xv = .int .i64 x ∧ ∃ (t : Tbl) (Q : Int → List Int) (r : Int → Nat), Hid (GoodT t Q r ∧ Sep.Left x Q) ∧ S w0 wr (tabP 3 w1.heap.size 0 t :: [])) (fun xv _ => 9 - (intOf xv).toNat)
      case atStart => exact ⟨1, by omega, by omega, rfl, t, Q, r, hg0, HS.out⟩
      case round =>
        obtain ⟨x, hx1, hx9, rfl, t, Q, r, hg, hsr⟩ := hrel
        by_cases hx8 : x ≤ 8
        · have hn5 := hsr.tab_nodup
          obtain ⟨⟨r', hd⟩, -⟩ := hg.out.1.drop hn5 (x : Int)
          have hlx := hg.out.2.next
          have hcall := tdrop_any w0 wr w1.heap.size 0 t (x : Int) [] hsr (fun k => by have := hg.out.1.line_le k; omega) (by have := hg.out.1.hold_le hn5; omega)
          have HC := hid hcall
          have HD : Hid (GoodT (tbDrop t x).1 (fun k => strike (Q k) x) r' ∧ Sep.Left ((x + 1 : Nat) : Int) (fun k => strike (Q k) x)) := hid ⟨hd, hlx⟩
          clear hn5 hd hlx hcall hsr HS
          go_wp2_with fail
          with_reducible refine HC.out.mono ?_
          rintro e w5 ⟨v5, rfl, hs5⟩
          have H5 := hid hs5.tail
          clear hs5
          go_wp2_with fail
          go_roundw
          case rel => exact ⟨x + 1, by omega, by omega, by go_num, _, _, r', HD, H5.out⟩
          case measure => simp [intOf]; omega
        · have h9 : x = 9 := by omega
          have hleft := hg.out.2
          rw [h9] at hleft
          have hq := hleft.none hg.out.1.rng
          have hh0 : ∀ k, mget t.hold k = none := fun k => by rw [hg.out.1.tab.hold, hq]; rfl
          have hl0 : ∀ k, (mget t.line k).getD [] = [] := fun k => by rw [hg.out.1.tab.line, hq]; rfl
          have HH := hid hh0; have HL := hid hl0; have HSR := hid hsr
          clear hq hh0 hl0 hsr HS hleft h9
          go_wp2_with fail
          go_loopw [19] (fun kv wr => ∃ k : Nat, k ≤ 5 ∧ kv = .int .i64 k ∧ S w0 wr (tabP 3 w1.heap.size 0 t :: [])) (fun kv _ => 5 - (intOf kv).toNat)
          case atStart => exact ⟨0, by omega, rfl, HSR.out⟩
          case round =>
            obtain ⟨k, hk, rfl, hsr⟩ := hrel
            by_cases hk5 : k < 5
            · have hH := tholds_any w0 _ 3 w1.heap.size 0 t k _ hsr
              rw [HH.out] at hH
              have hL := tline_any w0 _ w1.heap.size 0 t k _ hsr (by rw [HL.out]; simp)
              rw [HL.out] at hL
              simp only [Option.getD_none] at hH
              have HHH := hid hH; have HLL := hid hL
              clear hH hL hsr
              go_wp2_with fail
              with_reducible refine HHH.out.mono ?_
              rintro e w5 ⟨rfl, rfl⟩
              go_wp2_with fail
              with_reducible refine HLL.out.mono ?_
              rintro e w6 ⟨v6, rfl, hs6⟩
              obtain ⟨a6, cap6, rfl, _, _, _⟩ := hs6.sl_val
              have H6 := hid hs6.tail
              clear hs6
              simp only [List.length_nil]
              go_wp2_with fail
              go_roundw
              case rel => exact ⟨k + 1, by omega, by go_num, H6.out⟩
              case measure => simp [intOf]; omega
            · go_wp2_with fail
              go_ret
              exact ⟨rfl, hsr.1⟩
end Go.Proofs.YtbcoddibdipjkaaDoor
