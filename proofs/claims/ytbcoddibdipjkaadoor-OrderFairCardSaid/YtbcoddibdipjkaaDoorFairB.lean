/- interleafkeep.ops: the list that OrderFair makes of its argument. -/
import Derived.Test.YtbcoddibdipjkaaDoorOrdL
import Derived.Test.YtbcoddibdipjkaaDoorOrdF
import Derived.Test.YtbcoddibdipjkaaDoorKeepStore
import Derived.Test.YtbcoddibdipjkaaDoorArgF
import Derived.Deep.RegionHeldLaw
import Derived.Deep.DeepCutAuto
import Derived.Deep.CutBlock
namespace Go.Proofs.YtbcoddibdipjkaaDoor
open Go Go.RowKit Go.Sep

def SmallL (xs : List Op1) : Prop := ∀ o ∈ xs, 1 ≤ o.tx ∧ o.tx ≤ 5 ∧ 0 ≤ o.key ∧ o.key < 3 ∧ 0 ≤ o.fr ∧ o.fr ≤ 5
theorem SmallL.snoc {xs : List Op1} (h : SmallL xs) {o : Op1} (ho : 1 ≤ o.tx ∧ o.tx ≤ 5 ∧ 0 ≤ o.key ∧ o.key < 3 ∧ 0 ≤ o.fr ∧ o.fr ≤ 5) : SmallL (xs ++ [o]) := fun p hp => by
  rcases List.mem_append.1 hp with hp | hp
  · exact h p hp
  · rw [List.mem_singleton] at hp; subst hp; exact ho
theorem Tryd.info65 : (Tryd.prog.info? 65).map (fun i => (i.zero, i.size, i.bytes)) = some (some (.agg #[.int .i64 0, .int .i64 0, .bool false, .int .i64 0]), 4, 32) := by kernel_rfl

set_option maxRecDepth 40000 in
set_option maxHeartbeats 8000000 in
theorem ops_any (w0 w : World) (v : Value) (ls : List Op1) (L : List HProp) (hs : S w0 w L) (hv : ArgF ocells 4 w0 v ls) (hb : ls.length ≤ 40) :
    Calls Tryd.prog 24 #[v] w fun e w' => ∃ v' xs, e = .returned v' ∧ xs.length = ls.length ∧ SmallL xs ∧ S w0 w' (sl 65 4 v' xs.length (fcells ocells xs) :: L) := by
  obtain ⟨a, cap, rfl, hcap, hcap2, hrow⟩ := hv
  unfold maxLen at hcap2
  have H0 := hid (hs.sl_nil (e := 65) (size := 4))
  have HR := hid hrow
  clear hs hrow
  go_enter Tryd.func24, Tryd.ntmps24
  go_wp2_with fail
  go_loopw [3, 4] (fun u c wr => ∃ (xs : List Op1), xs.length ≤ ls.length ∧ c = .int .i64 xs.length ∧ Hid (SmallL xs) ∧ S w0 wr (sl 65 4 u xs.length (fcells ocells xs) :: L)) (fun _ c _ => ls.length - (intOf c).toNat)
  case atStart => exact ⟨[], Nat.zero_le _, rfl, hid (fun o ho => by simp at ho), H0.out⟩
  case round =>
    obtain ⟨xs, hi, rfl, hsm, hsr⟩ := hrel
    clear H0
    by_cases hlt : xs.length < ls.length
    · have hp : ls[xs.length]? = some ls[xs.length] := by simp [hlt]
      generalize ls[xs.length] = p at hp
      obtain ⟨bb, oo, rfl, hbb, hcc⟩ := HR.out _ p hp
      obtain ⟨au, cu, rfl, hcu, hcu2, _⟩ := hsr.sl_val
      have c0 := (hsr.1.cell (p := ⟨bb, oo + xs.length * 4 + 0, none⟩) hbb).trans (hcc 0 _ rfl)
      have c1 := (hsr.1.cell (p := ⟨bb, oo + xs.length * 4 + 1, none⟩) hbb).trans (hcc 1 _ rfl)
      have c2 := (hsr.1.cell (p := ⟨bb, oo + xs.length * 4 + 2, none⟩) hbb).trans (hcc 2 _ rfl)
      have c3 := hcc 3 _ rfl
      rw [Nat.add_zero] at c0
      obtain ⟨tx, key, wr', fr⟩ := p
      simp only at c0 c1 c2 c3
      obtain ⟨nx, hnx, C1⟩ : ∃ nx : Nat, nx < 5 ∧ Hid (∀ w, Calls Tryd.prog 10 #[.int .i64 tx, .int .i64 5] w fun e w' => e = .returned (.int .i64 nx) ∧ w = w') := ⟨_, pickN_lt tx (by omega), hid fun w => pick_any tx 5 w (by omega) (by omega)⟩
      obtain ⟨nk, hnk, C2⟩ : ∃ nk : Nat, nk < 3 ∧ Hid (∀ w, Calls Tryd.prog 10 #[.int .i64 key, .int .i64 3] w fun e w' => e = .returned (.int .i64 nk) ∧ w = w') := ⟨_, pickN_lt key (by omega), hid fun w => pick_any key 3 w (by omega) (by omega)⟩
      obtain ⟨nf, hnf, C3⟩ : ∃ nf : Nat, nf < 6 ∧ Hid (∀ w, Calls Tryd.prog 10 #[.int .i64 fr, .int .i64 6] w fun e w' => e = .returned (.int .i64 nf) ∧ w = w') := ⟨_, pickN_lt fr (by omega), hid fun w => pick_any fr 6 w (by omega) (by omega)⟩
      have hw1 : IntKind.i64.wrap (1 + (nx : Int)) = 1 + (nx : Int) := IntWalk.i64_in _ (by omega)
      have HC3 := hid c3
      have hal := hsr.drew.alloc #[.int .i64 (1 + (nx : Int)), .int .i64 (nk : Int), .bool wr', .int .i64 0] 65
      have HS := hid hal
      clear hcc hsr hp c3 hal
      go_upto_region 5 with fail
      go_cut [5] (fun s5 wx => ∃ g : Nat, s5 = .pointer (some ⟨g, 0, none⟩) ∧ S w0 wx (blk g 65 [.int .i64 (1 + (nx : Int)), .int .i64 (nk : Int), .bool wr', .int .i64 0] :: sl 65 4 (.slice au xs.length cu) xs.length (fcells ocells xs) :: L))
      case first =>
        go_region_held_law (fun w' => w'.cell? ⟨bb, oo + xs.length * 4, none⟩ = some (.int .i64 tx) ∧ w'.cell? ⟨bb, oo + xs.length * 4 + 1, none⟩ = some (.int .i64 key) ∧ w'.cell? ⟨bb, oo + xs.length * 4 + 2, none⟩ = some (.bool wr')) (go_keep) (first | (go_at_call 10; with_reducible refine (C1.out _).mono ?_; rintro e w2 ⟨rfl, rfl⟩) | (go_at_call 10; with_reducible refine (C2.out _).mono ?_; rintro e w2 ⟨rfl, rfl⟩))
        all_goals
          go_wp2_with fail
          go_meet
          exact ⟨_, rfl, HS.out⟩
      case rest =>
      obtain ⟨g, rfl, hsr⟩ := hcut
      rename World => wx
      have c3 := (hsr.1.cell (p := ⟨bb, oo + xs.length * 4 + 3, none⟩) hbb).trans HC3.out
      have e2 := hsr.blk_cell 2 rfl
      obtain ⟨i0, hi0, hz0, hz1, hz2⟩ := info_parts Tryd.info65
      clear HS
      cases wr' with
      | true =>
        have e0 := hsr.blk_cell 0 rfl
        have e1 := hsr.blk_cell 1 rfl
        have e3 := hsr.blk_cell 3 rfl
        have hs1 := hsr.tail.alloc #[.int .i64 (1 + (nx : Int)), .int .i64 (nk : Int), .bool true, .int .i64 0] 65
        have hn1 := news_blk hs1
        have hs2 := hs1.tail
        have HN := hid hn1; have H9 := hid hs2
        clear hs1 hs2 hn1 hsr
        go_wp2_with (at_builtin; refine wpList_append rfl (.tmp 41) (.tmp 43) 59 rfl 65 i0 _ 4 32 Tryd.underlying59 hi0 hz0 hz1 hz2 rfl (by decide) H9.out rfl (some ⟨wx.heap.size, 0, none⟩) 1 1 [.int .i64 (1 + (nx : Int)), .int .i64 (nk : Int), .bool true, .int .i64 0] rfl rfl HN.out (by simp [Value.oneCell']) (by unfold maxLen; omega) (by omega) ?_; intro v1 w5 hs1; have HS := hid hs1; clear hs1)
        go_roundw
        case rel => exact ⟨xs ++ [⟨1 + (nx : Int), nk, true, 0⟩], by rw [List.length_append, List.length_singleton]; omega, by rw [List.length_append, List.length_singleton]; go_num, hid (hsm.out.snoc (by simp only; omega)), by rw [fcells_append, fcells_one, List.length_append, List.length_singleton]; exact HS.out⟩
        case measure => simp [intOf]; omega
      | false =>
        have hst := hsr.blk_set 3 (by simp) (.int .i64 (nf : Int))
        have f3 := hsr.blk_free 3
        have e0 := hsr.blk_cell 0 rfl
        have e1 := hsr.blk_cell 1 rfl
        have e3 := hsr.blk_cell 3 rfl
        have hs1 := hst.tail.alloc #[.int .i64 (1 + (nx : Int)), .int .i64 (nk : Int), .bool false, .int .i64 nf] 65
        have hn1 := news_blk hs1
        simp only [World.size_setCell] at hn1
        have hs2 := hs1.tail
        have HN := hid hn1; have H9 := hid hs2
        clear hs1 hs2 hn1 hsr hst
        go_wp2_with (first | (go_at_call 10; with_reducible refine (C3.out _).mono ?_; rintro e w2 ⟨rfl, rfl⟩) | (at_builtin; refine wpList_append rfl (.tmp 41) (.tmp 43) 59 rfl 65 i0 _ 4 32 Tryd.underlying59 hi0 hz0 hz1 hz2 rfl (by decide) H9.out rfl (some ⟨wx.heap.size, 0, none⟩) 1 1 [.int .i64 (1 + (nx : Int)), .int .i64 (nk : Int), .bool false, .int .i64 nf] rfl rfl HN.out (by simp [Value.oneCell']) (by unfold maxLen; omega) (by omega) ?_; intro v1 w5 hs1; have HS := hid hs1; clear hs1))
        go_roundw
        case rel => exact ⟨xs ++ [⟨1 + (nx : Int), nk, false, nf⟩], by rw [List.length_append, List.length_singleton]; omega, by rw [List.length_append, List.length_singleton]; go_num, hid (hsm.out.snoc (by simp only; omega)), by rw [fcells_append, fcells_one, List.length_append, List.length_singleton]; exact HS.out⟩
        case measure => simp [intOf]; omega
    · have hxl : xs.length = ls.length := by omega
      have HXL := hid hxl
      clear hxl
      have H3 := hid hsr
      clear hsr
      go_wp2_with fail
      go_ret
      exact ⟨_, xs, rfl, HXL.out, hsm.out, H3.out⟩
end Go.Proofs.YtbcoddibdipjkaaDoor
