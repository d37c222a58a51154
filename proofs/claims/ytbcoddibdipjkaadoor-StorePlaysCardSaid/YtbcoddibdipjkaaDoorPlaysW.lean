/- interleaflaw.StorePlays: the walk. -/
import Derived.Test.YtbcoddibdipjkaaDoorPlaysA
import Derived.Test.YtbcoddibdipjkaaDoorSame
import Derived.Deep.DeepCutAuto
import Derived.Deep.CutBlock
namespace Go.Proofs.YtbcoddibdipjkaaDoor
open Go Go.RowKit Go.Sep

set_option maxRecDepth 40000 in
set_option maxHeartbeats 8000000 in
theorem splays_any (w0 : World) (v : Value) (ls : List Put1) (hE : ErrT w0) (hv : ArgF cells4 4 w0 v ls) (hok : ∀ p ∈ ls, PutOk w0 p) :
    Calls Tryd.prog 6 #[v] w0 fun e w' => e = .returned (.bool true) ∧ Below w0.heap.size w0 w' := by
  obtain ⟨a, cap, rfl, hcap, hcap2, hrow⟩ := hv
  unfold maxLen at hcap2
  have hs0 := S.start w0
  by_cases h80 : 80 < ls.length
  · clear hrow hs0 hok
    go_enter Tryd.func6, Tryd.ntmps6
    go_wp2_with fail
    go_ret
    exact ⟨rfl, Below.refl _ _⟩
  have h80' : ls.length ≤ 80 := by omega
  have hs1 := S.store_new2 (T := 27) (T' := 38) (b := w0.heap.size) (hs0.alloc #[.slice none 0 0, .slice none 0 0, .slice none 0 0, .slice none 0 0, .slice none 0 0, .slice none 0 0, .slice none 0 0, .slice none 0 0, .slice none 0 0, .slice none 0 0, .int .i64 0] 27)
  have hs2 := S.ref_new (TK := 129) (hs1.alloc #[.slice none 0 0, .int .i64 0] 74)
  rw [World.size_alloc] at hs2
  have HR := hid hrow; have H2 := hid hs2.swap; have HOK := hid hok
  clear hrow h80 hs0 hs1 hs2 hok
  go_enter Tryd.func6, Tryd.ntmps6
  go_wp2_with fail
  go_loopw [5] (fun c wr => ∃ i : Nat, i ≤ ls.length ∧ c = .int .i64 i ∧ ∃ (V : List Vers) (last : Int) (K : List Kep), Hid (Same V last K) ∧ Hid (K.length ≤ 10 * i) ∧ S w0 wr (storeP 38 w0.heap.size 0 V last :: refP 74 129 (w0.heap.size + 1) K last :: [])) (fun c _ => ls.length - (intOf c).toNat)
  case atStart => exact ⟨0, Nat.zero_le _, rfl, _, _, _, hid Same.start, hid (by simp), H2.out⟩
  case round =>
    rename World => wr
    obtain ⟨i, hi, rfl, V, last, K, hst, hbd, hsr⟩ := hrel
    clear H2
    by_cases hlt : i < ls.length
    · have hp : ls[i]? = some ls[i] := by simp [hlt]
      generalize ls[i] = p at hp
      obtain ⟨l, hl⟩ := HOK.out p (List.mem_of_getElem? hp)
      obtain ⟨bb, oo, rfl, hbb, hcc⟩ := HR.out i p hp
      have c0 := (hsr.1.cell (p := ⟨bb, oo + i * 4 + 0, none⟩) hbb).trans (hcc 0 _ rfl)
      have c1 := (hsr.1.cell (p := ⟨bb, oo + i * 4 + 1, none⟩) hbb).trans (hcc 1 _ rfl)
      have c2 := (hsr.1.cell (p := ⟨bb, oo + i * 4 + 2, none⟩) hbb).trans (hcc 2 _ rfl)
      have c3 := (hsr.1.cell (p := ⟨bb, oo + i * 4 + 3, none⟩) hbb).trans (hcc 3 _ rfl)
      rw [Nat.add_zero] at c0
      obtain ⟨what, at_, key, lv⟩ := p
      simp only at c0 c1 c2 c3 hl
      have hrd := hl.rdk
      obtain ⟨ai, ci, rfl, hlc, hlc2, _⟩ := hl
      unfold maxLen at hlc2
      have hsx := hsr.alloc #[.int .i64 what, .int .i64 at_, .int .i64 key, .slice ai l.length ci] 76
      have x1 := hsx.blk_cell 1 rfl
      have x2 := hsx.blk_cell 2 rfl
      have x3 := hsx.blk_cell 3 rfl
      have HS := hid hsx; have HRD := hid hrd
      have hcl : ∀ W M, S w0 W (blk wr.heap.size 76 [.int .i64 what, .int .i64 at_, .int .i64 key, .slice ai l.length ci] :: M) → W.cell? ⟨wr.heap.size, 1, none⟩ = some (.int .i64 at_) ∧ W.cell? ⟨wr.heap.size, 2, none⟩ = some (.int .i64 key) ∧ W.cell? ⟨wr.heap.size, 3, none⟩ = some (.slice ai l.length ci) := fun W M h => ⟨h.blk_cell 1 rfl, h.blk_cell 2 rfl, h.blk_cell 3 rfl⟩
      have HCL := hid hcl
      clear hcc hsr hp hsx hrd hcl
      by_cases h20 : 20 < l.length
      · have hbd' : Hid (K.length ≤ 10 * (i + 1)) := hid (by have := hbd.out; omega)
        go_wp2_with fail
        go_roundw
        case rel => exact ⟨i + 1, by omega, by go_num, V, last, K, hst, hbd', HS.out.tail⟩
        case measure => simp [intOf]; omega
      have h20' : l.length ≤ 20 := by omega
      clear h20
      go_upto_block 2 with fail
      go_cut [] (fun wx => ∃ (V : List Vers) (last : Int) (K : List Kep), Hid (Same V last K) ∧ Hid (K.length ≤ 10 * (i + 1)) ∧ S w0 wx (blk wr.heap.size 76 [.int .i64 what, .int .i64 at_, .int .i64 key, .slice ai l.length ci] :: storeP 38 w0.heap.size 0 V last :: refP 74 129 (w0.heap.size + 1) K last :: []))
      case first =>
        by_cases h0 : what = 0
        · subst h0
          have hI := hst.out.inst at_ l
          have hcall := install2 w0 _ w0.heap.size 0 V last at_ (.slice ai l.length ci) l (blk wr.heap.size 76 [.int .i64 0, .int .i64 at_, .int .i64 key, .slice ai l.length ci] :: refP 74 129 (w0.heap.size + 1) K last :: []) K.length (HS.out.drew.conv (M := storeP 38 w0.heap.size 0 V last :: blk wr.heap.size 76 [.int .i64 0, .int .i64 at_, .int .i64 key, .slice ai l.length ci] :: refP 74 129 (w0.heap.size + 1) K last :: []) (by simp only [all]; ac_rfl)) (HRD.out _) hst.out.row_le (by have := hbd.out; omega)
          have q0 := HCL.out _ _ HS.out.drew
          have hb9 : K.length ≤ 900000 := by have := hbd.out; omega
          have HC1 := hid hcall; have HI := hid hI; have HB9 := hid hb9
          clear hcall hI hb9
          go_wp2_with fail
          go_region_held_law (fun w' => w'.cell? ⟨wr.heap.size, 1, none⟩ = some (.int .i64 at_) ∧ w'.cell? ⟨wr.heap.size, 2, none⟩ = some (.int .i64 key) ∧ w'.cell? ⟨wr.heap.size, 3, none⟩ = some (.slice ai l.length ci)) (first | (with_reducible assumption) | (with_reducible exact q0) | (with_reducible exact q1))
            (first
              | (go_at_call 12; with_reducible refine HC1.out.mono ?_; rintro e w2 ⟨u, rfl, hs2⟩; have q1 := HCL.out _ _ (hs2.conv (M := blk wr.heap.size 76 [.int .i64 0, .int .i64 at_, .int .i64 key, .slice ai l.length ci] :: errP 44 106 105 u (instErr last at_ l) :: storeP 38 w0.heap.size 0 (if instOk last at_ l then putAll at_ V l else V) (if instOk last at_ l then at_ else last) :: refP 74 129 (w0.heap.size + 1) K last :: []) (by simp only [all]; ac_rfl)); have G2 := hid hs2; clear hs2)
              | (go_at_call 30; with_reducible refine (rinstall2 w0 _ (w0.heap.size + 1) K last at_ (.slice ai l.length ci) l _ (G2.out.conv (M := refP 74 129 (w0.heap.size + 1) K last :: errP 44 106 105 u (instErr last at_ l) :: storeP 38 w0.heap.size 0 (if instOk last at_ l then putAll at_ V l else V) (if instOk last at_ l then at_ else last) :: blk wr.heap.size 76 [.int .i64 0, .int .i64 at_, .int .i64 key, .slice ai l.length ci] :: []) (by simp only [all]; ac_rfl)) (HRD.out _) HB9.out).mono ?_; rintro e w3 ⟨rfl, hs3⟩; have q1 := HCL.out _ _ (hs3.conv (M := blk wr.heap.size 76 [.int .i64 0, .int .i64 at_, .int .i64 key, .slice ai l.length ci] :: refP 74 129 (w0.heap.size + 1) (if instOk last at_ l then K ++ rrows at_ l 10 else K) (if instOk last at_ l then at_ else last) :: errP 44 106 105 u (instErr last at_ l) :: storeP 38 w0.heap.size 0 (if instOk last at_ l then putAll at_ V l else V) (if instOk last at_ l then at_ else last) :: []) (by simp only [all]; ac_rfl)); have G3 := hid hs3; clear hs3)
              | (go_at_call 29; with_reducible refine (is_any (instErr last at_ l) u _ _ w0 _ _ hE (G3.out.conv (M := errP 44 106 105 u (instErr last at_ l) :: refP 74 129 (w0.heap.size + 1) (if instOk last at_ l then K ++ rrows at_ l 10 else K) (if instOk last at_ l then at_ else last) :: storeP 38 w0.heap.size 0 (if instOk last at_ l then putAll at_ V l else V) (if instOk last at_ l then at_ else last) :: blk wr.heap.size 76 [.int .i64 0, .int .i64 at_, .int .i64 key, .slice ai l.length ci] :: []) (by simp only [all]; ac_rfl))).mono ?_; rw [instErr_is]; rintro e w4 ⟨rfl, hs4⟩; have q1 := HCL.out _ _ (hs4.conv (M := blk wr.heap.size 76 [.int .i64 0, .int .i64 at_, .int .i64 key, .slice ai l.length ci] :: errP 44 106 105 u (instErr last at_ l) :: refP 74 129 (w0.heap.size + 1) (if instOk last at_ l then K ++ rrows at_ l 10 else K) (if instOk last at_ l then at_ else last) :: storeP 38 w0.heap.size 0 (if instOk last at_ l then putAll at_ V l else V) (if instOk last at_ l then at_ else last) :: []) (by simp only [all]; ac_rfl)); have G4 := hid hs4; clear hs4))
          all_goals
            go_wp2_with fail
            go_meet
            exact ⟨_, _, _, hid HI.out.1, hid (by have := HI.out.2; have := hbd.out; omega), (G4.out.tail.conv (M := blk wr.heap.size 76 [.int .i64 0, .int .i64 at_, .int .i64 key, .slice ai l.length ci] :: storeP 38 w0.heap.size 0 (if instOk last at_ l then putAll at_ V l else V) (if instOk last at_ l then at_ else last) :: refP 74 129 (w0.heap.size + 1) (if instOk last at_ l then K ++ rrows at_ l 10 else K) (if instOk last at_ l then at_ else last) :: []) (by simp only [all]; ac_rfl))⟩
        · have hb0 : (what == 0) = false := by simpa using h0
          by_cases h1 : what = 1
          · subst h1
            have hD := hst.out.sweep at_
            have hsz := hst.out.size at_
            have hK : K.length ≤ 1000 := by have := hbd.out; omega
            have hcall := sweep_any w0 _ w0.heap.size 0 V last at_ (blk wr.heap.size 76 [.int .i64 1, .int .i64 at_, .int .i64 key, .slice ai l.length ci] :: refP 74 129 (w0.heap.size + 1) K last :: []) (HS.out.drew.conv (M := storeP 38 w0.heap.size 0 V last :: blk wr.heap.size 76 [.int .i64 1, .int .i64 at_, .int .i64 key, .slice ai l.length ci] :: refP 74 129 (w0.heap.size + 1) K last :: []) (by simp only [all]; ac_rfl)) (fun vs hv => by have := hst.out.row_le vs hv; omega)
            have hle := rswept_le K at_
            have q0 := HCL.out _ _ HS.out.drew
            rw [hsz] at hcall
            have HC1 := hid hcall; have HD := hid hD; have HK := hid hK; have HLE := hid hle
            clear hcall hD hK hsz hle h0
            go_wp2_with fail
            go_region_held_law (fun w' => w'.cell? ⟨wr.heap.size, 1, none⟩ = some (.int .i64 at_) ∧ w'.cell? ⟨wr.heap.size, 2, none⟩ = some (.int .i64 key) ∧ w'.cell? ⟨wr.heap.size, 3, none⟩ = some (.slice ai l.length ci)) (first | (with_reducible assumption) | (with_reducible exact q0) | (with_reducible exact q1))
              (first
                | (go_at_call 11; with_reducible refine HC1.out.mono ?_; rintro e w2 ⟨rfl, hs2⟩; have q1 := HCL.out _ _ (hs2.conv (M := blk wr.heap.size 76 [.int .i64 1, .int .i64 at_, .int .i64 key, .slice ai l.length ci] :: storeP 38 w0.heap.size 0 (V.map (swept at_)) last :: refP 74 129 (w0.heap.size + 1) K last :: []) (by simp only [all]; ac_rfl)); have G2 := hid hs2; clear hs2)
                | (go_at_call 31; with_reducible refine (rsweep_any w0 _ (w0.heap.size + 1) K last at_ _ (G2.out.conv (M := refP 74 129 (w0.heap.size + 1) K last :: storeP 38 w0.heap.size 0 (V.map (swept at_)) last :: blk wr.heap.size 76 [.int .i64 1, .int .i64 at_, .int .i64 key, .slice ai l.length ci] :: []) (by simp only [all]; ac_rfl)) HK.out hst.out.ok).mono ?_; rintro e w3 ⟨rfl, hs3⟩; have q1 := HCL.out _ _ (hs3.conv (M := blk wr.heap.size 76 [.int .i64 1, .int .i64 at_, .int .i64 key, .slice ai l.length ci] :: refP 74 129 (w0.heap.size + 1) (rswept K at_) last :: storeP 38 w0.heap.size 0 (V.map (swept at_)) last :: []) (by simp only [all]; ac_rfl)); have G4 := hid hs3; clear hs3))
            all_goals
              go_wp2_with fail
              go_meet
              exact ⟨_, _, _, HD, hid (by have := HLE.out; have := hbd.out; omega), (G4.out.conv (M := blk wr.heap.size 76 [.int .i64 1, .int .i64 at_, .int .i64 key, .slice ai l.length ci] :: storeP 38 w0.heap.size 0 (V.map (swept at_)) last :: refP 74 129 (w0.heap.size + 1) (rswept K at_) last :: []) (by simp only [all]; ac_rfl))⟩
          · have hb1 : (what == 1) = false := by simpa using h1
            have hbd' : Hid (K.length ≤ 10 * (i + 1)) := hid (by have := hbd.out; omega)
            clear h0 h1
            go_wp2_with fail
            go_meet
            exact ⟨V, last, K, hst, hbd', HS.out⟩
      case rest =>
      rename World => wx
      obtain ⟨V, last, K, hst, hbd, hsr⟩ := hcut
      have hK : K.length ≤ 1000 := by have := hbd.out; omega
      have hA : ∀ W M, S w0 W (refP 74 129 (w0.heap.size + 1) K last :: M) → Calls Tryd.prog 32 #[.pointer (some ⟨w0.heap.size + 1, 0, none⟩), .int .i64 key, .int .i64 at_] W fun e w' => e = .returned (.tuple #[.agg #[.int .i64 (readOut K key at_).1, .int .i64 (readOut K key at_).2.1], .int .i64 (readOut K key at_).2.2]) ∧ S w0 w' (refP 74 129 (w0.heap.size + 1) K last :: M) := fun W M h => rread2 w0 W _ K last key at_ M h
      have hB : ∀ W M, S w0 W (storeP 38 w0.heap.size 0 V last :: M) → Calls Tryd.prog 14 #[.pointer (some ⟨w0.heap.size, 0, none⟩), .int .i64 key, .int .i64 at_] W fun e w' => e = .returned (.tuple #[.agg #[.int .i64 (readOut K key at_).1, .int .i64 (readOut K key at_).2.1], errBV (readOut K key at_).2.2]) ∧ S w0 w' (storeP 38 w0.heap.size 0 V last :: M) := fun W M h => read2 w0 W _ 0 V last key at_ K M hst.out (by omega) h
      have hC : ∀ W M, S w0 W (refP 74 129 (w0.heap.size + 1) K last :: M) → Calls Tryd.prog 33 #[.pointer (some ⟨w0.heap.size + 1, 0, none⟩), .int .i64 key, .int .i64 at_] W fun e w' => ∃ v, e = .returned (.tuple #[v, .int .i64 (newErr key)]) ∧ S w0 w' (sl 3 1 v (newOut K key at_).length (icells (newOut K key at_)) :: refP 74 129 (w0.heap.size + 1) K last :: M) := fun W M h => rnewer2 w0 W _ V K last key at_ M hst.out h (by omega)
      have hD : ∀ W M, S w0 W (storeP 38 w0.heap.size 0 V last :: M) → Calls Tryd.prog 15 #[.pointer (some ⟨w0.heap.size, 0, none⟩), .int .i64 key, .int .i64 at_] W fun e w' => ∃ v, e = .returned (.tuple #[v, errBV (newErr key)]) ∧ S w0 w' (sl 3 1 v (newOut K key at_).length (icells (newOut K key at_)) :: storeP 38 w0.heap.size 0 V last :: M) := fun W M h => newer2 w0 W _ 0 V last key at_ K M hst.out (by omega) h
      have hnl : (newOut K key at_).length ≤ 1000000 := by have := newOut_le K key at_; omega
      have hF : ∀ W M, S w0 W (storeP 38 w0.heap.size 0 V last :: M) → Calls Tryd.prog 38 #[.pointer (some ⟨w0.heap.size, 0, none⟩), .int .i64 at_] W fun e w' => ∃ v, e = .returned v ∧ S w0 w' (sl 31 2 v (allOut K at_).length (pcells (allOut K at_)) :: storeP 38 w0.heap.size 0 V last :: M) := fun W M h => all2 w0 W _ V last at_ K M hst.out (by omega) h
      have hG : ∀ kv W M, S w0 W (refK 74 129 (w0.heap.size + 1) kv K last :: M) → Calls Tryd.prog 39 #[.pointer (some ⟨w0.heap.size + 1, 0, none⟩), .int .i64 at_] W fun e w' => ∃ v, e = .returned v ∧ S w0 w' (sl 31 2 v (allOut K at_).length (pcells (allOut K at_)) :: refK 74 129 (w0.heap.size + 1) kv K last :: M) := fun kv W M h => rall2 w0 W _ kv K last at_ M h
      have hM : ∀ W M, S w0 W (storeP 38 w0.heap.size 0 V last :: M) → Calls Tryd.prog 13 #[.pointer (some ⟨w0.heap.size, 0, none⟩)] W fun e w' => e = .returned (.int .i64 K.length) ∧ W = w' := fun W M h => many2 w0 W _ 0 V last K M hst.out (by omega) h
      generalize readOut K key at_ = ro at hA hB
      obtain ⟨v1, v2, er⟩ := ro
      simp only at hA hB
      generalize newOut K key at_ = nl at hC hD hnl
      generalize newErr key = ne at hC hD
      generalize allOut K at_ = al at hF hG
      have hnv := fun w => neqV2 (v1, v2) w
      simp only at hnv
      have y := HCL.out _ _ hsr
      have hcall := hA wx _ (hsr.conv (M := refP 74 129 (w0.heap.size + 1) K last :: blk wr.heap.size 76 [.int .i64 what, .int .i64 at_, .int .i64 key, .slice ai l.length ci] :: storeP 38 w0.heap.size 0 V last :: []) (by simp only [all]; ac_rfl))
      have HC1 := hid hcall; have HB := hid hB; have HC := hid hC; have HD := hid hD; have HF := hid hF; have HG := hid hG; have HM := hid hM; have HNL := hid hnl
      clear hcall hA hB hC hD hF hG hM hnl hsr HS c0 c1 c2 c3 x1 x2 x3
      go_wp2_with fail
      with_reducible refine HC1.out.mono ?_
      rintro e w2 ⟨rfl, hs2⟩
      have hs3 := hs2.alloc #[.int .i64 v1, .int .i64 v2] 38
      have y2 := HCL.out _ _ (hs3.conv (M := blk wr.heap.size 76 [.int .i64 what, .int .i64 at_, .int .i64 key, .slice ai l.length ci] :: blk w2.heap.size 38 [.int .i64 v1, .int .i64 v2] :: refP 74 129 (w0.heap.size + 1) K last :: storeP 38 w0.heap.size 0 V last :: []) (by simp only [all]; ac_rfl))
      have hcall := HB.out _ _ (hs3.conv (M := storeP 38 w0.heap.size 0 V last :: blk wr.heap.size 76 [.int .i64 what, .int .i64 at_, .int .i64 key, .slice ai l.length ci] :: blk w2.heap.size 38 [.int .i64 v1, .int .i64 v2] :: refP 74 129 (w0.heap.size + 1) K last :: []) (by simp only [all]; ac_rfl))
      have HC2 := hid hcall
      clear hcall hs2 hs3 HC1 y
      go_wp2_with fail
      with_reducible refine HC2.out.mono ?_
      rintro e w3 ⟨rfl, hs3⟩
      have hs4 := hs3.alloc #[.int .i64 v1, .int .i64 v2] 38
      have y3 := HCL.out _ _ (hs4.conv (M := blk wr.heap.size 76 [.int .i64 what, .int .i64 at_, .int .i64 key, .slice ai l.length ci] :: blk w2.heap.size 38 [.int .i64 v1, .int .i64 v2] :: blk w3.heap.size 38 [.int .i64 v1, .int .i64 v2] :: refP 74 129 (w0.heap.size + 1) K last :: storeP 38 w0.heap.size 0 V last :: []) (by simp only [all]; ac_rfl))
      have hcall := HC.out _ _ (hs4.conv (M := refP 74 129 (w0.heap.size + 1) K last :: blk wr.heap.size 76 [.int .i64 what, .int .i64 at_, .int .i64 key, .slice ai l.length ci] :: blk w2.heap.size 38 [.int .i64 v1, .int .i64 v2] :: blk w3.heap.size 38 [.int .i64 v1, .int .i64 v2] :: storeP 38 w0.heap.size 0 V last :: []) (by simp only [all]; ac_rfl))
      have HC3 := hid hcall
      clear hcall hs3 hs4 HC2 y2
      go_wp2_with fail
      with_reducible refine HC3.out.mono ?_
      rintro e w4 ⟨vm, rfl, hs4⟩
      have y4 := HCL.out _ _ (hs4.conv (M := blk wr.heap.size 76 [.int .i64 what, .int .i64 at_, .int .i64 key, .slice ai l.length ci] :: sl 3 1 vm nl.length (icells nl) :: blk w2.heap.size 38 [.int .i64 v1, .int .i64 v2] :: blk w3.heap.size 38 [.int .i64 v1, .int .i64 v2] :: refP 74 129 (w0.heap.size + 1) K last :: storeP 38 w0.heap.size 0 V last :: []) (by simp only [all]; ac_rfl))
      have hcall := HD.out _ _ (hs4.conv (M := storeP 38 w0.heap.size 0 V last :: sl 3 1 vm nl.length (icells nl) :: blk wr.heap.size 76 [.int .i64 what, .int .i64 at_, .int .i64 key, .slice ai l.length ci] :: blk w2.heap.size 38 [.int .i64 v1, .int .i64 v2] :: blk w3.heap.size 38 [.int .i64 v1, .int .i64 v2] :: refP 74 129 (w0.heap.size + 1) K last :: []) (by simp only [all]; ac_rfl))
      have HC4 := hid hcall
      clear hcall hs4 HC3 y3
      go_wp2_with fail
      with_reducible refine HC4.out.mono ?_
      rintro e w5 ⟨vn, rfl, hs5⟩
      obtain ⟨kv, hs6⟩ := S.ref_elim (hs5.conv (M := refP 74 129 (w0.heap.size + 1) K last :: sl 3 1 vn nl.length (icells nl) :: sl 3 1 vm nl.length (icells nl) :: blk w2.heap.size 38 [.int .i64 v1, .int .i64 v2] :: blk w3.heap.size 38 [.int .i64 v1, .int .i64 v2] :: blk wr.heap.size 76 [.int .i64 what, .int .i64 at_, .int .i64 key, .slice ai l.length ci] :: storeP 38 w0.heap.size 0 V last :: []) (by simp only [all]; ac_rfl))
      obtain ⟨ka, kc, rfl, hkc, hkc2, _⟩ := hs6.swap.sl_val
      unfold maxLen at hkc2
      have hs7 : S w0 w5.drew (refK 74 129 (w0.heap.size + 1) (.slice ka K.length kc) K last :: sl 3 1 vn nl.length (icells nl) :: sl 3 1 vm nl.length (icells nl) :: blk w2.heap.size 38 [.int .i64 v1, .int .i64 v2] :: blk w3.heap.size 38 [.int .i64 v1, .int .i64 v2] :: blk wr.heap.size 76 [.int .i64 what, .int .i64 at_, .int .i64 key, .slice ai l.length ci] :: storeP 38 w0.heap.size 0 V last :: []) := (S.sep_intro hs6).drew
      have hs8 := (hs7.conv (M := sl 3 1 vn nl.length (icells nl) :: sl 3 1 vm nl.length (icells nl) :: blk w2.heap.size 38 [.int .i64 v1, .int .i64 v2] :: blk w3.heap.size 38 [.int .i64 v1, .int .i64 v2] :: blk wr.heap.size 76 [.int .i64 what, .int .i64 at_, .int .i64 key, .slice ai l.length ci] :: storeP 38 w0.heap.size 0 V last :: refK 74 129 (w0.heap.size + 1) (.slice ka K.length kc) K last :: []) (by simp only [all]; ac_rfl))
      have hcl2 : ∀ W M, S w0 W (blk w2.heap.size 38 [.int .i64 v1, .int .i64 v2] :: blk w3.heap.size 38 [.int .i64 v1, .int .i64 v2] :: blk wr.heap.size 76 [.int .i64 what, .int .i64 at_, .int .i64 key, .slice ai l.length ci] :: refK 74 129 (w0.heap.size + 1) (.slice ka K.length kc) K last :: M) → W.cell? ⟨w2.heap.size, 0, none⟩ = some (.int .i64 v1) ∧ W.cell? ⟨w2.heap.size, 1, none⟩ = some (.int .i64 v2) ∧ W.cell? ⟨w3.heap.size, 0, none⟩ = some (.int .i64 v1) ∧ W.cell? ⟨w3.heap.size, 1, none⟩ = some (.int .i64 v2) ∧ W.cell? ⟨wr.heap.size, 1, none⟩ = some (.int .i64 at_) ∧ W.cell? ⟨w0.heap.size + 1, 0, none⟩ = some (.slice ka K.length kc) ∧ W.cell? ⟨w0.heap.size + 1, 1, none⟩ = some (.int .i64 last) := fun W M h => by
        have h3 := h.rot3
        have h4 := (h.conv (M := refK 74 129 (w0.heap.size + 1) (.slice ka K.length kc) K last :: blk w2.heap.size 38 [.int .i64 v1, .int .i64 v2] :: blk w3.heap.size 38 [.int .i64 v1, .int .i64 v2] :: blk wr.heap.size 76 [.int .i64 what, .int .i64 at_, .int .i64 key, .slice ai l.length ci] :: M) (by simp only [all]; ac_rfl))
        exact ⟨h.blk_cell 0 rfl, h.blk_cell 1 rfl, h.swap.blk_cell 0 rfl, h.swap.blk_cell 1 rfl, h3.blk_cell 1 rfl, h4.sep_elim.blk_cell 0 rfl, h4.sep_elim.blk_cell 1 rfl⟩
      have q0 := hcl2 _ _ (hs8.conv (M := blk w2.heap.size 38 [.int .i64 v1, .int .i64 v2] :: blk w3.heap.size 38 [.int .i64 v1, .int .i64 v2] :: blk wr.heap.size 76 [.int .i64 what, .int .i64 at_, .int .i64 key, .slice ai l.length ci] :: refK 74 129 (w0.heap.size + 1) (.slice ka K.length kc) K last :: sl 3 1 vn nl.length (icells nl) :: sl 3 1 vm nl.length (icells nl) :: storeP 38 w0.heap.size 0 V last :: []) (by simp only [all]; ac_rfl))
      have G0 := hid hs8; have HCL2 := hid hcl2
      have hb1 : ∀ W M, S w0 W M → Calls Tryd.prog 34 #[errBV er, .int .i64 er] W fun ev w' => ev = .returned (.bool true) ∧ S w0 w' M := fun W M h => bare2 er w0 W M hE h
      have hb2 : ∀ W M, S w0 W M → Calls Tryd.prog 34 #[errBV ne, .int .i64 ne] W fun ev w' => ev = .returned (.bool true) ∧ S w0 w' M := fun W M h => bare2 ne w0 W M hE h
      have HB1 := hid hb1; have HB2 := hid hb2
      clear hs5 hs6 hs7 hs8 HC4 y4 hcl2 hb1 hb2
      go_wp2_with fail
      go_region_held_law (fun w' => w'.cell? ⟨w2.heap.size, 0, none⟩ = some (.int .i64 v1) ∧ w'.cell? ⟨w2.heap.size, 1, none⟩ = some (.int .i64 v2) ∧ w'.cell? ⟨w3.heap.size, 0, none⟩ = some (.int .i64 v1) ∧ w'.cell? ⟨w3.heap.size, 1, none⟩ = some (.int .i64 v2) ∧ w'.cell? ⟨wr.heap.size, 1, none⟩ = some (.int .i64 at_) ∧ w'.cell? ⟨w0.heap.size + 1, 0, none⟩ = some (.slice ka K.length kc) ∧ w'.cell? ⟨w0.heap.size + 1, 1, none⟩ = some (.int .i64 last)) (first | (with_reducible assumption) | (with_reducible exact q0) | (with_reducible exact q1))
        (first
          | (go_at_call 34; with_reducible refine (HB1.out _ _ G0.out).mono ?_; rintro e w6 ⟨rfl, hs6⟩; have q1 := HCL2.out _ _ (hs6.conv (M := blk w2.heap.size 38 [.int .i64 v1, .int .i64 v2] :: blk w3.heap.size 38 [.int .i64 v1, .int .i64 v2] :: blk wr.heap.size 76 [.int .i64 what, .int .i64 at_, .int .i64 key, .slice ai l.length ci] :: refK 74 129 (w0.heap.size + 1) (.slice ka K.length kc) K last :: sl 3 1 vn nl.length (icells nl) :: sl 3 1 vm nl.length (icells nl) :: storeP 38 w0.heap.size 0 V last :: []) (by simp only [all]; ac_rfl)); have G1 := hid hs6; clear hs6)
          | (go_at_call 34; with_reducible refine (HB2.out _ _ G1.out).mono ?_; rintro e w7 ⟨rfl, hs7⟩; have q1 := HCL2.out _ _ (hs7.conv (M := blk w2.heap.size 38 [.int .i64 v1, .int .i64 v2] :: blk w3.heap.size 38 [.int .i64 v1, .int .i64 v2] :: blk wr.heap.size 76 [.int .i64 what, .int .i64 at_, .int .i64 key, .slice ai l.length ci] :: refK 74 129 (w0.heap.size + 1) (.slice ka K.length kc) K last :: sl 3 1 vn nl.length (icells nl) :: sl 3 1 vm nl.length (icells nl) :: storeP 38 w0.heap.size 0 V last :: []) (by simp only [all]; ac_rfl)); have G2 := hid hs7; clear hs7)
          | (go_at_call 35; with_reducible refine (same_any w0 _ vn vm nl nl _ G2.out RdK.own (RdK.own.mono fun w h => h.swap) HNL.out).mono ?_; rw [show decide (nl = nl) = true from decide_eq_true rfl]; rintro e w8 ⟨rfl, hs8⟩; have q1 := HCL2.out _ _ (hs8.conv (M := blk w2.heap.size 38 [.int .i64 v1, .int .i64 v2] :: blk w3.heap.size 38 [.int .i64 v1, .int .i64 v2] :: blk wr.heap.size 76 [.int .i64 what, .int .i64 at_, .int .i64 key, .slice ai l.length ci] :: refK 74 129 (w0.heap.size + 1) (.slice ka K.length kc) K last :: sl 3 1 vn nl.length (icells nl) :: sl 3 1 vm nl.length (icells nl) :: storeP 38 w0.heap.size 0 V last :: []) (by simp only [all]; ac_rfl)); have G3 := hid (hs8.conv (M := storeP 38 w0.heap.size 0 V last :: sl 3 1 vn nl.length (icells nl) :: sl 3 1 vm nl.length (icells nl) :: blk w2.heap.size 38 [.int .i64 v1, .int .i64 v2] :: blk w3.heap.size 38 [.int .i64 v1, .int .i64 v2] :: blk wr.heap.size 76 [.int .i64 what, .int .i64 at_, .int .i64 key, .slice ai l.length ci] :: refK 74 129 (w0.heap.size + 1) (.slice ka K.length kc) K last :: []) (by simp only [all]; ac_rfl)); clear hs8)
          | (go_at_call 36; with_reducible refine (last2 w0 _ w0.heap.size V last _ G3.out).mono ?_; rintro e w9 ⟨rfl, rfl⟩)
          | (go_at_call 13; with_reducible refine (HM.out _ _ G3.out).mono ?_; rintro e w9 ⟨rfl, rfl⟩)
          | (go_at_call 38; with_reducible refine (HF.out _ _ G3.out).mono ?_; rintro e w9 ⟨va, rfl, hs9⟩; have q1 := HCL2.out _ _ (hs9.conv (M := blk w2.heap.size 38 [.int .i64 v1, .int .i64 v2] :: blk w3.heap.size 38 [.int .i64 v1, .int .i64 v2] :: blk wr.heap.size 76 [.int .i64 what, .int .i64 at_, .int .i64 key, .slice ai l.length ci] :: refK 74 129 (w0.heap.size + 1) (.slice ka K.length kc) K last :: sl 31 2 va al.length (pcells al) :: sl 3 1 vn nl.length (icells nl) :: sl 3 1 vm nl.length (icells nl) :: storeP 38 w0.heap.size 0 V last :: []) (by simp only [all]; ac_rfl)); have G4 := hid (hs9.conv (M := refK 74 129 (w0.heap.size + 1) (.slice ka K.length kc) K last :: sl 31 2 va al.length (pcells al) :: sl 3 1 vn nl.length (icells nl) :: sl 3 1 vm nl.length (icells nl) :: blk w2.heap.size 38 [.int .i64 v1, .int .i64 v2] :: blk w3.heap.size 38 [.int .i64 v1, .int .i64 v2] :: blk wr.heap.size 76 [.int .i64 what, .int .i64 at_, .int .i64 key, .slice ai l.length ci] :: storeP 38 w0.heap.size 0 V last :: []) (by simp only [all]; ac_rfl)); clear hs9)
          | (go_at_call 39; with_reducible refine (HG.out _ _ _ G4.out).mono ?_; rintro e w10 ⟨vb, rfl, hs10⟩; have q1 := HCL2.out _ _ (hs10.conv (M := blk w2.heap.size 38 [.int .i64 v1, .int .i64 v2] :: blk w3.heap.size 38 [.int .i64 v1, .int .i64 v2] :: blk wr.heap.size 76 [.int .i64 what, .int .i64 at_, .int .i64 key, .slice ai l.length ci] :: refK 74 129 (w0.heap.size + 1) (.slice ka K.length kc) K last :: sl 31 2 va al.length (pcells al) :: sl 31 2 vb al.length (pcells al) :: sl 3 1 vn nl.length (icells nl) :: sl 3 1 vm nl.length (icells nl) :: storeP 38 w0.heap.size 0 V last :: []) (by simp only [all]; ac_rfl)); have G5 := hid (hs10.conv (M := sl 31 2 va al.length (pcells al) :: sl 31 2 vb al.length (pcells al) :: sl 3 1 vn nl.length (icells nl) :: sl 3 1 vm nl.length (icells nl) :: blk w2.heap.size 38 [.int .i64 v1, .int .i64 v2] :: blk w3.heap.size 38 [.int .i64 v1, .int .i64 v2] :: blk wr.heap.size 76 [.int .i64 what, .int .i64 at_, .int .i64 key, .slice ai l.length ci] :: storeP 38 w0.heap.size 0 V last :: refK 74 129 (w0.heap.size + 1) (.slice ka K.length kc) K last :: []) (by simp only [all]; ac_rfl)); clear hs10)
          | (go_at_call 37; with_reducible refine (sameWrites_any w0 _ va vb al al _ G5.out RdK.own (RdK.own.mono fun w h => h.swap)).mono ?_; rw [show decide (al = al) = true from decide_eq_true rfl]; rintro e w11 ⟨rfl, hs11⟩; have q1 := HCL2.out _ _ (hs11.conv (M := blk w2.heap.size 38 [.int .i64 v1, .int .i64 v2] :: blk w3.heap.size 38 [.int .i64 v1, .int .i64 v2] :: blk wr.heap.size 76 [.int .i64 what, .int .i64 at_, .int .i64 key, .slice ai l.length ci] :: refK 74 129 (w0.heap.size + 1) (.slice ka K.length kc) K last :: sl 31 2 va al.length (pcells al) :: sl 31 2 vb al.length (pcells al) :: sl 3 1 vn nl.length (icells nl) :: sl 3 1 vm nl.length (icells nl) :: storeP 38 w0.heap.size 0 V last :: []) (by simp only [all]; ac_rfl)); have G6 := hid hs11; clear hs11))
      all_goals
        go_wp2_with fail
        go_roundw
        case rel => exact ⟨i + 1, by omega, by go_num, V, last, K, hst, hbd, S.swap (.ex_intro (.slice ka K.length kc) (G6.out.conv (M := sl 31 2 va al.length (pcells al) :: sl 31 2 vb al.length (pcells al) :: sl 3 1 vn nl.length (icells nl) :: sl 3 1 vm nl.length (icells nl) :: blk w2.heap.size 38 [.int .i64 v1, .int .i64 v2] :: blk w3.heap.size 38 [.int .i64 v1, .int .i64 v2] :: blk wr.heap.size 76 [.int .i64 what, .int .i64 at_, .int .i64 key, .slice ai l.length ci] :: refK 74 129 (w0.heap.size + 1) (.slice ka K.length kc) K last :: storeP 38 w0.heap.size 0 V last :: []) (by simp only [all]; ac_rfl)).tail.tail.tail.tail.tail.tail.tail)⟩
        case measure => simp [intOf]; omega
    · obtain rfl : i = ls.length := by omega
      have H3 := hid hsr
      clear hsr
      go_wp2_with fail
      go_ret
      exact ⟨rfl, H3.out.1⟩
end Go.Proofs.YtbcoddibdipjkaaDoor
