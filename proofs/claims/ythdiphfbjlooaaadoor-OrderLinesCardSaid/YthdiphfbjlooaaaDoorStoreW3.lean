/- The program's store: Clone, Sweep. -/
import Derived.Test.YthdiphfbjlooaaaDoorStoreW2
namespace Go.Proofs.YthdiphfbjlooaaaDoor
open Go Go.RowKit Go.Sep

set_option maxHeartbeats 1000000 in
set_option maxRecDepth 20000 in
/-- slices.Clone, of pairs. -/
theorem clone_vers (w0 w : World) (v : Value) (l : Vers) (L : List HProp) (hs : S w0 w L) (hr : RdK w0 L v l.length (pcells l)) (hb : l.length ≤ 4000000) :
    Calls Tryd.prog 47 #[v] w fun e w' => ∃ v', e = .returned v' ∧ S w0 w' (sl 38 2 v' l.length (pcells l) :: L) := by
  obtain ⟨a, cap, rfl, hcap, hcap2, hrd⟩ := hr w hs
  have heq := fun w => Lib.run_eql_slice_nil (P := Tryd.prog) w 24 38 a l.length cap 0 0 Tryd.underlying24
  have hlp := pcells_length l
  clear hcap2
  cases a with
  | none =>
    have hl0 : l = [] := by
      apply List.eq_nil_of_length_eq_zero
      rcases Nat.eq_zero_or_pos l.length with h | h
      · exact h
      · obtain ⟨b, o, hb, _⟩ := hrd 0 ((pcells l)[0]'(by omega)) (by simp)
        cases hb
    subst hl0
    simp only [List.length_nil] at heq
    have hfin : S w0 w (sl 38 2 (.slice none 0 0) 0 [] :: L) := hs.sl_nil
    have HF := hid hfin; clear hfin hs hr hrd hlp
    go_enter Tryd.func47, Tryd.ntmps47
    go_wp2_with fail
    go_ret
    exact ⟨_, rfl, HF.out⟩
  | some a =>
    obtain ⟨i0, hi0, hz0, hz1, hz2⟩ := info_parts Tryd.info38
    have hs1 : S w0 (w.alloc (.cells #[] 38)) (sl 38 2 (.slice (some ⟨w.heap.size, 0, none⟩) 0 0) 0 [] :: L) := (hs.alloc #[] 38).sl_blk (n := 0) (by simp) (by simp)
    have hn1 : ∀ j u, (pcells l)[j]? = some u → ∃ b, some a = some b ∧ (w.alloc (.cells #[] 38)).cell? (b.add j) = some u := by
      intro j u hj
      obtain ⟨b, o, hb, hc⟩ := hrd j u hj
      cases hb
      refine ⟨_, rfl, ?_⟩
      have e1 : (⟨b, o, none⟩ : Addr).add j = ⟨b, o + j, none⟩ := by unfold Addr.add; split <;> simp_all
      rw [e1, World.cell?_alloc_lt _ _ _ (World.block_lt_of_cell? w _ hc)]; exact hc
    have hone : ∀ u ∈ pcells l, u.oneCell' = true := by
      intro u hu; simp only [pcells, List.mem_flatMap] at hu
      obtain ⟨p, _, hu⟩ := hu
      simp at hu; rcases hu with rfl | rfl <;> rfl
    have H1 := hid hs1; have H2 := hid hn1; have H3 := hid hone; have H4 := hid hlp
    clear hs1 hn1 hone hs hr hrd hlp
    go_enter Tryd.func47, Tryd.ntmps47
    go_wp2_with (at_builtin; refine wpList_append rfl (.tmp 5) (.tmp 6) 24 rfl 38 i0 _ 2 16 Tryd.underlying24 hi0 hz0 hz1 hz2 rfl (by decide) H1.out rfl (some a) l.length cap (pcells l) rfl H4.out H2.out H3.out (by unfold maxLen; omega) (by omega) ?_; intro v1 w1 hs1; have HS := hid hs1; clear hs1)
    go_ret
    exact ⟨_, rfl, by simpa using HS.out⟩

theorem pcells_drop (l : Vers) (n : Nat) : pcells (l.drop n) = (pcells l).drop (n * 2) := by
  induction l generalizing n with
  | nil => simp [pcells]
  | cons p l ih =>
    cases n with
    | zero => rfl
    | succ n =>
      rw [List.drop_succ_cons, ih, show (n + 1) * 2 = n * 2 + 1 + 1 by omega]; rfl
theorem set_same {α : Type} {l : List α} {i : Nat} {x : α} (h : l[i]? = some x) : l.set i x = l := by
  obtain ⟨hi, rfl⟩ := List.getElem?_eq_some_iff.1 h
  exact List.set_getElem_self hi

/-- The last place whose time is not later. -/
def lastLe (at_ : Int) : Nat → Int → Vers → Int
  | _, r, [] => r
  | i, r, p :: l => lastLe at_ (i + 1) (if p.1 ≤ at_ then (i : Int) else r) l
theorem lastLe_range (at_ : Int) : ∀ (l : Vers) (i : Nat) (r : Int), -1 ≤ r → r < i → -1 ≤ lastLe at_ i r l ∧ lastLe at_ i r l < i + l.length
  | [], i, r, h1, h2 => by simp [lastLe]; omega
  | p :: l, i, r, h1, h2 => by
    have := lastLe_range at_ l (i + 1) (if p.1 ≤ at_ then (i : Int) else r) (by split <;> omega) (by split <;> omega)
    simp only [lastLe, List.length_cons]; omega
/-- What Sweep leaves of a key's versions; and how many it drops. -/
def swept (at_ : Int) (vs : Vers) : Vers := vs.drop (lastLe at_ 0 (-1) vs).toNat
def sweptN (at_ : Int) (vs : Vers) : Nat := (lastLe at_ 0 (-1) vs).toNat
def sweepTo (at_ : Int) (V : List Vers) (i : Nat) : List Vers := (V.take i).map (swept at_) ++ V.drop i
theorem sweepTo_succ {at_ : Int} {V : List Vers} {i : Nat} {vs : Vers} (h : V[i]? = some vs) : sweepTo at_ V (i + 1) = (sweepTo at_ V i).set i (swept at_ vs) := by
  obtain ⟨hi, rfl⟩ := List.getElem?_eq_some_iff.1 h
  unfold sweepTo
  have e : i - ((V.take i).map (swept at_)).length = 0 := by simp; omega
  rw [take_succ_get h, List.map_append, List.append_assoc, List.set_append_right _ _ (by simp; omega), e, List.drop_eq_getElem_cons hi, List.set_cons_zero]
  rfl
theorem sweepTo_get {at_ : Int} {V : List Vers} {i j : Nat} (h : i ≤ j) (hi : i ≤ V.length) : (sweepTo at_ V i)[j]? = V[j]? := by
  unfold sweepTo
  rw [List.getElem?_append_right (by simp; omega), List.getElem?_drop]
  congr 1; simp; omega
theorem sweepTo_length {at_ : Int} {V : List Vers} {i : Nat} : (sweepTo at_ V i).length = V.length := by unfold sweepTo; simp; omega
def sweptSum (at_ : Int) (V : List Vers) (i : Nat) : Nat := ((V.take i).map (sweptN at_)).sum
theorem sweptSum_succ {at_ : Int} {V : List Vers} {i : Nat} {vs : Vers} (h : V[i]? = some vs) : sweptSum at_ V (i + 1) = sweptSum at_ V i + sweptN at_ vs := by
  unfold sweptSum; rw [take_succ_get h, List.map_append, List.sum_append]; simp
theorem swept_same {at_ : Int} {vs : Vers} (h : lastLe at_ 0 (-1) vs ≤ 0) : swept at_ vs = vs ∧ sweptN at_ vs = 0 := by
  unfold swept sweptN; rw [show (lastLe at_ 0 (-1) vs).toNat = 0 by omega]; simp

set_option maxHeartbeats 2000000 in
set_option maxRecDepth 20000 in
theorem sweep_any (w0 w : World) (b o : Nat) (V : List Vers) (last at_ : Int) (L : List HProp) (hs : S w0 w (storeP 38 b o V last :: L)) (hN : ∀ vs ∈ V, vs.length ≤ 2000000) :
    Calls Tryd.prog 11 #[.pointer (some ⟨b, o, none⟩), .int .i64 at_] w fun e w' => e = .returned (.int .i64 ((V.map (sweptN at_)).sum : Nat)) ∧ S w0 w' (storeP 38 b o (V.map (swept at_)) last :: L) := by
  obtain ⟨kv, hs⟩ := hs.ex_elim
  have hlen := hs.storeK_len
  have harr := hs.storeK_arr
  have hvals := hs.storeK_vals
  have hw0 := hs.storeK_last.2.2.1
  have hadd : ∀ j u, kv[j]? = some u → w.cell? ((⟨b, o, none⟩ : Addr).add j) = some u := by
    intro j u hj
    have e1 : (⟨b, o, none⟩ : Addr).add j = ⟨b, o + j, none⟩ := by unfold Addr.add; split <;> simp_all
    rw [e1]; exact harr j u hj
  have hkl := hlen.1
  have HA := hid hadd; have HV := hid hvals; have HL := hid hlen; have HK := hid hkl; have HN := hid hN
  have HS := hid hs
  clear hadd hvals harr hN hs hlen hkl
  go_enter Tryd.func11, Tryd.ntmps11
  go_wp2_with (refine wpList_load_arr rfl 25 (.tmp 13) rfl ⟨b, o, none⟩ rfl 10 24 Tryd.underlying25 kv (by rw [HK.out]; exact Tryd.size25) HA.out ?_)
  go_loopw [5, 15] (fun r c wr => ∃ i : Nat, i ≤ 10 ∧ c = .int .i64 i ∧ r = .int .i64 (sweptSum at_ V i : Nat) ∧ sweptSum at_ V i ≤ 2000000 * i ∧ ∃ kv', (∀ j, i ≤ j → kv'[j]? = kv[j]?) ∧ S w0 wr (storeK 38 b o kv' (sweepTo at_ V i) last :: L)) (fun _ c _ => 10 - (intOf c).toNat)
  case atStart => exact ⟨0, Nat.zero_le _, rfl, rfl, by simp [sweptSum], kv, fun _ _ => rfl, by simpa [sweepTo] using HS.out⟩
  case round =>
    obtain ⟨i, hi, rfl, rfl, hsum, kv', hkv', hsr⟩ := hrel
    clear HS HA
    obtain ⟨wo, hwo⟩ : ∃ wo : World, wo = wr := ⟨_, rfl⟩
    by_cases hlt : i < 10
    · obtain ⟨vs, hvs⟩ : ∃ vs, V[i]? = some vs := ⟨V[i]'(by have := HL.out.2; omega), by simp⟩
      obtain ⟨a, cp, hkv, hcp, _⟩ := HV.out i vs hvs
      have hvl := HN.out vs (List.mem_of_getElem? hvs)
      have hix := run_index_arr Tryd.underlying25 Tryd.underlying24 rfl Tryd.size24 hlt hkv
      obtain ⟨v', vs', X, hk1, hk2, hsk, hcell, hback, hset, _⟩ := hsr.storeK_key i hlt
      obtain rfl : v' = .slice a vs.length cp := Option.some.inj (hk1.symm.trans ((hkv' i (Nat.le_refl _)).trans hkv))
      rw [sweepTo_get (Nat.le_refl _) (by have := HL.out.2; omega)] at hk2
      obtain rfl : vs = vs' := Option.some.inj (hvs.symm.trans hk2)
      have HKV := hid hkv'; have HVS := hid hvs
      have hsum' : sweptSum at_ V i ≤ 20000000 := by omega
      clear hkv hk1 hk2 hkv' hvs hsr
      subst hwo
      go_wp2_with fail
      go_loopw [8, 21] (fun r c wr => ∃ j : Nat, j ≤ vs.length ∧ c = .int .i64 j ∧ ∃ q : Int, r = .int .i64 q ∧ -1 ≤ q ∧ q < j ∧ lastLe at_ 0 (-1) vs = lastLe at_ j q (vs.drop j) ∧ S w0 wr (sl 38 2 (.slice a vs.length cp) vs.length (pcells vs) :: X :: L)) (fun _ c _ => vs.length - (intOf c).toNat)
      case atStart => exact ⟨0, Nat.zero_le _, rfl, -1, rfl, by omega, by omega, rfl, hsk⟩
      case round =>
        obtain ⟨j, hj, rfl, q, rfl, hq1, hq2, hll, hsr⟩ := hrel
        by_cases hjl : j < vs.length
        · have hp : vs[j]? = some vs[j] := by simp [hjl]
          have hd := List.drop_eq_getElem_cons hjl
          generalize vs[j] = p at hp hd
          obtain ⟨g, og, rfl, hg, c1, c2⟩ := hsr.sl_pair hp
          rw [hd] at hll
          have H1 := hid ((hsr.alloc #[.int .i64 p.1, .int .i64 p.2] 38).tail)
          have H2 := hid hll
          clear hd hll hsr hp hsk
          by_cases hle : p.1 ≤ at_
          · go_wp2_with fail
            go_roundw
            case rel => exact ⟨j + 1, by omega, by go_num, j, rfl, by omega, by omega, by rw [H2.out]; simp [lastLe, hle], H1.out⟩
            case measure => simp [intOf]; omega
          · go_wp2_with fail
            go_roundw
            case rel => exact ⟨j + 1, by omega, by go_num, q, rfl, by omega, by omega, by rw [H2.out]; simp [lastLe, hle], H1.out⟩
            case measure => simp [intOf]; omega
        · have hjj : j = vs.length := by omega
          subst hjj
          rw [List.drop_length] at hll
          simp only [lastLe] at hll
          have HQ := hid hll; clear hll
          have hss := sweptSum_succ (at_ := at_) HVS.out
          by_cases hq0 : 0 < q
          · obtain ⟨qn, rfl⟩ := Int.eq_ofNat_of_zero_le (Int.le_of_lt hq0)
            have e1 : sweptN at_ vs = qn := by unfold sweptN; rw [HQ.out]; simp
            have e2 : swept at_ vs = vs.drop qn := by unfold swept; rw [HQ.out]; simp
            rw [e1] at hss
            have hpos : 0 < vs.length := by omega
            obtain ⟨p0, hp0⟩ : ∃ p, vs[0]? = some p := ⟨vs[0], by simp⟩
            obtain ⟨g, og, rfl, hg, _, _⟩ := hsr.sl_pair hp0
            have hrk : RdK w0 (sl 38 2 (.slice (some ⟨g, og, none⟩) vs.length cp) vs.length (pcells vs) :: X :: L) (.slice (some ⟨g, og + qn * 2, none⟩) (vs.length - qn) (cp - qn)) (vs.drop qn).length (pcells (vs.drop qn)) := by
              intro w' hs'
              obtain ⟨g', o', cap', hv, h1, h2, _, _, h3, _⟩ := hs'.sl_some (by rw [pcells_length]; omega)
              simp only [Value.slice.injEq, Option.some.injEq, Addr.mk.injEq] at hv
              obtain ⟨⟨rfl, rfl, -⟩, -, rfl⟩ := hv
              refine ⟨_, _, by rw [List.length_drop], by rw [List.length_drop]; omega, by omega, fun j u hj => ⟨g, og + qn * 2, rfl, ?_⟩⟩
              rw [pcells_drop, List.getElem?_drop] at hj
              rw [Nat.add_assoc]
              exact h3 _ u hj
            have hfin : ∀ w1 v1, S w0 w1 (sl 38 2 v1 (vs.drop qn).length (pcells (vs.drop qn)) :: sl 38 2 (.slice (some ⟨g, og, none⟩) vs.length cp) vs.length (pcells vs) :: X :: L) → S w0 (w1.setCell ⟨b, o + i, none⟩ v1) (storeK 38 b o (kv'.set i v1) (sweepTo at_ V (i + 1)) last :: L) := by
              intro w1 v1 h1
              rw [sweepTo_succ HVS.out, e2]
              exact hset w1 v1 (vs.drop qn) L h1.swap.tail
            have HF := hid hfin; clear hfin
            have HSS := hid hss; have HE2 := hid e2
            have HR := hid hrk; have HSR := hid hsr; have HC := hid hcell
            clear hss e1 e2 hrk hsr hp0 hcell hset hsk hback
            have hqc : (qn : Int) ≤ vs.length := by omega
            go_wp2_with fail
            go_region_with (go_at_call 47; refine (clone_vers w0 _ _ (vs.drop qn) _ (HSR.out.drew) HR.out (by simp; omega)).mono ?_; rintro e w1 ⟨v1, rfl, hs1⟩; obtain ⟨a1, cp1, rfl, _, _, _⟩ := hs1.sl_val; obtain ⟨c9, f9, _, b9⟩ := HC.out w1 _ hs1.rot3; have H9 := hid (HF.out _ _ hs1); clear hs1)
            all_goals
              go_wp2_with fail
              go_roundw
              case rel =>
                have H10 := H9.out
                rw [List.length_drop] at H10
                exact ⟨i + 1, by omega, by go_num, by rw [HSS.out]; go_num, by rw [HSS.out]; omega, kv'.set i (.slice a1 (vs.length - qn) cp1), fun j hj => (by rw [List.getElem?_set_ne (by omega)]; exact HKV.out j (by omega)), H10⟩
              case measure => simp [intOf]; omega
          · obtain ⟨e1, e2⟩ := swept_same (at_ := at_) (vs := vs) (by rw [HQ.out]; omega)
            rw [e2] at hss
            have HSS := hid hss
            have hfin : S w0 wr (storeK 38 b o kv' (sweepTo at_ V (i + 1)) last :: L) := by
              have hk3 : (sweepTo at_ V i)[i]? = some vs := by rw [sweepTo_get (Nat.le_refl _) (by have := HL.out.2; omega)]; exact HVS.out
              rw [sweepTo_succ HVS.out, e1, set_same hk3]
              exact hback wr L hsr
            have HF := hid hfin
            clear hss e1 e2 hfin hsr hback hset hcell hsk
            go_wp2_with fail
            go_roundw
            case rel => exact ⟨i + 1, by omega, by go_num, by rw [HSS.out]; rfl, by rw [HSS.out]; omega, kv', fun j hj => HKV.out j (by omega), HF.out⟩
            case measure => simp [intOf]; omega
    · have hil : i = 10 := by omega
      subst hil
      have hfin : S w0 wr (storeP 38 b o (V.map (swept at_)) last :: L) := by
        have h2 := HL.out.2
        have e1 : sweepTo at_ V 10 = V.map (swept at_) := by unfold sweepTo; rw [List.take_of_length_le (by omega), List.drop_of_length_le (by omega), List.append_nil]
        rw [← e1]; exact .ex_intro kv' hsr
      have HF := hid hfin
      clear hfin hsr hkv' hsum
      go_wp2_with fail
      go_ret
      exact ⟨retI (by unfold sweptSum; rw [List.take_of_length_le (by have := HL.out.2; omega)]), HF.out⟩
end Go.Proofs.YthdiphfbjlooaaaDoor
