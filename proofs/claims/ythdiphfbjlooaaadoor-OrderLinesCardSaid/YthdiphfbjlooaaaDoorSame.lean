/- What the laws ask of two slices: whether they hold the same. -/
import Derived.Test.YthdiphfbjlooaaaDoorSlices2
import Derived.Test.YthdiphfbjlooaaaDoorOrdC
namespace Go.Proofs.YthdiphfbjlooaaaDoor
open Go Go.RowKit Go.Sep

theorem take_eq_all {α : Type} {l m : List α} (hl : l.length = m.length) (h : l.take l.length = m.take l.length) : l = m := by
  rw [List.take_length, hl, List.take_length] at h; exact h
theorem take_ne {α : Type} {l m : List α} {i : Nat} {x y : α} (hx : l[i]? = some x) (hy : m[i]? = some y) (h : x ≠ y) : l ≠ m := by
  rintro rfl
  rw [hx] at hy; exact h (Option.some.inj hy)

set_option maxHeartbeats 2000000 in
theorem same_any (w0 w : World) (va vb : Value) (la lb : List Int) (L : List HProp) (hs : S w0 w L) (ha : RdK w0 L va la.length (icells la)) (hb : RdK w0 L vb lb.length (icells lb)) (hn : la.length ≤ 1000000) :
    Calls Tryd.prog 35 #[va, vb] w fun e w' => e = .returned (.bool (decide (la = lb))) ∧ S w0 w' L := by
  obtain ⟨aa, ca, rfl, hca, hca2, _⟩ := ha w hs
  obtain ⟨ab, cb, rfl, hcb, hcb2, _⟩ := hb w hs
  unfold maxLen at hca2 hcb2
  have HA := hid ha; have HB := hid hb; have HS := hid hs
  clear ha hb hs
  by_cases hl : la.length = lb.length
  · have hlb : ((la.length : Int) != (lb.length : Int)) = false := by simp [hl]
    have HL := hid hl
    clear hl
    go_enter Tryd.func35, Tryd.ntmps35
    go_wp2_with fail
    go_loopw [5] (fun iv wr => ∃ i : Nat, i ≤ la.length ∧ iv = .int .i64 i ∧ Hid (la.take i = lb.take i) ∧ S w0 wr L) (fun iv _ => la.length - (intOf iv).toNat)
    case atStart => exact ⟨0, Nat.zero_le _, rfl, hid rfl, HS.out⟩
    case round =>
      obtain ⟨i, hi, rfl, ht, hsr⟩ := hrel
      clear HS
      by_cases hlt : i < la.length
      · have hx : la[i]? = some la[i] := by simp [hlt]
        have hlt2 : i < lb.length := by rw [← HL.out]; exact hlt
        have hy : lb[i]? = some lb[i] := by simp [hlt2]
        generalize la[i] = x at hx
        generalize lb[i] = y at hy
        obtain ⟨b1, o1, c1, hv1, _, _, hr1⟩ := HA.out.pos hsr (by rw [icells_length]; omega)
        simp only [Value.slice.injEq] at hv1
        obtain ⟨rfl, -, rfl⟩ := hv1
        obtain ⟨b2, o2, c2, hv2, _, _, hr2⟩ := HB.out.pos hsr (by rw [icells_length]; omega)
        simp only [Value.slice.injEq] at hv2
        obtain ⟨rfl, -, rfl⟩ := hv2
        have d0 := hr1 _ hsr.drew _ _ (icells_at hx)
        have d1 := hr2 _ hsr.drew _ _ (icells_at hy)
        by_cases hxy : x = y
        · subst hxy
          have ht2 : la.take (i + 1) = lb.take (i + 1) := by rw [take_succ_get hx, take_succ_get hy, ht.out]
          have HT := hid ht2; have H1 := hid hsr.drew
          clear ht ht2 hx hy hr1 hr2 hsr
          go_wp2_with fail
          go_region
          go_wp2_with fail
          go_roundw
          case rel => exact ⟨i + 1, by omega, by go_num, HT, H1.out⟩
          case measure => simp [intOf]; omega
        · have hne := take_ne hx hy hxy
          have hxb : (x != y) = true := by simpa using hxy
          have HN := hid hne; have H1 := hid hsr.drew
          clear ht hx hy hr1 hr2 hsr hne hxy
          go_wp2_with fail
          go_region
          go_wp2_with fail
          go_ret
          exact ⟨by simp [HN.out], H1.out⟩
      · obtain rfl : i = la.length := by omega
        have he := take_eq_all HL.out ht.out
        have HE := hid he; have H1 := hid hsr
        clear ht hsr he
        go_wp2_with fail
        go_ret
        exact ⟨by simp [HE.out], H1.out⟩
  · have hlb : ((la.length : Int) != (lb.length : Int)) = true := by simp only [bne_iff_ne, ne_eq]; omega
    have hne : la ≠ lb := fun e => hl (by rw [e])
    have HN := hid hne
    clear hl hne
    go_enter Tryd.func35, Tryd.ntmps35
    go_wp2_with fail
    go_ret
    exact ⟨by simp [HN.out], HS.out⟩

set_option maxHeartbeats 2000000 in
theorem sameWrites_any (w0 w : World) (va vb : Value) (la lb : List (Int × Int)) (L : List HProp) (hs : S w0 w L) (ha : RdK w0 L va la.length (pcells la)) (hb : RdK w0 L vb lb.length (pcells lb))  :
    Calls Tryd.prog 37 #[va, vb] w fun e w' => e = .returned (.bool (decide (la = lb))) ∧ S w0 w' L := by
  obtain ⟨aa, ca, rfl, hca, hca2, _⟩ := ha w hs
  obtain ⟨ab, cb, rfl, hcb, hcb2, _⟩ := hb w hs
  unfold maxLen at hca2 hcb2
  have HA := hid ha; have HB := hid hb; have HS := hid hs
  clear ha hb hs
  by_cases hl : la.length = lb.length
  · have hlb : ((la.length : Int) != (lb.length : Int)) = false := by simp [hl]
    have HL := hid hl
    clear hl
    go_enter Tryd.func37, Tryd.ntmps37
    go_wp2_with fail
    go_loopw [5] (fun iv wr => ∃ i : Nat, i ≤ la.length ∧ iv = .int .i64 i ∧ Hid (la.take i = lb.take i) ∧ S w0 wr L) (fun iv _ => la.length - (intOf iv).toNat)
    case atStart => exact ⟨0, Nat.zero_le _, rfl, hid rfl, HS.out⟩
    case round =>
      obtain ⟨i, hi, rfl, ht, hsr⟩ := hrel
      clear HS
      by_cases hlt : i < la.length
      · have hx : la[i]? = some la[i] := by simp [hlt]
        have hlt2 : i < lb.length := by rw [← HL.out]; exact hlt
        have hy : lb[i]? = some lb[i] := by simp [hlt2]
        generalize la[i] = x at hx
        generalize lb[i] = y at hy
        obtain ⟨b1, o1, rfl, d0, d1⟩ := HA.out.pair hsr.drew hx
        obtain ⟨b2, o2, rfl, f0, f1⟩ := HB.out.pair hsr.drew hy
        have hnw := fun w => Tryd.neqW x y w
        by_cases hxy : x = y
        · subst hxy
          have ht2 : la.take (i + 1) = lb.take (i + 1) := by rw [take_succ_get hx, take_succ_get hy, ht.out]
          have HT := hid ht2; have H1 := hid hsr.drew
          simp only [decide_true, Bool.not_true] at hnw
          clear ht ht2 hx hy hsr
          go_wp2_with fail
          go_region
          go_wp2_with fail
          go_roundw
          case rel => exact ⟨i + 1, by omega, by go_num, HT, H1.out⟩
          case measure => simp [intOf]; omega
        · have hne := take_ne hx hy hxy
          simp only [hxy, decide_false, Bool.not_false] at hnw
          have HN := hid hne; have H1 := hid hsr.drew
          clear ht hx hy hsr hne hxy
          go_wp2_with fail
          go_region
          go_wp2_with fail
          go_ret
          exact ⟨by simp [HN.out], H1.out⟩
      · obtain rfl : i = la.length := by omega
        have he := take_eq_all HL.out ht.out
        have HE := hid he; have H1 := hid hsr
        clear ht hsr he
        go_wp2_with fail
        go_ret
        exact ⟨by simp [HE.out], H1.out⟩
  · have hlb : ((la.length : Int) != (lb.length : Int)) = true := by simp only [bne_iff_ne, ne_eq]; omega
    have hne : la ≠ lb := fun e => hl (by rw [e])
    have HN := hid hne
    clear hl hne
    go_enter Tryd.func37, Tryd.ntmps37
    go_wp2_with fail
    go_ret
    exact ⟨by simp [HN.out], HS.out⟩
end Go.Proofs.YthdiphfbjlooaaaDoor
