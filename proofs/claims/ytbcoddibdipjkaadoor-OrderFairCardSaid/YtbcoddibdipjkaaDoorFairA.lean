/- interleafkeep.OrderFair: whether a line fits. -/
import Derived.Test.YtbcoddibdipjkaaDoorOrdL
import Derived.Test.YtbcoddibdipjkaaDoorTellAt
namespace Go.Proofs.YtbcoddibdipjkaaDoor
open Go Go.RowKit Go.Sep

set_option maxRecDepth 40000 in
set_option maxHeartbeats 4000000 in
theorem fits_any (w0 w : World) (v : Value) (p : List Int) (bx : Nat) (es : List (Int × Int)) (L : List HProp) (hs : S w0 w (outP 29 31 bx es :: L))
    (hr : RdK w0 (outP 29 31 bx es :: L) v p.length (icells p)) (hb : p.length ≤ 900) (hbe : es.length ≤ 1000000) :
    Calls Tryd.prog 27 #[v, .pointer (some ⟨bx, 0, none⟩)] w fun e w' => e = .returned (.bool (fitsB es p)) ∧ S w0 w' (outP 29 31 bx es :: L) := by
  obtain ⟨a, cap, hv, hcap, hcap2, _⟩ := hr w hs
  subst hv
  unfold maxLen at hcap2
  have hs1 := hs.made (enc := Sep.encI) (ok := fun _ => True)
  have H1 : Hid (S w0 (w.alloc (.map #[] 0)) (mp Sep.encI (fun _ => True) w.heap.size (ienc []) :: outP 29 31 bx es :: L)) := hid hs1
  have HR := hid hr
  have hmm := @run_makeMap Tryd.prog
  clear hs hs1 hr
  go_enter Tryd.func27, Tryd.ntmps27
  go_wp2_with fail
  clear hmm
  go_loopw [5] (fun iv wr => ∃ (i : Nat) (D : List (Int × Int)), i ≤ p.length ∧ iv = .int .i64 i ∧ Hid (∀ x, (mget D x).getD 0 = posN (p.take i) x) ∧ S w0 wr (mp Sep.encI (fun _ => True) w.heap.size (ienc D) :: outP 29 31 bx es :: L)) (fun iv _ => p.length - (intOf iv).toNat)
  case atStart => exact ⟨0, [], Nat.zero_le _, rfl, hid (fun x => by simp [posN, mget_nil]), H1.out⟩
  case round =>
    obtain ⟨i, D, hi, rfl, hD, hsr⟩ := hrel
    clear H1
    by_cases hlt : i < p.length
    · have hp : p[i]? = some p[i] := by simp [hlt]
      generalize p[i] = y at hp
      obtain ⟨b, o, cap', hvv, _, _, hrd⟩ := HR.out.pos hsr.tail (by rw [icells_length]; omega)
      simp only [Value.slice.injEq] at hvv
      obtain ⟨rfl, -, rfl⟩ := hvv
      have d0 := hrd _ hsr.tail _ _ (icells_at hp)
      obtain ⟨w2, u2, hs4⟩ := hsr.put Tryd.keyInt Tryd.underlying48 y trivial (Sep.encI ((i : Int) + 1))
      rw [ienc_put] at hs4
      simp only [Sep.encI] at u2
      have hD2 : ∀ x, (mget (mput D y ((i : Int) + 1)) x).getD 0 = posN (p.take (i + 1)) x := by
        intro x
        rw [take_succ_get hp, posN_snoc, mget_put, List.length_take, Nat.min_eq_left (by omega)]
        by_cases e : x = y
        · simp [e]
        · have e' : ¬ y = x := fun h => e h.symm
          simp [e, e', hD.out x]
      have H4 := hid hs4; have HD2 := hid hD2
      clear hsr hs4 hD2 hrd hp hD
      go_wp2_with fail
      go_roundw
      case rel => exact ⟨i + 1, _, by omega, by go_num, HD2, H4.out⟩
      case measure => simp [intOf]; omega
    · obtain rfl : i = p.length := by omega
      have hD1 := hD.out
      rw [List.take_length] at hD1
      have HD := hid hD1
      have H4 := hid hsr
      clear hsr hD hD1
      go_wp2_with fail
      go_loopw [6] (fun jv wx => ∃ j : Nat, j ≤ es.length ∧ jv = .int .i64 j ∧ Hid (∀ e ∈ es.take j, fitsE p e = true) ∧ S w0 wx (mp Sep.encI (fun _ => True) w.heap.size (ienc D) :: outP 29 31 bx es :: L)) (fun jv _ => es.length - (intOf jv).toNat)
      case atStart => exact ⟨0, Nat.zero_le _, rfl, hid (by simp), H4.out⟩
      case round =>
        obtain ⟨j, hj, rfl, hfit, hsr⟩ := hrel
        clear H4
        obtain ⟨ve, hve⟩ := hsr.swap.out_elim
        obtain ⟨ae, ce, rfl, hce, hce2, _⟩ := hve.swap.sl_val
        unfold maxLen at hce2
        have c0 := hve.blk_cell 0 rfl
        by_cases hjl : j < es.length
        · have hp : es[j]? = some es[j] := by simp [hjl]
          generalize es[j] = q at hp
          obtain ⟨g, og, rfl, _, d0, d1⟩ := hve.swap.sl_pair hp
          have l1 := Tryd.look1 hsr.drew.mapAt q.1
          have l2 := Tryd.look1 hsr.drew.mapAt q.2
          rw [HD.out] at l1 l2
          have hnx : fitsE p q = true → ∀ e ∈ es.take (j + 1), fitsE p e = true := by
            intro h e he
            rw [take_succ_get hp] at he
            rcases List.mem_append.1 he with he | he
            · exact hfit.out e he
            · rw [List.mem_singleton] at he; subst he; exact h
          have hno : fitsE p q = false → fitsB es p = false := by
            intro h
            unfold fitsB
            rw [List.all_eq_false]
            exact ⟨q, List.mem_of_getElem? hp, by simp [h]⟩
          have hfe : fitsE p q = !(decide (posN p q.1 = 0) || decide (posN p q.2 = 0) || decide (posN p q.2 ≤ posN p q.1)) := rfl
          rw [hfe] at hnx hno
          generalize posN p q.1 = x1 at l1 hnx hno
          generalize posN p q.2 = x2 at l2 hnx hno
          have HN := hid hnx; have HO := hid hno; have H5 := hid hsr.drew
          clear hsr hve hp hnx hno hfe hfit
          by_cases h1 : x1 = 0
          · subst h1
            have hF := HO.out (by simp)
            have HF := hid hF
            clear hF
            go_wp2_with fail
            go_region
            go_wp2_with fail
            go_ret
            exact ⟨by rw [HF.out]; rfl, H5.out.tail⟩
          · have h1b : (x1 == 0) = false := by simpa using h1
            by_cases h2 : x2 = 0
            · subst h2
              have hF := HO.out (by simp)
              have HF := hid hF
              clear hF h1
              go_wp2_with fail
              go_region
              go_wp2_with fail
              go_ret
              exact ⟨by rw [HF.out]; rfl, H5.out.tail⟩
            · have h2b : (x2 == 0) = false := by simpa using h2
              by_cases h3 : x2 ≤ x1
              · have hF := HO.out (by simp [h3])
                have HF := hid hF
                clear hF h1 h2
                go_wp2_with fail
                go_region
                go_wp2_with fail
                go_ret
                exact ⟨by rw [HF.out]; rfl, H5.out.tail⟩
              · have hM := HN.out (by simp [h1, h2, h3])
                have HM := hid hM
                have h3b : x1 < x2 := by omega
                clear hM h1 h2 h3
                go_wp2_with fail
                go_region
                go_wp2_with fail
                go_roundw
                case rel => exact ⟨j + 1, by omega, by go_num, HM, H5.out⟩
                case measure => simp [intOf]; omega
        · obtain rfl : j = es.length := by omega
          have hB : fitsB es p = true := by
            unfold fitsB
            rw [List.all_eq_true]
            have := hfit.out
            rw [List.take_length] at this
            exact this
          have HB := hid hB; have H5 := hid hsr.tail
          clear hsr hve hB hfit
          go_wp2_with fail
          go_ret
          exact ⟨by rw [HB.out]; rfl, H5.out⟩
end Go.Proofs.YtbcoddibdipjkaaDoor
