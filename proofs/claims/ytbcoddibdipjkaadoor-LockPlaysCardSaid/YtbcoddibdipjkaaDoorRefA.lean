/- The reference's table: Holds, Waits, Line. -/
import Derived.Test.YtbcoddibdipjkaaDoorRefT
import Derived.Test.YtbcoddibdipjkaaDoorPlace
import Derived.Test.YtbcoddibdipjkaaDoorStoreW2
import Derived.Test.YtbcoddibdipjkaaDoorArgF
namespace Go.Sep
open Go Go.RowKit
theorem rwaits_at {Qs : List (List Int)} {tx : Int} {k : Nat} {q : List Int} (hq : Qs[k]? = some q) (h : tx ∈ q.tail) (hl : ∀ j < k, ∀ q, Qs[j]? = some q → tx ∉ q.tail) : rwaits Qs tx = k := by
  have hk := (List.getElem?_eq_some_iff.1 hq)
  have : Qs.findIdx? (waitsAt tx) = some k := by
    rw [List.findIdx?_eq_some_iff_getElem]
    refine ⟨hk.1, ?_, fun j hj => ?_⟩
    · rw [hk.2]; simpa [waitsAt] using h
    · have hjl : j < Qs.length := Nat.lt_trans hj hk.1
      have := hl j hj Qs[j] (List.getElem?_eq_getElem hjl)
      simpa [waitsAt] using this
  unfold rwaits; rw [this]
theorem rwaits_none {Qs : List (List Int)} {tx : Int} (hl : ∀ j < Qs.length, ∀ q, Qs[j]? = some q → tx ∉ q.tail) : rwaits Qs tx = -1 := by
  have : Qs.findIdx? (waitsAt tx) = none := by
    rw [List.findIdx?_eq_none_iff]
    intro q hq
    obtain ⟨j, hj⟩ := List.getElem?_of_mem hq
    have := hl j (List.getElem?_eq_some_iff.1 hj).1 q hj
    simpa [waitsAt] using this
  unfold rwaits; rw [this]
theorem tail_not {q : List Int} {tx : Int} (h : ∀ m, 0 < m → ∀ y, q[m]? = some y → y ≠ tx) : tx ∉ q.tail := by
  intro hm
  obtain ⟨j, hj⟩ := List.getElem?_of_mem hm
  rw [List.getElem?_tail] at hj
  exact h (j + 1) (by omega) _ hj rfl
theorem tail_mem {q : List Int} {tx : Int} {m : Nat} (hm : 0 < m) (h : q[m]? = some tx) : tx ∈ q.tail := by
  refine List.mem_of_getElem? (i := m - 1) ?_
  rw [List.getElem?_tail, show m - 1 + 1 = m by omega]; exact h
end Go.Sep
namespace Go.Proofs.YtbcoddibdipjkaaDoor
open Go Go.RowKit Go.Sep

theorem Tryd.size41 : (Tryd.prog.info? 41).map (·.size) = some 1 := by kernel_rfl
theorem Tryd.size90 : (Tryd.prog.info? 90).map (·.size) = some 10 := by kernel_rfl

set_option maxRecDepth 20000 in
set_option maxHeartbeats 2000000 in
theorem rholds_any (w0 w : World) (b : Nat) (kv : List Value) (Qs : List (List Int)) (key : Int) (L : List HProp) (hs : S w0 w (rtabK 3 b 0 kv Qs :: L)) :
    Calls Tryd.prog 43 #[.pointer (some ⟨b, 0, none⟩), .int .i64 key] w fun e w' => e = .returned (.int .i64 (rholds Qs key)) ∧ w = w' := by
  by_cases hk : 0 ≤ key ∧ key ≤ 9
  · obtain ⟨k, rfl⟩ : ∃ k : Nat, key = k := ⟨key.toNat, by omega⟩
    have hk10 : k < 10 := by omega
    obtain ⟨v, q, X, hkv, hQ, hsl, hcell, _, _⟩ := hs.rtabK_key k hk10
    obtain ⟨c0, _⟩ := hcell w L hsl.tail
    rw [Nat.zero_add] at c0
    have hr : rholds Qs k = q.headD 0 := by unfold rholds; rw [qf_nat, hQ]; rfl
    have hb0 : (0 : Int) ≤ (k : Int) := by omega
    have hb1 : (k : Int) ≤ 9 := by omega
    have hb2 : (k : Int) < 10 := by omega
    rw [hr]
    clear hcell hkv hQ hs hk hr
    cases q with
    | nil =>
      obtain ⟨a, c, rfl, _⟩ := hsl.sl_val
      clear hsl
      go_enter Tryd.func43, Tryd.ntmps43
      go_wp2_with (go_at_call 65; with_reducible refine (in_any _ _ _ _).mono ?_; rintro e w' ⟨rfl, rfl⟩)
      go_ret
      exact ⟨rfl, rfl⟩
    | cons x l =>
      obtain ⟨a, c, rfl, _⟩ := hsl.sl_val
      obtain ⟨g, o, rfl, _, d0⟩ := hsl.sl_int (i := 0) (x := x) rfl
      rw [Nat.add_zero] at d0
      have hl : ((((x :: l).length : Nat) : Int) == 0) = false := by simp only [List.length_cons, beq_eq_false_iff_ne, ne_eq]; omega
      have hl2 : (0 : Int) < (((x :: l).length : Nat) : Int) := by simp only [List.length_cons]; omega
      clear hsl
      generalize (x :: l).length = n at *
      go_enter Tryd.func43, Tryd.ntmps43
      go_wp2_with (go_at_call 65; with_reducible refine (in_any _ _ _ _).mono ?_; rintro e w' ⟨rfl, rfl⟩)
      go_ret
      exact ⟨rfl, rfl⟩
  · have hr : rholds Qs key = 0 := by
      unfold rholds
      rw [qf_out (by rw [hs.rtabK_len.2]; omega)]; rfl
    have hb : decide ((0 : Int) ≤ key ∧ key ≤ 9) = false := decide_eq_false hk
    rw [hr]
    clear hs hk hr
    go_enter Tryd.func43, Tryd.ntmps43
    go_wp2_with (go_at_call 65; with_reducible refine (in_any _ _ _ _).mono ?_; rw [hb]; rintro e w' ⟨rfl, rfl⟩)
    go_ret
    exact ⟨rfl, rfl⟩

set_option maxRecDepth 20000 in
set_option maxHeartbeats 4000000 in
theorem rwaits_any (w0 w : World) (b : Nat) (kv : List Value) (Qs : List (List Int)) (tx : Int) (L : List HProp) (hs : S w0 w (rtabK 3 b 0 kv Qs :: L)) (hN : ∀ q ∈ Qs, q.length ≤ 1000000) :
    Calls Tryd.prog 42 #[.pointer (some ⟨b, 0, none⟩), .int .i64 tx] w fun e w' => e = .returned (.int .i64 (rwaits Qs tx)) ∧ w = w' := by
  have hlen := hs.rtabK_len
  have harr := hs.rtabK_arr
  have hadd : ∀ j u, kv[j]? = some u → w.cell? ((⟨b, 0, none⟩ : Addr).add j) = some u := by
    intro j u hj
    rw [addr_add']; exact harr j u hj
  have hkl := hlen.1
  have HA := hid hadd; have HL := hid hlen; have HK := hid hkl; have HS := hid hs; have HN := hid hN
  clear hadd harr hs hlen hkl hN
  go_enter Tryd.func42, Tryd.ntmps42
  go_wp2_with (refine wpList_load_arr rfl 90 (.tmp 11) rfl ⟨b, 0, none⟩ rfl 10 41 Tryd.underlying90 kv (by rw [HK.out]; exact Tryd.size90) HA.out ?_)
  go_loop [13] (fun c => ∃ k : Nat, k ≤ 10 ∧ c = .int .i64 k ∧ Hid (∀ j < k, ∀ q, Qs[j]? = some q → tx ∉ q.tail)) (fun c => 10 - (intOf c).toNat)
  case atStart => exact ⟨0, Nat.zero_le _, rfl, hid (fun j hj => by omega)⟩
  case round =>
    obtain ⟨k, hk, rfl, hno⟩ := hrel
    by_cases hlt : k < 10
    · obtain ⟨v, q, X, hkv, hQ, hsl, _, _, _⟩ := HS.out.rtabK_key k hlt
      obtain ⟨a, c, rfl, hc1, hc2, _⟩ := hsl.sl_val
      have hix := run_index_arr (w := w) Tryd.underlying90 Tryd.underlying41 rfl Tryd.size41 hlt hkv
      have hql := HN.out q (List.mem_of_getElem? hQ)
      have HQ := hid hQ; have HSL := hid hsl
      clear hkv hQ hsl
      go_wp2_with fail
      go_loop [19] (fun c => ∃ j : Nat, j ≤ q.length ∧ c = .int .i64 j ∧ Hid (∀ m < j, 0 < m → ∀ y, q[m]? = some y → y ≠ tx)) (fun c => q.length - (intOf c).toNat)
      case atStart => exact ⟨0, Nat.zero_le _, rfl, hid (fun m hm => by omega)⟩
      case round =>
        obtain ⟨j, hj, rfl, hnj⟩ := hrel
        by_cases hjl : j < q.length
        · have hp : q[j]? = some q[j] := by simp [hjl]
          generalize q[j] = y at hp
          obtain ⟨g, o, rfl, _, d0⟩ := HSL.out.sl_int hp
          by_cases hj0 : j = 0
          · subst hj0
            have hnx : ∀ m < 0 + 1, 0 < m → ∀ y, q[m]? = some y → y ≠ tx := fun m hm h0 => by omega
            have HX := hid hnx
            rw [Nat.add_zero] at d0
            clear hnj hnx hp
            go_wp2_with fail
            go_round
            case rel => exact ⟨0 + 1, by omega, by go_num, HX⟩
            case measure => simp [intOf]; omega
          · have hjb : (0 : Int) < (j : Int) := by omega
            by_cases hy : y = tx
            · subst hy
              have hr := rwaits_at HQ.out (tail_mem (by omega) hp) hno.out
              have HR := hid hr
              clear hnj hp hr
              go_wp2_with fail
              go_ret
              exact ⟨by rw [HR.out]; rfl, rfl⟩
            · have hyb : (y == tx) = false := by simpa using hy
              have hnx : ∀ m < j + 1, 0 < m → ∀ y, q[m]? = some y → y ≠ tx := by
                intro m hm h0 z hz
                by_cases e : m = j
                · subst e; rw [hp] at hz; cases hz; exact hy
                · exact hnj.out m (by omega) h0 z hz
              have HX := hid hnx
              clear hnj hnx hp hy
              go_wp2_with fail
              go_round
              case rel => exact ⟨j + 1, by omega, by go_num, HX⟩
              case measure => simp [intOf]; omega
        · obtain rfl : j = q.length := by omega
          have hnx : ∀ j < k + 1, ∀ q, Qs[j]? = some q → tx ∉ q.tail := by
            intro i hi q' hq'
            by_cases e : i = k
            · subst e; rw [HQ.out] at hq'; cases hq'
              exact tail_not fun m h0 y hy => hnj.out m (List.getElem?_eq_some_iff.1 hy).1 h0 y hy
            · exact hno.out i (by omega) q' hq'
          have HX := hid hnx
          clear hnj hnx hno
          go_wp2_with fail
          go_round
          case rel => exact ⟨k + 1, by omega, by go_num, HX⟩
          case measure => simp [intOf]; omega
    · obtain rfl : k = 10 := by omega
      have hr := rwaits_none (tx := tx) (Qs := Qs) (by rw [HL.out.2]; exact hno.out)
      have HR := hid hr
      clear hno hr
      go_wp2
      go_ret
      exact ⟨by rw [HR.out]; rfl, rfl⟩
end Go.Proofs.YtbcoddibdipjkaaDoor
