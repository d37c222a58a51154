/- The reference's table: Line, Ask. -/
import Derived.Test.YtbcoddibdipjkaaDoorRefA
import Derived.Test.YtbcoddibdipjkaaDoorRegS
import Derived.Test.YtbcoddibdipjkaaDoorAc
import Derived.Deep.DeepCutAuto
import Derived.Deep.CutBlock
namespace Go.Sep
open Go Go.RowKit
theorem RdK.nil {w0 : World} {L : List HProp} : RdK w0 L (.slice none 0 0) 0 [] := fun w _ => ⟨none, 0, rfl, Nat.le_refl _, Nat.zero_le _, by simp⟩
end Go.Sep
namespace Go.Proofs.YtbcoddibdipjkaaDoor
open Go Go.RowKit Go.Sep

set_option maxRecDepth 20000 in
set_option maxHeartbeats 2000000 in
theorem rline_any (w0 w : World) (b : Nat) (kv : List Value) (Qs : List (List Int)) (key : Int) (L : List HProp) (hs : S w0 w (rtabK 3 b 0 kv Qs :: L)) :
    Calls Tryd.prog 44 #[.pointer (some ⟨b, 0, none⟩), .int .i64 key] w fun e w' => ∃ v, e = .returned v ∧ w = w' ∧ RdK w0 (rtabK 3 b 0 kv Qs :: L) v (qf Qs key).tail.length (icells (qf Qs key).tail) := by
  by_cases hk : 0 ≤ key ∧ key ≤ 9
  · obtain ⟨k, rfl⟩ : ∃ k : Nat, key = k := ⟨key.toNat, by omega⟩
    have hk10 : k < 10 := by omega
    obtain ⟨v, q, X, hkv, hQ, hsl, hcell, _, _⟩ := hs.rtabK_key k hk10
    obtain ⟨c0, _⟩ := hcell w L hsl.tail
    rw [Nat.zero_add] at c0
    have hr : qf Qs k = q := by rw [qf_nat, hQ]; rfl
    have hb0 : (0 : Int) ≤ (k : Int) := by omega
    have hb1 : (k : Int) ≤ 9 := by omega
    have hb2 : (k : Int) < 10 := by omega
    rw [hr]
    cases q with
    | nil =>
      obtain ⟨a, c, rfl, _⟩ := hsl.sl_val
      clear hsl hcell hkv hQ hs hk hr
      go_enter Tryd.func44, Tryd.ntmps44
      go_wp2_with (go_at_call 65; with_reducible refine (in_any _ _ _ _).mono ?_; rintro e w' ⟨rfl, rfl⟩)
      go_ret
      exact ⟨_, rfl, rfl, RdK.nil⟩
    | cons x l =>
      obtain ⟨g, o, c, rfl, hc1, hc2, _, _, _, _⟩ := hsl.sl_some (by simp [icells])
      have hrd : RdK w0 (rtabK 3 b 0 kv Qs :: L) (.slice (if c = 1 then some ⟨g, o, none⟩ else some ⟨g, o + 1, none⟩) l.length (c - 1)) l.length (icells l) := by
        intro W hW
        obtain ⟨v', q', X', hkv', hQ', hsl', _⟩ := hW.rtabK_key k hk10
        obtain rfl : Value.slice (some ⟨g, o, none⟩) (x :: l).length c = v' := Option.some.inj (hkv.symm.trans hkv')
        obtain rfl : x :: l = q' := Option.some.inj (hQ.symm.trans hQ')
        simp only [List.length_cons] at hc1
        refine ⟨_, _, rfl, by omega, by omega, fun j u hj => ?_⟩
        have hjl := (List.getElem?_eq_some_iff.1 hj).1
        rw [icells_length] at hjl
        obtain ⟨g', o', c', hv', _, _, _, _, hcc, _⟩ := hsl'.sl_some (by simp [icells])
        simp only [Value.slice.injEq, Option.some.injEq, Addr.mk.injEq] at hv'
        obtain ⟨⟨rfl, rfl, -⟩, -, -⟩ := hv'
        refine ⟨g, o + 1, if_neg (by omega), ?_⟩
        rw [Nat.add_assoc]
        refine hcc _ _ ?_
        rw [Nat.add_comm 1 j]
        unfold icells at hj ⊢
        rw [List.map_cons, List.getElem?_cons_succ]; exact hj
      have hl : ((((x :: l).length : Nat) : Int) == 0) = false := by simp only [List.length_cons, beq_eq_false_iff_ne, ne_eq]; omega
      have hl2 : (1 : Int) ≤ (((x :: l).length : Nat) : Int) := by simp only [List.length_cons]; omega
      have hl3 : 1 ≤ (x :: l).length := by simp
      have hl4 : (x :: l).length - 1 = l.length := by simp
      clear hsl hcell hkv hQ hs hk hr
      generalize (x :: l).length = n at *
      rw [← hl4] at hrd
      by_cases h1c : c = 1
      · subst h1c
        obtain rfl : n = 1 := by omega
        rw [if_pos rfl] at hrd
        have HRD := hid hrd; have H4 := hid hl4
        clear hrd hl4
        go_enter Tryd.func44, Tryd.ntmps44
        go_wp2_with (go_at_call 65; with_reducible refine (in_any _ _ _ _).mono ?_; rintro e w' ⟨rfl, rfl⟩)
        go_ret
        exact ⟨_, rfl, rfl, by rw [List.tail_cons, ← H4.out]; exact HRD.out⟩
      · rw [if_neg h1c] at hrd
        have HRD := hid hrd; have H4 := hid hl4
        clear hrd hl4
        go_enter Tryd.func44, Tryd.ntmps44
        go_wp2_with (go_at_call 65; with_reducible refine (in_any _ _ _ _).mono ?_; rintro e w' ⟨rfl, rfl⟩)
        go_ret
        exact ⟨_, rfl, rfl, by rw [List.tail_cons, ← H4.out]; exact HRD.out⟩
  · have hr : qf Qs key = [] := qf_out (by rw [hs.rtabK_len.2]; omega)
    have hb : decide ((0 : Int) ≤ key ∧ key ≤ 9) = false := decide_eq_false hk
    rw [hr]
    clear hs hk hr
    go_enter Tryd.func44, Tryd.ntmps44
    go_wp2_with (go_at_call 65; with_reducible refine (in_any _ _ _ _).mono ?_; rw [hb]; rintro e w' ⟨rfl, rfl⟩)
    go_ret
    exact ⟨_, rfl, rfl, RdK.nil⟩
end Go.Proofs.YtbcoddibdipjkaaDoor
