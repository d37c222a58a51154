/- The program's table of locks: one is struck from a line. -/
import Derived.Test.YtbcoddibdipjkaaDoorLockA
import Derived.Test.YtbcoddibdipjkaaDoorSlices2
namespace Go.Proofs.YtbcoddibdipjkaaDoor
open Go Go.RowKit Go.Sep

theorem drop1_any (x tx : Int) (bx : Nat) (w : World) (hc : w.cell? ⟨bx, 0, none⟩ = some (.int .i64 tx)) :
    Calls Tryd.prog 53 #[.int .i64 x, .pointer (some ⟨bx, 0, none⟩)] w fun e w' => e = .returned (.bool (x == tx)) ∧ w = w' := by
  go_enter Tryd.func53, Tryd.ntmps53
  go_wp2
  go_ret
  exact ⟨rfl, rfl⟩

/-- The function value that 'Drop' hands on. -/
abbrev dropF (bx : Nat) : Value := .func (.func 53) #[] #[.pointer (some ⟨bx, 0, none⟩)]
def ixOf (l : List Int) (tx : Int) : Int := match l.findIdx? (fun x => x == tx) with | some i => (i : Int) | none => -1

set_option maxRecDepth 20000 in
theorem index1_any (w0 w : World) (a : Option Addr) (cap : Nat) (l : List Int) (tx : Int) (bx : Nat) (L : List HProp) (hs : S w0 w (sl 3 1 (.slice a l.length cap) l.length (icells l) :: L)) (hc : w.cell? ⟨bx, 0, none⟩ = some (.int .i64 tx)) (hb : l.length ≤ 1000000) :
    Calls Tryd.prog 75 #[.slice a l.length cap, dropF bx] w fun e w' => e = .returned (.int .i64 (ixOf l tx)) ∧ w = w' := by
  have H := hid hs
  clear hs
  go_enter Tryd.func75, Tryd.ntmps75
  go_wp2_with fail
  go_loopw [8] (fun x wr => ∃ i : Nat, i ≤ l.length ∧ x = .int .i64 i ∧ (∀ j < i, l[j]? ≠ some tx) ∧ wr = w) (fun x _ => l.length - (intOf x).toNat)
  case atStart => exact ⟨0, Nat.zero_le _, rfl, fun _ h => absurd h (Nat.not_lt_zero _), rfl⟩
  case round =>
    obtain ⟨i, hi, rfl, hno, rfl⟩ := hrel
    by_cases hlt : i < l.length
    · have hp : l[i]? = some l[i] := by simp [hlt]
      generalize l[i] = p at hp
      obtain ⟨g, og, rfl, hg, c1⟩ := H.out.sl_int hp
      have HP := hid hp
      have HN := hid hno
      clear hp hno
      by_cases hx : p = tx
      · subst hx
        have hbe : (p == p) = true := by simp
        go_wp2_with (go_at_call 53; refine (drop1_any _ _ _ _ hc).mono ?_; rintro e w' ⟨rfl, rfl⟩)
        go_ret
        have hi2 : ixOf l p = i := by
          unfold ixOf
          have : l.findIdx? (fun x => x == p) = some i := by
            rw [List.findIdx?_eq_some_iff_getElem]
            refine ⟨hlt, ?_, fun j hj => ?_⟩
            · have := HP.out; rw [List.getElem?_eq_some_iff] at this; obtain ⟨_, h2⟩ := this; simp [h2]
            · have := HN.out j hj; simp only [ne_eq, beq_iff_eq]; intro h3; exact this (by rw [← h3]; simp)
          rw [this]
        exact ⟨by rw [hi2]; rfl, rfl⟩
      · have hbe : (p == tx) = false := by simp [hx]
        go_wp2_with (go_at_call 53; refine (drop1_any _ _ _ _ hc).mono ?_; rintro e w' ⟨rfl, rfl⟩)
        go_roundw
        case rel => exact ⟨i + 1, by omega, by go_num, fun j hj => by
          rcases Nat.lt_succ_iff_lt_or_eq.1 hj with h | h
          · exact HN.out j h
          · subst h; rw [HP.out]; intro h; exact hx (Option.some.inj h), trivial⟩
        case measure => simp [intOf]; omega
    · have hi2 : ixOf l tx = -1 := by
        unfold ixOf
        have : l.findIdx? (fun x => x == tx) = none := by
          rw [List.findIdx?_eq_none_iff]
          intro x hx
          obtain ⟨j, hj⟩ := List.getElem?_of_mem hx
          have hjl := (List.getElem?_eq_some_iff.1 hj).1
          have := hno j (by omega)
          simp only [beq_eq_false_iff_ne, ne_eq]
          intro h; subst h; exact this hj
        rw [this]
      have HI := hid hi2
      clear hi2 hno
      go_wp2_with fail
      go_ret
      exact ⟨by rw [HI.out]; rfl, rfl⟩

set_option maxRecDepth 40000 in
set_option maxHeartbeats 4000000 in
theorem delete1_any (w0 w : World) (a : Option Addr) (cap : Nat) (l : List Int) (tx : Int) (bx : Nat) (L : List HProp)
    (hs : S w0 w (sl 3 1 (.slice a l.length cap) l.length (icells l) :: blk bx 3 [.int .i64 tx] :: L)) (hb : l.length ≤ 1000000) :
    Calls Tryd.prog 52 #[.slice a l.length cap, dropF bx] w fun e w' => ∃ v', e = .returned v' ∧
      S w0 w' (sl 3 1 v' (strike l tx).length (icells (strike l tx)) :: blk bx 3 [.int .i64 tx] :: L) := by
  have hc := hs.swap.blk_cell 0 rfl
  have H := hid hs
  clear hs
  cases hx : l.findIdx? (fun x => x == tx) with
  | none =>
    have hix : ixOf l tx = -1 := by unfold ixOf; rw [hx]
    have hst : strike l tx = l := by
      apply strike_none
      rw [List.findIdx?_eq_none_iff] at hx
      intro x h; simpa using hx x h
    rw [hst]
    clear hx hst
    go_enter Tryd.func52, Tryd.ntmps52
    go_wp2_with (go_at_call 75; refine (index1_any w0 _ a cap l tx bx _ H.out hc hb).mono ?_; rw [hix]; rintro e w' ⟨rfl, rfl⟩)
    go_ret
    exact ⟨_, rfl, H.out⟩
  | some i0 =>
    have hix : ixOf l tx = (i0 : Int) := by unfold ixOf; rw [hx]
    rw [List.findIdx?_eq_some_iff_getElem] at hx
    obtain ⟨hi0, hat, hbef⟩ := hx
    have hst : strike (l.take (i0 + 1)) tx = l.take i0 := by
      rw [take_succ_get (show l[i0]? = some l[i0] by simp [hi0]), strike_snoc, if_pos (by simpa using hat)]
      apply strike_none
      intro x h
      obtain ⟨j, hj⟩ := List.getElem?_of_mem h
      rw [List.getElem?_take] at hj
      split at hj
      · rename_i hji
        have hjl := (List.getElem?_eq_some_iff.1 hj)
        obtain ⟨h1, h2⟩ := hjl
        have := hbef j hji
        rw [h2] at this
        simpa using this
      · cases hj
    obtain ⟨g, og, rfl, hg, _⟩ := H.out.sl_int (show l[i0]? = some l[i0] by simp [hi0])
    clear hat
    have HS := hid hst
    clear hst hbef
    have hb0 : ((i0 : Int) == -1) = false := by simp
    go_enter Tryd.func52, Tryd.ntmps52
    go_wp2_with (go_at_call 75; refine (index1_any w0 _ _ cap l tx bx _ H.out hc hb).mono ?_; rw [hix]; rintro e w' ⟨rfl, rfl⟩)
    go_loopw [5, 6, 7] (fun u c _ wr => ∃ (i j : Nat) (cur : List Int), u = .int .i64 i ∧ c = .int .i64 j ∧ i < j ∧ j ≤ l.length ∧ cur.length = l.length ∧ Hid (cur.take i = strike (l.take j) tx ∧ cur.drop j = l.drop j) ∧
      S w0 wr (sl 3 1 (.slice (some ⟨g, og, none⟩) l.length cap) l.length (icells cur) :: blk bx 3 [.int .i64 tx] :: L)) (fun _ c _ _ => l.length - (intOf c).toNat)
    case atStart => exact ⟨i0, i0 + 1, l, rfl, by go_num, by omega, by omega, rfl, ⟨HS.out.symm, rfl⟩, H.out⟩
    case round =>
      obtain ⟨i, j, cur, rfl, rfl, hij, hj, hlen, hcur, hsr⟩ := hrel
      clear hc
      have hc := hsr.swap.blk_cell 0 rfl
      by_cases hlt : j < l.length
      · have hp : l[j]? = some l[j] := by simp [hlt]
        generalize l[j] = p at hp
        have hpc : cur[j]? = some p := by
          have := congrArg (fun x => x[0]?) hcur.out.2
          simpa [hp] using this
        have hnth := take_succ_get hp
        obtain ⟨hc1, hc2⟩ := hcur.out
        have hstk : strike (l.take (j + 1)) tx = if p = tx then strike (l.take j) tx else strike (l.take j) tx ++ [p] := by rw [hnth, strike_snoc]
        have hdrop : cur.drop (j + 1) = l.drop (j + 1) := by
          have := congrArg (fun x => x.drop 1) hc2
          simpa [List.drop_drop] using this
        obtain ⟨gx, ox, hg0, _, d1⟩ := hsr.sl_int (a := some ⟨g, og, none⟩) hpc
        obtain ⟨rfl, rfl⟩ : g = gx ∧ og = ox := by simpa using hg0
        have hlen2 : (icells cur).length = l.length := by rw [icells_length]; exact hlen
        by_cases hx : p = tx
        · subst hx
          have hbe : (p == p) = true := by simp
          have hfin : cur.take i = strike (l.take (j + 1)) p ∧ cur.drop (j + 1) = l.drop (j + 1) := ⟨by rw [hstk, if_pos rfl]; exact hc1, hdrop⟩
          have HF := hid hfin; have HR := hid hsr
          have HL := hid hlen
          clear hfin hsr hc1 hc2 hdrop hstk hlen2 hnth hpc hp hcur hlen hg0
          go_wp2_with (go_at_call 53; refine (drop1_any _ _ _ _ hc).mono ?_; rintro e w' ⟨rfl, rfl⟩)
          go_roundw
          case rel => exact ⟨i, j + 1, cur, rfl, by go_num, by omega, by omega, HL.out, HF, HR.out⟩
          case measure => simp [intOf]; omega
        · have hbe : (p == tx) = false := by simp [hx]
          have hfin : (cur.set i p).take (i + 1) = strike (l.take (j + 1)) tx ∧ (cur.set i p).drop (j + 1) = l.drop (j + 1) := by
            refine ⟨?_, ?_⟩
            · rw [hstk, if_neg hx, ← hc1, take_succ_get (show (cur.set i p)[i]? = some p from List.getElem?_set_self (by omega)), List.take_set_of_le (by omega)]
            · rw [List.drop_set_of_lt (by omega)]; exact hdrop
          have hset := hsr.sl_set rfl i (by omega) (.int .i64 p)
          have hset2 : (icells cur).set i (.int .i64 p) = icells (cur.set i p) := by simp [icells, List.map_set]
          rw [hset2] at hset
          obtain ⟨gy, oy, _, hg1, _, _, _, _, hd0, hf0⟩ := hsr.sl_some (by omega)
          obtain ⟨⟨rfl, rfl⟩, -⟩ : (g = gy ∧ og = oy) ∧ _ := by simpa using hg1
          have c0 := hd0 i _ (List.getElem?_eq_getElem (by omega))
          have f0 := hf0 (og + i)
          generalize (icells cur)[i]'(by omega) = u0 at c0
          have HF := hid hfin; have HR := hid hset
          have HL : Hid ((cur.set i p).length = l.length) := hid (by rw [List.length_set]; exact hlen)
          clear hfin hset hset2 hsr hc1 hc2 hdrop hstk hlen2 hnth hpc hp hcur hlen hg0 hg1 hd0 hf0
          go_wp2_with (go_at_call 53; refine (drop1_any _ _ _ _ hc).mono ?_; rintro e w' ⟨rfl, rfl⟩)
          go_roundw
          case rel => exact ⟨i + 1, j + 1, cur.set i p, by go_num, by go_num, by omega, by omega, HL.out, HF, HR.out⟩
          case measure => simp [intOf]; omega
      · have hjl : j = l.length := by omega
        subst hjl
        obtain ⟨hc1, _⟩ := hcur.out
        rw [List.take_length] at hc1
        have hil : i ≤ l.length := by omega
        have hcl : ∀ ty, (Builtin.clear_ #[41] ty #[.slice (some ⟨g, og + i, none⟩) (l.length - i) (cap - i)]).run Tryd.prog wr = .ok (.tuple #[]) (wr.setCells g (og + i) (List.replicate (l.length - i) (.int .i64 0))) := by
          intro ty
          obtain ⟨gy, oy, _, hg1, _, _, _, _, hd0, hf0⟩ := hsr.sl_some (by rw [icells_length]; omega)
          obtain ⟨⟨rfl, rfl⟩, -⟩ : (g = gy ∧ og = oy) ∧ _ := by simpa using hg1
          refine Lib.run_clear_slice wr _ _ ty _ Tryd.underlying41 Tryd.zero_int rfl rfl g (og + i) _ _ (by omega) (fun j hj => ?_) (fun j hj => hf0 _)
          have : i + j < (icells cur).length := by rw [icells_length]; omega
          rw [Nat.add_assoc, hd0 (i + j) _ (List.getElem?_eq_getElem this)]
          rfl
        have hfin : S w0 (wr.setCells g (og + i) (List.replicate (l.length - i) (.int .i64 0))) (sl 3 1 (.slice (some ⟨g, og, none⟩) i cap) i (icells (strike l tx)) :: blk bx 3 [.int .i64 tx] :: L) := by
          have h1 := hsr.sl_setCells (List.replicate (l.length - i) (.int .i64 0)) i (by rw [icells_length, List.length_replicate]; omega)
          have h2 := h1.sl_take i hil
          rw [← hc1]
          rw [Nat.mul_one, List.append_assoc, List.take_left' (by rw [List.length_take, icells_length]; omega)] at h2
          have e : icells (cur.take i) = (icells cur).take i := by simp [icells, List.map_take]
          rw [e]; exact h2
        have hsl : (strike l tx).length = i := by rw [← hc1, List.length_take]; omega
        have HF := hid hfin; have HS2 := hid hsl
        have hcp := hsr.sl_val
        obtain ⟨_, _, hv, hcap, hcap2, _⟩ := hcp
        obtain ⟨-, rfl⟩ : _ ∧ cap = _ := by simpa using hv
        unfold maxLen at hcap2
        clear hfin hsl hsr hc1 hcur hlen hv
        go_wp2_with fail
        go_ret
        exact ⟨_, rfl, by rw [HS2.out]; exact HF.out⟩
end Go.Proofs.YtbcoddibdipjkaaDoor
