/- plain.Place, of whatever error; what the laws ask of two errors. -/
import Derived.Test.YthdiphfbjlooaaaDoorTellAt
namespace Go.Sep
/-- Where an error is (-1: nowhere). -/
def Err.place : Err → Int
  | .nil => -1
  | .no _ => -1
  | .at_ _ p => p
end Go.Sep
namespace Go.Proofs.YthdiphfbjlooaaaDoor
open Go Go.RowKit Go.Sep Go.Stop

theorem Tryd.noUnwrap (v : Value) (w : World) : (Instr.typeAssert (.iface 44 v) 34 151 true).run Tryd.prog w = .ok (.tuple #[.nilIface, .bool false]) w :=
  run_typeAssert_lacksB Tryd.underlying151 (by kernel_rfl) (by kernel_rfl) v 34 w

theorem Tryd.atNo (v : Value) (w : World) : (Instr.typeAssert (.iface 44 v) 34 105 true).run Tryd.prog w = .ok (.tuple #[.pointer none, .bool false]) w := by kernel_rfl
theorem Tryd.atYes (p : Option Addr) (w : World) : (Instr.typeAssert (.iface 105 (.pointer p)) 34 105 true).run Tryd.prog w = .ok (.tuple #[.pointer p, .bool true]) w := by kernel_rfl

set_option maxRecDepth 20000 in
set_option maxHeartbeats 1000000 in
theorem place_any (x : Err) (v : Value) (w0 w : World) (L : List HProp) (hE : ErrT w0) (hs : S w0 w (errP 44 106 105 v x :: L)) :
    Calls Tryd.prog 63 #[v] w fun ev w' => ev = .returned (.tuple #[.int .i64 (Err.errno x), .int .i64 (Err.place x)]) ∧ S w0 w' (errP 44 106 105 v x :: L) := by
  have hcall := tell_any x v w0 w L hE hs
  have HC := hid hcall
  have nU := Tryd.noUnwrap
  have aN := Tryd.atNo
  have aY := Tryd.atYes
  clear hcall
  cases x with
  | nil =>
    obtain ⟨rfl, _⟩ := S.pur_elim hs
    clear hs
    go_enter Tryd.func63, Tryd.ntmps63
    go_wp2_with fail
    with_reducible refine HC.out.mono ?_
    rintro e w1 ⟨rfl, hs1⟩
    have H1 := hid hs1
    clear hs1 HC
    go_wp2_with fail
    refine wp_loop_rounds 1 ?_
    rw [rounds_succ]
    go_wp2_with fail
    go_ret2
    exact ⟨rfl, H1.out⟩
  | no e =>
    obtain ⟨rfl, _⟩ := S.pur_elim hs
    clear hs
    go_enter Tryd.func63, Tryd.ntmps63
    go_wp2_with fail
    with_reducible refine HC.out.mono ?_
    rintro e w1 ⟨rfl, hs1⟩
    have H1 := hid hs1
    clear hs1 HC
    go_wp2_with fail
    refine wp_loop_rounds 1 ?_
    rw [rounds_succ]
    go_wp2_with fail
    go_ret2
    exact ⟨rfl, H1.out⟩
  | at_ e p =>
    obtain ⟨g, hs1⟩ := S.ex_elim hs
    obtain ⟨rfl, _⟩ := S.pur_elim (S.sep_elim hs1)
    clear hs hs1
    go_enter Tryd.func63, Tryd.ntmps63
    go_wp2_with fail
    with_reducible refine HC.out.mono ?_
    rintro e w1 ⟨rfl, hs1⟩
    obtain ⟨g', hs2⟩ := S.ex_elim hs1
    obtain ⟨hg, hs3⟩ := S.pur_elim (S.sep_elim hs2)
    obtain rfl : g = g' := by simpa using hg
    have d1 := hs3.blk_cell 1 rfl
    have H1 := hid hs1
    clear hs1 hs2 hs3 hg HC
    go_wp2_with fail
    refine wp_loop_rounds 1 ?_
    rw [rounds_succ]
    go_wp2_with fail
    go_region
    go_wp2_with fail
    go_ret2
    exact ⟨rfl, H1.out.drew⟩

/-- An error is this one, and where. -/
def isE (x : Err) (e p : Int) : Bool := decide (Err.errno x = e ∧ Err.place x = p)
set_option maxHeartbeats 1000000 in
theorem is_any (x : Err) (v : Value) (e p : Int) (w0 w : World) (L : List HProp) (hE : ErrT w0) (hs : S w0 w (errP 44 106 105 v x :: L)) :
    Calls Tryd.prog 29 #[v, .agg #[.int .i64 e, .int .i64 p]] w fun ev w' => ev = .returned (.bool (isE x e p)) ∧ S w0 w' (errP 44 106 105 v x :: L) := by
  have hs1 := (hs.alloc #[.int .i64 e, .int .i64 p] 79)
  have hcall := place_any x v w0 _ _ hE hs1.swap
  have HC := hid hcall
  clear hcall hs hs1
  unfold isE
  by_cases h1 : Err.errno x = e
  · subst h1
    by_cases h2 : Err.place x = p
    · subst h2
      go_enter Tryd.func29, Tryd.ntmps29
      go_wp2_with fail
      with_reducible refine HC.out.mono ?_
      rintro e w1 ⟨rfl, hs1⟩
      have d0 := hs1.swap.blk_cell 0 rfl
      have d1 := hs1.swap.blk_cell 1 rfl
      have H1 := hid hs1.swap.tail
      clear hs1 HC
      go_wp2_with fail
      go_ret
      exact ⟨by simp, H1.out⟩
    · have h2' : (Err.place x == p) = false := by simpa using h2
      go_enter Tryd.func29, Tryd.ntmps29
      go_wp2_with fail
      with_reducible refine HC.out.mono ?_
      rintro e w1 ⟨rfl, hs1⟩
      have d0 := hs1.swap.blk_cell 0 rfl
      have d1 := hs1.swap.blk_cell 1 rfl
      have H1 := hid hs1.swap.tail
      clear hs1 HC
      go_wp2_with fail
      go_ret
      exact ⟨by simp [h2], H1.out⟩
  · have h1' : (Err.errno x == e) = false := by simpa using h1
    go_enter Tryd.func29, Tryd.ntmps29
    go_wp2_with fail
    with_reducible refine HC.out.mono ?_
    rintro e w1 ⟨rfl, hs1⟩
    have d0 := hs1.swap.blk_cell 0 rfl
    have d1 := hs1.swap.blk_cell 1 rfl
    have H1 := hid hs1.swap.tail
    clear hs1 HC
    go_wp2_with fail
    go_ret
    exact ⟨by simp [h1], H1.out⟩

theorem Bare_any (e : Int) (w : World) : Calls Tryd.prog 64 #[.int .i64 e] w fun ev w' => ev = .returned (.agg #[.int .i64 e, .int .i64 (-1)]) ∧ Below w.heap.size w w' := by
  go_enter Tryd.func64, Tryd.ntmps64
  go_wp2
  exact bodyPost_ret (v := .agg #[.int .i64 e, .int .i64 (-1)]) (by simp [results, Tryd.results64, go_sem]) rfl ⟨rfl, (Below.refl _ _).alloc (Nat.le_refl _) _⟩
theorem in_any (n lo hi : Int) (w : World) : Calls Tryd.prog 65 #[.int .i64 n, .int .i64 lo, .int .i64 hi] w fun ev w' => ev = .returned (.bool (decide (lo ≤ n ∧ n ≤ hi))) ∧ w = w' := by
  by_cases h1 : lo ≤ n
  · by_cases h2 : n ≤ hi
    · go_enter Tryd.func65, Tryd.ntmps65
      go_wp2
      go_ret
      exact ⟨by simp [h1, h2], rfl⟩
    · go_enter Tryd.func65, Tryd.ntmps65
      go_wp2
      go_ret
      exact ⟨by rw [decide_eq_false (show ¬ n ≤ hi by omega)]; rfl, rfl⟩
  · go_enter Tryd.func65, Tryd.ntmps65
    go_wp2
    go_ret
    exact ⟨by rw [decide_eq_false (show ¬ lo ≤ n by omega)]; rfl, rfl⟩
theorem bare_any (x : Err) (v : Value) (e : Int) (w0 w : World) (L : List HProp) (hE : ErrT w0) (hs : S w0 w (errP 44 106 105 v x :: L)) :
    Calls Tryd.prog 34 #[v, .int .i64 e] w fun ev w' => ev = .returned (.bool (isE x e (-1))) ∧ S w0 w' (errP 44 106 105 v x :: L) := by
  have H := hid hs
  clear hs
  go_enter Tryd.func34, Tryd.ntmps34
  go_wp2_with fail
  with_reducible refine (Bare_any _ _).mono ?_
  rintro e w1 ⟨rfl, hb⟩
  have H1 := hid (H.out.onto hb)
  clear hb H
  go_wp2_with fail
  with_reducible refine (is_any x v _ _ w0 _ L hE H1.out).mono ?_
  rintro e w1 ⟨rfl, hs1⟩
  have H2 := hid hs1
  clear hs1 H1
  go_wp2_with fail
  go_ret
  exact ⟨rfl, H2.out⟩
end Go.Proofs.YthdiphfbjlooaaaDoor
