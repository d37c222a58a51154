/- The program's table of locks: who asks. -/
import Derived.Test.YtbcoddibdipjkaaDoorLockL
namespace Go.Proofs.YtbcoddibdipjkaaDoor
open Go Go.RowKit Go.Sep

def errV (e : Int) : Value := if e = 0 then .nilIface else .iface 44 (.int .i64 e)
def AskPost (w0 : World) (b o : Nat) (t : Tbl) (tx key : Int) (c : Bool) (L : List HProp) (e : Ending) (w' : World) : Prop :=
  e = .returned (.tuple #[.bool (tbAsk t tx key c).2.1, errV (tbAsk t tx key c).2.2]) ∧ S w0 w' (tabP 3 b o (tbAsk t tx key c).1 :: L)

set_option maxRecDepth 20000 in
set_option maxHeartbeats 4000000 in
theorem task_any (w0 w : World) (b o : Nat) (t : Tbl) (tx key : Int) (r : Int → Nat) (c : Bool) (L : List HProp) (hs : S w0 w (tabP 3 b o t :: L)) (hr : Ranked t r)
    (hch : ∀ h, mget t.hold key = some h → ∃ n, chase t tx n h = some c) (hb : (lineAt t key).length ≤ 1000000) :
    Calls Tryd.prog 18 #[.pointer (some ⟨b, o, none⟩), .int .i64 tx, .int .i64 key] w (AskPost w0 b o t tx key c L) := by
  by_cases h1 : key < 0
  · have H := hid hs; clear hs hr hch hb
    go_enter Tryd.func18, Tryd.ntmps18
    go_wp2_with fail
    go_ret2
    have ha : tbAsk t tx key c = (t, false, 2) := if_pos (by omega)
    exact ⟨by rw [ha]; rfl, by rw [ha]; exact H.out⟩
  by_cases h2 : 10 ≤ key
  · have H := hid hs; clear hs hr hch hb
    go_enter Tryd.func18, Tryd.ntmps18
    go_wp2_with fail
    go_ret2
    have ha : tbAsk t tx key c = (t, false, 2) := if_pos (by omega)
    exact ⟨by rw [ha]; rfl, by rw [ha]; exact H.out⟩
  by_cases h3 : tx < 1
  · have H := hid hs; clear hs hr hch hb
    go_enter Tryd.func18, Tryd.ntmps18
    go_wp2_with fail
    go_ret2
    have ha : tbAsk t tx key c = (t, false, 2) := if_pos (by omega)
    exact ⟨by rw [ha]; rfl, by rw [ha]; exact H.out⟩
  have hno : ¬ (key < 0 ∨ 10 ≤ key ∨ tx < 1) := by omega
  have HN := hid hno
  clear hno
  have H := hid hs; have HR := hid hr; have HC := hid hch
  clear hs hr hch
  go_enter Tryd.func18, Tryd.ntmps18
  go_wp2_with fail
  with_reducible refine (tbegin_any w0 _ _ b o t L H.out).mono ?_
  rintro e w1 ⟨rfl, bh, bl, bb, E, hs1⟩
  have H1 := hid hs1
  obtain ⟨c0, c1, c2, m0, m2, _⟩ := hs1.tab_see
  have l2 := Tryd.look2 m2 tx
  clear H
  cases hw : mget t.wait tx with
  | some kk =>
    rw [hw] at l2
    simp only [Option.getD_some, Option.isSome_some] at l2
    clear hs1 m0 m2 c0 c1 HR HC
    go_wp2_with fail
    go_ret2
    have ha : tbAsk t tx key c = (t, false, 6) := by unfold tbAsk; rw [if_neg HN.out, hw]; rfl
    exact ⟨by rw [ha]; rfl, by rw [ha]; exact H1.out.tab_made⟩
  | none =>
    rw [hw] at l2
    simp only [Option.getD_none, Option.isSome_none] at l2
    have l0 := Tryd.look2 m0 key
    cases hh : mget t.hold key with
    | none =>
      rw [hh] at l0
      simp only [Option.getD_none, Option.isSome_none] at l0
      obtain ⟨w2, u2, hs2⟩ := hs1.tab_hold_put Tryd.keyInt Tryd.underlying48 key tx
      simp only [encI] at u2
      have H2 := hid hs2
      clear hs1 hs2 m0 m2 c1 HR HC
      go_wp2_with fail
      go_ret2
      have ha : tbAsk t tx key c = ({ t with hold := mput t.hold key tx }, true, 0) := by unfold tbAsk; rw [if_neg HN.out, hw, hh]; rfl
      exact ⟨by rw [ha]; rfl, by rw [ha]; exact H2.out.tab_made⟩
    | some h =>
      rw [hh] at l0
      simp only [Option.getD_some, Option.isSome_some] at l0
      by_cases hx : h = tx
      · subst hx
        clear hs1 m0 m2 c1 HR HC
        go_wp2_with fail
        go_ret2
        have ha : tbAsk t h key c = (t, true, 0) := by unfold tbAsk; rw [if_neg HN.out, hw, hh]; exact if_pos rfl
        exact ⟨by rw [ha]; rfl, by rw [ha]; exact H1.out.tab_made⟩
      · obtain ⟨n0, hn0⟩ := HC.out h hh
        have lk2 := fun x => Tryd.look2 m2 x
        have lk0 := fun k => Tryd.look1 m0 k
        have HN0 := hid hn0
        clear hs1 m0 m2 HC hn0
        go_wp2_with fail
        go_loopw [12] (fun x wr => ∃ (n : Nat) (y : Int), x = .int .i64 y ∧ Hid (chase t tx n y = some c) ∧ wr = w1) (fun x _ => r (intOf x))
        case atStart => exact ⟨n0, h, rfl, HN0, rfl⟩
        case round =>
          obtain ⟨n, y, rfl, hn, rfl⟩ := hrel
          cases n with
          | zero => exact absurd hn.out (by simp [chase])
          | succ n =>
            by_cases hy : y = tx
            · subst hy
              have hc : c = true := by have := hn.out; unfold chase at this; rw [if_pos rfl] at this; exact (Option.some.inj this).symm
              subst hc
              go_wp2_with fail
              go_ret2
              have ha : tbAsk t y key true = (t, false, 11) := by unfold tbAsk; rw [if_neg HN.out, hw, hh]; show (if h = y then _ else _) = _; rw [if_neg hx]; rfl
              exact ⟨by rw [ha]; rfl, by rw [ha]; exact H1.out.tab_made⟩
            · cases hwy : mget t.wait y with
              | some k =>
                have hn2 : chase t tx n ((mget t.hold k).getD 0) = some c := by have := hn.out; unfold chase at this; rw [if_neg hy, hwy] at this; exact this
                have hrk := HR.out y k hwy
                have hl := lk2 y
                rw [hwy] at hl
                simp only [Option.getD_some, Option.isSome_some] at hl
                have hl0 := lk0 k
                have HN2 := hid hn2
                clear hn2 hn lk2 lk0 hwy
                go_wp2_with fail
                go_roundw
                case rel => exact ⟨n, _, rfl, HN2, trivial⟩
                case measure => simpa [intOf] using hrk
              | none =>
                have hc : c = false := by have := hn.out; unfold chase at this; rw [if_neg hy, hwy] at this; exact (Option.some.inj this).symm
                subst hc
                have hl := lk2 y
                rw [hwy] at hl
                simp only [Option.getD_none, Option.isSome_none] at hl
                obtain ⟨w2, u2, hs2⟩ := H1.out.tab_wait_put Tryd.keyInt Tryd.underlying48 tx key
                simp only [encI] at u2
                obtain ⟨hp, _⟩ := hs2.tab_parts
                have hx3 := line_of hp key
                have hk := hs2.tab_line key
                rw [hx3] at hk
                have hsee := hk.drew.swap.tabX_see
                have d1 := hk.swap.tabX_see.2.1
                have hlt := World.block_lt_of_cell? w2 _ d1
                have lA := Tryd.lookL hsee.2.2.2.2.2 key
                obtain ⟨i0, hi0, hz0, hz1, hz2⟩ := info_parts Tryd.info3
                have hs3 : S w0 (w2.alloc (.cells #[.int .i64 tx] 3)).drew (blk w2.heap.size 3 [.int .i64 tx] :: sl 3 1 (lineOf E key).1 (lineAt t key).length (icells (lineAt t key)) :: tabX 3 b o bh bl bb E key { t with wait := mput t.wait tx key } :: L) := by
                  have h5 := (hk.alloc #[.int .i64 tx] 3).drew
                  simpa [lineAt] using h5
                have hn3 := news_blk hs3
                have hs4 := hs3.tail
                have hsee2 := hs4.swap.tabX_see
                have lA2 := Tryd.lookL hsee2.2.2.2.2.2 key
                have H3 := hid hs4; have H4 := hid hn3
                have hil := icells_length (lineAt t key)
                have HL := hid hil
                clear hs2 hk hsee hp HR HN0 lk2 lk0 l0 l2 c0 hs3 hs4 hn3 hsee2 hil
                go_wp2_with fail
                clear c1 c2 hl u2
                go_region_law (refine step_append rfl (.tmp 99) (.tmp 101) 41 rfl 3 i0 _ 1 8 Tryd.underlying41 hi0 hz0 hz1 hz2 rfl (by decide) H3.out rfl (some ⟨w2.heap.size, 0, none⟩) 1 1 [.int .i64 tx] rfl rfl H4.out (by simp [Value.oneCell']) (by unfold maxLen; omega) (by omega) ?_; intro v1 w1 hs1; obtain ⟨_, c9, _⟩ := hs1.swap.tabX_see; obtain ⟨w3, u3, hs5⟩ := S.tabX_put Tryd.keyInt Tryd.underlying49 (k := key) (v := v1) (l := lineAt t key ++ [tx]) (by simpa [icells] using hs1); simp only [encI] at u3; have HS := hid hs5; clear hs1 hs5)
                all_goals
                  go_wp2_with fail
                  go_ret2
                  have ha : tbAsk t tx key false = ({ t with wait := mput t.wait tx key, line := mput t.line key (lineAt t key ++ [tx]) }, false, 0) := by unfold tbAsk; rw [if_neg HN.out, hw, hh]; show (if h = tx then _ else _) = _; rw [if_neg hx]; rfl
                  exact ⟨by rw [ha]; rfl, by rw [ha]; exact HS.out.tab_made⟩
end Go.Proofs.YtbcoddibdipjkaaDoor
