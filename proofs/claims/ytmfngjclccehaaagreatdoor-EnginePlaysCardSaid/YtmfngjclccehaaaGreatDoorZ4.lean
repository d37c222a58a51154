/- The program's store: Many. -/
import Derived.Test.YtmfngjclccehaaaGreatDoorZ0
import Derived.Test.YtmfngjclccehaaaGreatDoorZ1
import Derived.Test.YtmfngjclccehaaaGreatDoorZ2
import Derived.Test.YtmfngjclccehaaaGreatDoorZ3
import Derived.Deep.RegionHeld
import Derived.WalkKit
/- Maps of whole numbers, and of slices: what a lookup gives. -/
namespace Go.Proofs.YtmfngjclccehaaaGreatDoor
open Go Go.RowKit Go.Sep
theorem Tryz.zero_int (w : World) : (zeroValue 3).run Tryz.prog w = .ok (.int .i64 0) w := by kernel_rfl
theorem Tryz.zero_ints (w : World) : (zeroValue 48).run Tryz.prog w = .ok (.slice none 0 0) w := by kernel_rfl
theorem Tryz.keyInt : KeyOk Tryz.prog 3 encI (fun _ => True) := keyOk_int Tryz.underlying3
theorem getD_ienc (o : Option Int) : (o.map encI).getD (.int .i64 0) = .int .i64 (o.getD 0) := by cases o <;> rfl
theorem Tryz.look2 {w : World} {b : Nat} {D : List (Int × Int)} (h : MapAt encI (fun _ => True) w b (ienc D)) (k : Int) :
  (Instr.lookup 53 (.map (some b)) (.int .i64 k) true).run Tryz.prog w = .ok (.tuple #[.int .i64 ((mget D k).getD 0), .bool (mget D k).isSome]) w := by
 have := run_lookup_at Tryz.keyInt Tryz.underlying53 (Tryz.zero_int w) h k trivial true
 rw [ienc_get, getD_ienc] at this
 simpa [encI] using this
theorem Tryz.look1 {w : World} {b : Nat} {D : List (Int × Int)} (h : MapAt encI (fun _ => True) w b (ienc D)) (k : Int) :
  (Instr.lookup 53 (.map (some b)) (.int .i64 k) false).run Tryz.prog w = .ok (.int .i64 ((mget D k).getD 0)) w := by
 have := run_lookup_at Tryz.keyInt Tryz.underlying53 (Tryz.zero_int w) h k trivial false
 rw [ienc_get, getD_ienc] at this
 simpa [encI] using this
theorem Tryz.look2n (w : World) (k : Int) : (Instr.lookup 53 (.map none) (.int .i64 k) true).run Tryz.prog w = .ok (.tuple #[.int .i64 0, .bool false]) w := by
 have := run_lookup_nil Tryz.keyInt Tryz.underlying53 (Tryz.zero_int w) k trivial true
 simpa [encI] using this
theorem Tryz.look1n (w : World) (k : Int) : (Instr.lookup 53 (.map none) (.int .i64 k) false).run Tryz.prog w = .ok (.int .i64 0) w := by
 have := run_lookup_nil Tryz.keyInt Tryz.underlying53 (Tryz.zero_int w) k trivial false
 simpa [encI] using this
theorem Tryz.lookL {w : World} {b : Nat} {E : List (Int × (Value × List Int))} (h : MapAt encI (fun _ => True) w b (E.map fun p => (p.1, p.2.1))) (k : Int) :
  (Instr.lookup 62 (.map (some b)) (.int .i64 k) false).run Tryz.prog w = .ok (lineOf E k).1 w := by
 have := run_lookup_at Tryz.keyInt Tryz.underlying62 (Tryz.zero_ints w) h k trivial false
 rw [mget_map (fun x : Value × List Int => x.1)] at this
 have e : ((mget E k).map fun x => x.1).getD (.slice none 0 0) = (lineOf E k).1 := by unfold lineOf; cases mget E k <;> rfl
 rw [e] at this
 simpa [encI] using this
theorem ienc_perm {a b : List (Int × Int)} (h : (ienc a).Perm (ienc b)) : a.Perm b := by
 have := h.map fun p : Int × Value => (p.1, match p.2 with | .int _ n => n | _ => 0)
 simpa [ienc, List.map_map, Function.comp_def, Sep.encI] using this
theorem ienc_snoc (a : List (Int × Int)) (p : Int × Int) : ienc a ++ [(p.1, Sep.encI p.2)] = ienc (a ++ [p]) := by simp [ienc]
theorem ienc_mem {D : List (Int × Int)} {d : Int × Value} (h : d ∈ ienc D) : ∃ p ∈ D, d = (p.1, Sep.encI p.2) := by
 obtain ⟨p, hp, rfl⟩ := List.mem_map.1 h; exact ⟨p, hp, rfl⟩
end Go.Proofs.YtmfngjclccehaaaGreatDoor
/- The program's table of locks: the readers' walks. -/
namespace Go.Proofs.YtmfngjclccehaaaGreatDoor
open Go Go.RowKit Go.Sep
theorem tholds_any (w0 w : World) (T b o : Nat) (t : Tbl) (key : Int) (L : List HProp) (hs : S w0 w (tabP T b o t :: L)) :
  Calls Tryz.prog 75 #[.pointer (some ⟨b, o, none⟩), .int .i64 key] w fun e w' => e = .returned (.int .i64 ((mget t.hold key).getD 0)) ∧ w = w' := by
 rcases hs.tab_cases with h0 | ⟨bh, bl, bb, E, h⟩
 ·obtain ⟨rfl, h1⟩ := h0.tab0_cells
  have hc : w.cell? ⟨b, o + 0, none⟩ = some (.map none) := S.cells_cell (vs := [.map none, .map none, .map none]) h1 0 rfl
  rw [Nat.add_zero] at hc
  have hl := Tryz.look1n w key
  clear hs h0 h1
  go_enter Tryz.func75, Tryz.ntmps75
  go_wp2
  go_ret
  exact ⟨rfl, rfl⟩
 ·obtain ⟨hc, _, _, hm, _, _⟩ := h.tab_see
  have hl := Tryz.look1 hm key
  clear hs h hm
  go_enter Tryz.func75, Tryz.ntmps75
  go_wp2
  go_ret
  exact ⟨rfl, rfl⟩
theorem twaits_any (w0 w : World) (T b o : Nat) (t : Tbl) (x : Int) (L : List HProp) (hs : S w0 w (tabP T b o t :: L)) :
  Calls Tryz.prog 74 #[.pointer (some ⟨b, o, none⟩), .int .i64 x] w fun e w' => e = .returned (.int .i64 ((mget t.wait x).getD (-1))) ∧ w = w' := by
 rcases hs.tab_cases with h0 | ⟨bh, bl, bb, E, h⟩
 ·obtain ⟨rfl, h1⟩ := h0.tab0_cells
  have hc : w.cell? ⟨b, o + 2, none⟩ = some (.map none) := S.cells_cell (vs := [.map none, .map none, .map none]) h1 2 rfl
  have hl := Tryz.look2n w x
  clear hs h0 h1
  go_enter Tryz.func74, Tryz.ntmps74
  go_wp2
  go_ret
  exact ⟨rfl, rfl⟩
 ·obtain ⟨_, _, hc, _, hm, _⟩ := h.tab_see
  have hl := Tryz.look2 hm x
  clear hs h hm
  cases hg : mget t.wait x with
  | none =>
   rw [hg] at hl
   simp only [Option.getD_none, Option.isSome_none] at hl
   go_enter Tryz.func74, Tryz.ntmps74
   go_wp2
   go_ret
   exact ⟨rfl, rfl⟩
  | some y =>
   rw [hg] at hl
   simp only [Option.getD_some, Option.isSome_some] at hl
   go_enter Tryz.func74, Tryz.ntmps74
   go_wp2
   go_ret
   exact ⟨rfl, rfl⟩
set_option maxRecDepth 20000 in
set_option maxHeartbeats 4000000 in
theorem tbegin_any (w0 w : World) (T b o : Nat) (t : Tbl) (L : List HProp) (hs : S w0 w (tabP T b o t :: L)) :
  Calls Tryz.prog 84 #[.pointer (some ⟨b, o, none⟩)] w fun e w' => e = .returned (.tuple #[]) ∧ ∃ bh bl bb E, S w0 w' (tabM T b o bh bl bb E t :: L) := by
 have heq := fun w r => run_eql_map_nil (P := Tryz.prog) w 53 3 3 r Tryz.underlying53
 rcases hs.tab_cases with h0 | ⟨bh, bl, bb, E, h⟩
 ·obtain ⟨rfl, h1⟩ := h0.tab0_cells
  have s3 := (((h1.made (κ := Int) (enc := encI) (ok := fun _ => True)).made (κ := Int) (enc := encI) (ok := fun _ => True)).made (κ := Int) (enc := encI) (ok := fun _ => True)).rot4
  have c0 : w.cell? ⟨b, o + 0, none⟩ = some (.map none) := S.cells_cell (vs := [.map none, .map none, .map none]) h1 0 rfl
  have e : ∀ j < 3, ([.map none, .map none, .map none] : List Value)[j]? = some (.map none) := fun j hj => by match j, hj with | 0, _ => rfl | 1, _ => rfl | 2, _ => rfl
  have hc0 := And.intro (S.cells_cell (vs := [.map none, .map none, .map none]) s3 0 (e 0 (by omega))) (S.cells_free (vs := [.map none, .map none, .map none]) s3 0 (e 0 (by omega)))
  have hc1 := And.intro (S.cells_cell (vs := [.map none, .map none, .map none]) s3 1 (e 1 (by omega))) (S.cells_free (vs := [.map none, .map none, .map none]) s3 1 (e 1 (by omega)))
  have hc2 := And.intro (S.cells_cell (vs := [.map none, .map none, .map none]) s3 2 (e 2 (by omega))) (S.cells_free (vs := [.map none, .map none, .map none]) s3 2 (e 2 (by omega)))
  rw [Nat.add_zero] at hc0 c0
  obtain ⟨d0, f0⟩ := hc0
  obtain ⟨d1, f1⟩ := hc1
  obtain ⟨d2, f2⟩ := hc2
  have hmm := @run_makeMap Tryz.prog
  have hfs := World.frozen?_setCell
  have H := hid s3
  clear hs h0 h1 e s3
  go_enter Tryz.func84, Tryz.ntmps84
  go_wp2
  go_end0
  refine ⟨rfl, w.heap.size, w.heap.size + 1, w.heap.size + 1 + 1, [], ?_⟩
  have s4 := ((H.out.set 0 (by simp) (.map (some w.heap.size))).set 1 (by simp) (.map (some (w.heap.size + 1)))).set 2 (by simp) (.map (some (w.heap.size + 1 + 1)))
  simp only [List.set_cons_zero, List.set_cons_succ, Nat.add_zero, World.size_alloc] at s4
  refine S.tab_join rfl (s4.conv ?_)
  simp only [ienc, List.map_nil, all, emp_sep]
  rw [sep_left_comm (mp _ _ (w.heap.size + 1) _) (mp _ _ w.heap.size _), sep_left_comm (mp _ _ (w.heap.size + 1 + 1) _) (mp _ _ w.heap.size _)]
 ·obtain ⟨hc, _, _, _, _, _⟩ := h.tab_see
  clear hs
  have H := hid h
  clear h
  go_enter Tryz.func84, Tryz.ntmps84
  go_wp2
  go_end0
  exact ⟨rfl, bh, bl, bb, E, H.out⟩
theorem line_of {E : List (Int × (Value × List Int))} {t : Tbl} (h : E.map (fun p => (p.1, p.2.2)) = t.line) (k : Int) : (lineOf E k).2 = (mget t.line k).getD [] := by
 rw [← h, mget_map (fun x : Value × List Int => x.2)]
 unfold lineOf
 cases mget E k <;> rfl
end Go.Proofs.YtmfngjclccehaaaGreatDoor
/- The program's table of locks: who asks. -/
namespace Go.Proofs.YtmfngjclccehaaaGreatDoor
open Go Go.RowKit Go.Sep
def errV (e : Int) : Value := if e = 0 then .nilIface else .iface 25 (.int .i64 e)
def AskPost (w0 : World) (b o : Nat) (t : Tbl) (tx key : Int) (c : Bool) (L : List HProp) (e : Ending) (w' : World) : Prop :=
 e = .returned (.tuple #[.bool (tbAsk t tx key c).2.1, errV (tbAsk t tx key c).2.2]) ∧ S w0 w' (tabP 3 b o (tbAsk t tx key c).1 :: L)
set_option maxRecDepth 20000 in
set_option maxHeartbeats 4000000 in
theorem task_any (w0 w : World) (b o : Nat) (t : Tbl) (tx key : Int) (r : Int → Nat) (c : Bool) (L : List HProp) (hs : S w0 w (tabP 3 b o t :: L)) (hr : Ranked t r)
  (hch : ∀ h, mget t.hold key = some h → ∃ n, chase t tx n h = some c) (hb : (lineAt t key).length ≤ 1000000) :
  Calls Tryz.prog 61 #[.pointer (some ⟨b, o, none⟩), .int .i64 tx, .int .i64 key] w (AskPost w0 b o t tx key c L) := by
 by_cases h1 : key < 0
 ·have H := hid hs; clear hs hr hch hb
  go_enter Tryz.func61, Tryz.ntmps61
  go_wp2_with fail
  go_ret2
  have ha : tbAsk t tx key c = (t, false, 2) := if_pos (by omega)
  exact ⟨by rw [ha]; rfl, by rw [ha]; exact H.out⟩
 by_cases h2 : 10 ≤ key
 ·have H := hid hs; clear hs hr hch hb
  go_enter Tryz.func61, Tryz.ntmps61
  go_wp2_with fail
  go_ret2
  have ha : tbAsk t tx key c = (t, false, 2) := if_pos (by omega)
  exact ⟨by rw [ha]; rfl, by rw [ha]; exact H.out⟩
 by_cases h3 : tx < 1
 ·have H := hid hs; clear hs hr hch hb
  go_enter Tryz.func61, Tryz.ntmps61
  go_wp2_with fail
  go_ret2
  have ha : tbAsk t tx key c = (t, false, 2) := if_pos (by omega)
  exact ⟨by rw [ha]; rfl, by rw [ha]; exact H.out⟩
 have hno : ¬ (key < 0 ∨ 10 ≤ key ∨ tx < 1) := by omega
 have HN := hid hno
 clear hno
 have H := hid hs; have HR := hid hr; have HC := hid hch
 clear hs hr hch
 go_enter Tryz.func61, Tryz.ntmps61
 go_wp2_with fail
 with_reducible refine (tbegin_any w0 _ _ b o t L H.out).mono ?_
 rintro e w1 ⟨rfl, bh, bl, bb, E, hs1⟩
 have H1 := hid hs1
 obtain ⟨c0, c1, c2, m0, m2, _⟩ := hs1.tab_see
 have l2 := Tryz.look2 m2 tx
 clear H
 cases hw : mget t.wait tx with
 | some kk =>
  rw [hw] at l2
  simp only [Option.getD_some, Option.isSome_some] at l2
  clear hs1 m0 m2 c0 c1 HR HC
  go_wp2_with fail
  go_ret2
  have ha : tbAsk t tx key c = (t, false, 6) := by unfold tbAsk; rw [if_neg HN.out, hw]; rfl
  exact ⟨by rw [ha]; rfl, by rw [ha]; exact H1.out.tab_made⟩
 | none =>
  rw [hw] at l2
  simp only [Option.getD_none, Option.isSome_none] at l2
  have l0 := Tryz.look2 m0 key
  cases hh : mget t.hold key with
  | none =>
   rw [hh] at l0
   simp only [Option.getD_none, Option.isSome_none] at l0
   obtain ⟨w2, u2, hs2⟩ := hs1.tab_hold_put Tryz.keyInt Tryz.underlying53 key tx
   simp only [encI] at u2
   have H2 := hid hs2
   clear hs1 hs2 m0 m2 c1 HR HC
   go_wp2_with fail
   go_ret2
   have ha : tbAsk t tx key c = ({ t with hold := mput t.hold key tx }, true, 0) := by unfold tbAsk; rw [if_neg HN.out, hw, hh]; rfl
   exact ⟨by rw [ha]; rfl, by rw [ha]; exact H2.out.tab_made⟩
  | some h =>
   rw [hh] at l0
   simp only [Option.getD_some, Option.isSome_some] at l0
   by_cases hx : h = tx
   ·subst hx
    clear hs1 m0 m2 c1 HR HC
    go_wp2_with fail
    go_ret2
    have ha : tbAsk t h key c = (t, true, 0) := by unfold tbAsk; rw [if_neg HN.out, hw, hh]; exact if_pos rfl
    exact ⟨by rw [ha]; rfl, by rw [ha]; exact H1.out.tab_made⟩
   ·obtain ⟨n0, hn0⟩ := HC.out h hh
    have lk2 := fun x => Tryz.look2 m2 x
    have lk0 := fun k => Tryz.look1 m0 k
    have HN0 := hid hn0
    clear hs1 m0 m2 HC hn0
    go_wp2_with fail
    go_loopw [12] (fun x wr => ∃ (n : Nat) (y : Int), x = .int .i64 y ∧ Hid (chase t tx n y = some c) ∧ wr = w1) (fun x _ => r (intOf x))
    case atStart => exact ⟨n0, h, rfl, HN0, rfl⟩
    case round =>
     obtain ⟨n, y, rfl, hn, rfl⟩ := hrel
     cases n with
     | zero => exact absurd hn.out (by simp [chase])
     | succ n =>
      by_cases hy : y = tx
      ·subst hy
       have hc : c = true := by have := hn.out; unfold chase at this; rw [if_pos rfl] at this; exact (Option.some.inj this).symm
       subst hc
       go_wp2_with fail
       go_ret2
       have ha : tbAsk t y key true = (t, false, 11) := by unfold tbAsk; rw [if_neg HN.out, hw, hh]; show (if h = y then _ else _) = _; rw [if_neg hx]; rfl
       exact ⟨by rw [ha]; rfl, by rw [ha]; exact H1.out.tab_made⟩
      ·cases hwy : mget t.wait y with
       | some k =>
        have hn2 : chase t tx n ((mget t.hold k).getD 0) = some c := by have := hn.out; unfold chase at this; rw [if_neg hy, hwy] at this; exact this
        have hrk := HR.out y k hwy
        have hl := lk2 y
        rw [hwy] at hl
        simp only [Option.getD_some, Option.isSome_some] at hl
        have hl0 := lk0 k
        have HN2 := hid hn2
        clear hn2 hn lk2 lk0 hwy
        go_wp2_with fail
        go_roundw
        case rel => exact ⟨n, _, rfl, HN2, trivial⟩
        case measure => simpa [intOf] using hrk
       | none =>
        have hc : c = false := by have := hn.out; unfold chase at this; rw [if_neg hy, hwy] at this; exact (Option.some.inj this).symm
        subst hc
        have hl := lk2 y
        rw [hwy] at hl
        simp only [Option.getD_none, Option.isSome_none] at hl
        obtain ⟨w2, u2, hs2⟩ := H1.out.tab_wait_put Tryz.keyInt Tryz.underlying53 tx key
        simp only [encI] at u2
        obtain ⟨hp, _⟩ := hs2.tab_parts
        have hx3 := line_of hp key
        have hk := hs2.tab_line key
        rw [hx3] at hk
        have hsee := hk.drew.swap.tabX_see
        have d1 := hk.swap.tabX_see.2.1
        have hlt := World.block_lt_of_cell? w2 _ d1
        have lA := Tryz.lookL hsee.2.2.2.2.2 key
        obtain ⟨i0, hi0, hz0, hz1, hz2⟩ := info_parts Tryz.info3
        have hs3 : S w0 (w2.alloc (.cells #[.int .i64 tx] 3)).drew (blk w2.heap.size 3 [.int .i64 tx] :: sl 3 1 (lineOf E key).1 (lineAt t key).length (icells (lineAt t key)) :: tabX 3 b o bh bl bb E key { t with wait := mput t.wait tx key } :: L) := by
         have h5 := (hk.alloc #[.int .i64 tx] 3).drew
         simpa [lineAt] using h5
        have hn3 := news_blk hs3
        have hs4 := hs3.tail
        have hsee2 := hs4.swap.tabX_see
        have lA2 := Tryz.lookL hsee2.2.2.2.2.2 key
        have H3 := hid hs4; have H4 := hid hn3
        have hil := icells_length (lineAt t key)
        have HL := hid hil
        clear hs2 hk hsee hp HR HN0 lk2 lk0 l0 l2 c0 hs3 hs4 hn3 hsee2 hil
        go_wp2_with fail
        clear c1 c2 hl u2
        go_region_law (refine step_append rfl (.tmp 99) (.tmp 101) 48 rfl 3 i0 _ 1 8 Tryz.underlying48 hi0 hz0 hz1 hz2 rfl (by decide) H3.out rfl (some ⟨w2.heap.size, 0, none⟩) 1 1 [.int .i64 tx] rfl rfl H4.out (by simp [Value.oneCell']) (by unfold maxLen; omega) (by omega) ?_; intro v1 w1 hs1; obtain ⟨_, c9, _⟩ := hs1.swap.tabX_see; obtain ⟨w3, u3, hs5⟩ := S.tabX_put Tryz.keyInt Tryz.underlying62 (k := key) (v := v1) (l := lineAt t key ++ [tx]) (by simpa [icells] using hs1); simp only [encI] at u3; have HS := hid hs5; clear hs1 hs5)
        all_goals
         go_wp2_with fail
         go_ret2
         have ha : tbAsk t tx key false = ({ t with wait := mput t.wait tx key, line := mput t.line key (lineAt t key ++ [tx]) }, false, 0) := by unfold tbAsk; rw [if_neg HN.out, hw, hh]; show (if h = tx then _ else _) = _; rw [if_neg hx]; rfl
         exact ⟨by rw [ha]; rfl, by rw [ha]; exact HS.out.tab_made⟩
end Go.Proofs.YtmfngjclccehaaaGreatDoor
/- The program's table of locks: one is struck from a line. -/
namespace Go.Proofs.YtmfngjclccehaaaGreatDoor
open Go Go.RowKit Go.Sep
theorem drop1_any (x tx : Int) (bx : Nat) (w : World) (hc : w.cell? ⟨bx, 0, none⟩ = some (.int .i64 tx)) :
  Calls Tryz.prog 102 #[.int .i64 x, .pointer (some ⟨bx, 0, none⟩)] w fun e w' => e = .returned (.bool (x == tx)) ∧ w = w' := by
 go_enter Tryz.func102, Tryz.ntmps102
 go_wp2
 go_ret
 exact ⟨rfl, rfl⟩
abbrev dropF (bx : Nat) : Value := .func (.func 102) #[] #[.pointer (some ⟨bx, 0, none⟩)]
def ixOf (l : List Int) (tx : Int) : Int := match l.findIdx? (fun x => x == tx) with | some i => (i : Int) | none => -1
set_option maxRecDepth 20000 in
theorem index1_any (w0 w : World) (a : Option Addr) (cap : Nat) (l : List Int) (tx : Int) (bx : Nat) (L : List HProp) (hs : S w0 w (sl 3 1 (.slice a l.length cap) l.length (icells l) :: L)) (hc : w.cell? ⟨bx, 0, none⟩ = some (.int .i64 tx)) (hb : l.length ≤ 1000000) :
  Calls Tryz.prog 110 #[.slice a l.length cap, dropF bx] w fun e w' => e = .returned (.int .i64 (ixOf l tx)) ∧ w = w' := by
 have H := hid hs
 clear hs
 go_enter Tryz.func110, Tryz.ntmps110
 go_wp2_with fail
 go_loopw [8] (fun x wr => ∃ i : Nat, i ≤ l.length ∧ x = .int .i64 i ∧ (∀ j < i, l[j]? ≠ some tx) ∧ wr = w) (fun x _ => l.length - (intOf x).toNat)
 case atStart => exact ⟨0, Nat.zero_le _, rfl, fun _ h => absurd h (Nat.not_lt_zero _), rfl⟩
 case round =>
  obtain ⟨i, hi, rfl, hno, rfl⟩ := hrel
  by_cases hlt : i < l.length
  ·have hp : l[i]? = some l[i] := by simp [hlt]
   generalize l[i] = p at hp
   obtain ⟨g, og, rfl, hg, c1⟩ := H.out.sl_int hp
   have HP := hid hp
   have HN := hid hno
   clear hp hno
   by_cases hx : p = tx
   ·subst hx
    have hbe : (p == p) = true := by simp
    go_wp2_with (go_at_call 102; refine (drop1_any _ _ _ _ hc).mono ?_; rintro e w' ⟨rfl, rfl⟩)
    go_ret
    have hi2 : ixOf l p = i := by
     unfold ixOf
     have : l.findIdx? (fun x => x == p) = some i := by
      rw [List.findIdx?_eq_some_iff_getElem]
      refine ⟨hlt, ?_, fun j hj => ?_⟩
      ·have := HP.out; rw [List.getElem?_eq_some_iff] at this; obtain ⟨_, h2⟩ := this; simp [h2]
      ·have := HN.out j hj; simp only [ne_eq, beq_iff_eq]; intro h3; exact this (by rw [← h3]; simp)
     rw [this]
    exact ⟨by rw [hi2]; rfl, rfl⟩
   ·have hbe : (p == tx) = false := by simp [hx]
    go_wp2_with (go_at_call 102; refine (drop1_any _ _ _ _ hc).mono ?_; rintro e w' ⟨rfl, rfl⟩)
    go_roundw
    case rel => exact ⟨i + 1, by omega, by go_num, fun j hj => by
     rcases Nat.lt_succ_iff_lt_or_eq.1 hj with h | h
     ·exact HN.out j h
     ·subst h; rw [HP.out]; intro h; exact hx (Option.some.inj h), trivial⟩
    case measure => simp [intOf]; omega
  ·have hi2 : ixOf l tx = -1 := by
    unfold ixOf
    have : l.findIdx? (fun x => x == tx) = none := by
     rw [List.findIdx?_eq_none_iff]
     intro x hx
     obtain ⟨j, hj⟩ := List.getElem?_of_mem hx
     have hjl := (List.getElem?_eq_some_iff.1 hj).1
     have := hno j (by omega)
     simp only [beq_eq_false_iff_ne, ne_eq]
     intro h; subst h; exact this hj
    rw [this]
   have HI := hid hi2
   clear hi2 hno
   go_wp2_with fail
   go_ret
   exact ⟨by rw [HI.out]; rfl, rfl⟩
set_option maxRecDepth 40000 in
set_option maxHeartbeats 4000000 in
theorem delete1_any (w0 w : World) (a : Option Addr) (cap : Nat) (l : List Int) (tx : Int) (bx : Nat) (L : List HProp)
  (hs : S w0 w (sl 3 1 (.slice a l.length cap) l.length (icells l) :: blk bx 3 [.int .i64 tx] :: L)) (hb : l.length ≤ 1000000) :
  Calls Tryz.prog 101 #[.slice a l.length cap, dropF bx] w fun e w' => ∃ v', e = .returned v' ∧
   S w0 w' (sl 3 1 v' (strike l tx).length (icells (strike l tx)) :: blk bx 3 [.int .i64 tx] :: L) := by
 have hc := hs.swap.blk_cell 0 rfl
 have H := hid hs
 clear hs
 cases hx : l.findIdx? (fun x => x == tx) with
 | none =>
  have hix : ixOf l tx = -1 := by unfold ixOf; rw [hx]
  have hst : strike l tx = l := by
   apply strike_none
   rw [List.findIdx?_eq_none_iff] at hx
   intro x h; simpa using hx x h
  rw [hst]
  clear hx hst
  go_enter Tryz.func101, Tryz.ntmps101
  go_wp2_with (go_at_call 110; refine (index1_any w0 _ a cap l tx bx _ H.out hc hb).mono ?_; rw [hix]; rintro e w' ⟨rfl, rfl⟩)
  go_ret
  exact ⟨_, rfl, H.out⟩
 | some i0 =>
  have hix : ixOf l tx = (i0 : Int) := by unfold ixOf; rw [hx]
  rw [List.findIdx?_eq_some_iff_getElem] at hx
  obtain ⟨hi0, hat, hbef⟩ := hx
  have hst : strike (l.take (i0 + 1)) tx = l.take i0 := by
   rw [take_succ_get (show l[i0]? = some l[i0] by simp [hi0]), strike_snoc, if_pos (by simpa using hat)]
   apply strike_none
   intro x h
   obtain ⟨j, hj⟩ := List.getElem?_of_mem h
   rw [List.getElem?_take] at hj
   split at hj
   ·rename_i hji
    have hjl := (List.getElem?_eq_some_iff.1 hj)
    obtain ⟨h1, h2⟩ := hjl
    have := hbef j hji
    rw [h2] at this
    simpa using this
   ·cases hj
  obtain ⟨g, og, rfl, hg, _⟩ := H.out.sl_int (show l[i0]? = some l[i0] by simp [hi0])
  clear hat
  have HS := hid hst
  clear hst hbef
  have hb0 : ((i0 : Int) == -1) = false := by simp
  go_enter Tryz.func101, Tryz.ntmps101
  go_wp2_with (go_at_call 110; refine (index1_any w0 _ _ cap l tx bx _ H.out hc hb).mono ?_; rw [hix]; rintro e w' ⟨rfl, rfl⟩)
  go_loopw [5, 6, 7] (fun u c _ wr => ∃ (i j : Nat) (cur : List Int), u = .int .i64 i ∧ c = .int .i64 j ∧ i < j ∧ j ≤ l.length ∧ cur.length = l.length ∧ Hid (cur.take i = strike (l.take j) tx ∧ cur.drop j = l.drop j) ∧
   S w0 wr (sl 3 1 (.slice (some ⟨g, og, none⟩) l.length cap) l.length (icells cur) :: blk bx 3 [.int .i64 tx] :: L)) (fun _ c _ _ => l.length - (intOf c).toNat)
  case atStart => exact ⟨i0, i0 + 1, l, rfl, by go_num, by omega, by omega, rfl, ⟨HS.out.symm, rfl⟩, H.out⟩
  case round =>
   obtain ⟨i, j, cur, rfl, rfl, hij, hj, hlen, hcur, hsr⟩ := hrel
   clear hc
   have hc := hsr.swap.blk_cell 0 rfl
   by_cases hlt : j < l.length
   ·have hp : l[j]? = some l[j] := by simp [hlt]
    generalize l[j] = p at hp
    have hpc : cur[j]? = some p := by
     have := congrArg (fun x => x[0]?) hcur.out.2
     simpa [hp] using this
    have hnth := take_succ_get hp
    obtain ⟨hc1, hc2⟩ := hcur.out
    have hstk : strike (l.take (j + 1)) tx = if p = tx then strike (l.take j) tx else strike (l.take j) tx ++ [p] := by rw [hnth, strike_snoc]
    have hdrop : cur.drop (j + 1) = l.drop (j + 1) := by
     have := congrArg (fun x => x.drop 1) hc2
     simpa [List.drop_drop] using this
    obtain ⟨gx, ox, hg0, _, d1⟩ := hsr.sl_int (a := some ⟨g, og, none⟩) hpc
    obtain ⟨rfl, rfl⟩ : g = gx ∧ og = ox := by simpa using hg0
    have hlen2 : (icells cur).length = l.length := by rw [icells_length]; exact hlen
    by_cases hx : p = tx
    ·subst hx
     have hbe : (p == p) = true := by simp
     have hfin : cur.take i = strike (l.take (j + 1)) p ∧ cur.drop (j + 1) = l.drop (j + 1) := ⟨by rw [hstk, if_pos rfl]; exact hc1, hdrop⟩
     have HF := hid hfin; have HR := hid hsr
     have HL := hid hlen
     clear hfin hsr hc1 hc2 hdrop hstk hlen2 hnth hpc hp hcur hlen hg0
     go_wp2_with (go_at_call 102; refine (drop1_any _ _ _ _ hc).mono ?_; rintro e w' ⟨rfl, rfl⟩)
     go_roundw
     case rel => exact ⟨i, j + 1, cur, rfl, by go_num, by omega, by omega, HL.out, HF, HR.out⟩
     case measure => simp [intOf]; omega
    ·have hbe : (p == tx) = false := by simp [hx]
     have hfin : (cur.set i p).take (i + 1) = strike (l.take (j + 1)) tx ∧ (cur.set i p).drop (j + 1) = l.drop (j + 1) := by
      refine ⟨?_, ?_⟩
      ·rw [hstk, if_neg hx, ← hc1, take_succ_get (show (cur.set i p)[i]? = some p from List.getElem?_set_self (by omega)), List.take_set_of_le (by omega)]
      ·rw [List.drop_set_of_lt (by omega)]; exact hdrop
     have hset := hsr.sl_set rfl i (by omega) (.int .i64 p)
     have hset2 : (icells cur).set i (.int .i64 p) = icells (cur.set i p) := by simp [icells, List.map_set]
     rw [hset2] at hset
     obtain ⟨gy, oy, _, hg1, _, _, _, _, hd0, hf0⟩ := hsr.sl_some (by omega)
     obtain ⟨⟨rfl, rfl⟩, -⟩ : (g = gy ∧ og = oy) ∧ _ := by simpa using hg1
     have c0 := hd0 i _ (List.getElem?_eq_getElem (by omega))
     have f0 := hf0 (og + i)
     generalize (icells cur)[i]'(by omega) = u0 at c0
     have HF := hid hfin; have HR := hid hset
     have HL : Hid ((cur.set i p).length = l.length) := hid (by rw [List.length_set]; exact hlen)
     clear hfin hset hset2 hsr hc1 hc2 hdrop hstk hlen2 hnth hpc hp hcur hlen hg0 hg1 hd0 hf0
     go_wp2_with (go_at_call 102; refine (drop1_any _ _ _ _ hc).mono ?_; rintro e w' ⟨rfl, rfl⟩)
     go_roundw
     case rel => exact ⟨i + 1, j + 1, cur.set i p, by go_num, by go_num, by omega, by omega, HL.out, HF, HR.out⟩
     case measure => simp [intOf]; omega
   ·have hjl : j = l.length := by omega
    subst hjl
    obtain ⟨hc1, _⟩ := hcur.out
    rw [List.take_length] at hc1
    have hil : i ≤ l.length := by omega
    have hcl : ∀ ty, (Builtin.clear_ #[48] ty #[.slice (some ⟨g, og + i, none⟩) (l.length - i) (cap - i)]).run Tryz.prog wr = .ok (.tuple #[]) (wr.setCells g (og + i) (List.replicate (l.length - i) (.int .i64 0))) := by
     intro ty
     obtain ⟨gy, oy, _, hg1, _, _, _, _, hd0, hf0⟩ := hsr.sl_some (by rw [icells_length]; omega)
     obtain ⟨⟨rfl, rfl⟩, -⟩ : (g = gy ∧ og = oy) ∧ _ := by simpa using hg1
     refine Lib.run_clear_slice wr _ _ ty _ Tryz.underlying48 Tryz.zero_int rfl rfl g (og + i) _ _ (by omega) (fun j hj => ?_) (fun j hj => hf0 _)
     have : i + j < (icells cur).length := by rw [icells_length]; omega
     rw [Nat.add_assoc, hd0 (i + j) _ (List.getElem?_eq_getElem this)]
     rfl
    have hfin : S w0 (wr.setCells g (og + i) (List.replicate (l.length - i) (.int .i64 0))) (sl 3 1 (.slice (some ⟨g, og, none⟩) i cap) i (icells (strike l tx)) :: blk bx 3 [.int .i64 tx] :: L) := by
     have h1 := hsr.sl_setCells (List.replicate (l.length - i) (.int .i64 0)) i (by rw [icells_length, List.length_replicate]; omega)
     have h2 := h1.sl_take i hil
     rw [← hc1]
     rw [Nat.mul_one, List.append_assoc, List.take_left' (by rw [List.length_take, icells_length]; omega)] at h2
     have e : icells (cur.take i) = (icells cur).take i := by simp [icells, List.map_take]
     rw [e]; exact h2
    have hsl : (strike l tx).length = i := by rw [← hc1, List.length_take]; omega
    have HF := hid hfin; have HS2 := hid hsl
    have hcp := hsr.sl_val
    obtain ⟨_, _, hv, hcap, hcap2, _⟩ := hcp
    obtain ⟨-, rfl⟩ : _ ∧ cap = _ := by simpa using hv
    unfold maxLen at hcap2
    clear hfin hsl hsr hc1 hcur hlen hv
    go_wp2_with fail
    go_ret
    exact ⟨_, rfl, by rw [HS2.out]; exact HF.out⟩
end Go.Proofs.YtmfngjclccehaaaGreatDoor
/- Maps on the model's heap: an entry that is found first, and written later (an assignment to several things). No program in sight. -/
namespace Go.Sep
open Go Go.RowKit
set_option linter.unusedSectionVars false
section
variable {κ : Type} [DecidableEq κ] {P : Program} {kt : TypeId} {enc : κ → Value} {ok : κ → Prop} {w w0 : World} {L : List HProp} {b r : Nat} {D : List (κ × Value)}
theorem setObjW_cell {o : Obj} {a : Addr} {v : Value} (h : ∀ c e f, w.heap[r]? ≠ some (.cells c e f)) (hc : w.cell? a = some v) : (setObjW w r o).cell? a = some v := by
 have hne : a.block ≠ r := by
  intro e
  unfold World.cell? at hc
  rw [e] at hc
  cases hh : w.heap[r]? with
  | none => rw [hh] at hc; simp at hc
  | some o' =>
   rw [hh] at hc
   cases o' with
   | cells c e' f => exact h c e' f hh
   | _ => simp at hc
 rw [← hc]
 exact World.cell?_of_block (by simp [setObjW, Array.getElem?_setIfInBounds_ne (fun e => hne e.symm)])
theorem mput_mput {κ ν : Type} [DecidableEq κ] (D : List (κ × ν)) (k : κ) (u v : ν) : mput (mput D k u) k v = mput D k v := by
 have h1 : (mget (mput D k u) k).isSome := by rw [mget_put]; simp
 unfold mput at h1 ⊢
 rw [if_pos h1]
 by_cases h : (mget D k).isSome
 ·rw [if_pos h, if_pos h, List.map_map]
  apply List.map_congr_left
  intro d _
  simp only [Function.comp]
  by_cases e : d.1 = k <;> simp [e]
 ·rw [if_neg h, if_neg h, List.map_append]
  congr 1
  ·have hn : k ∉ D.map (·.1) := mget_none.1 (by simpa using h)
   conv => rhs; rw [← List.map_id D]
   apply List.map_congr_left
   intro d hd
   have : d.1 ≠ k := fun e => hn (by rw [← e]; exact List.mem_map_of_mem hd)
   simp [this]
  ·simp
def entP (enc : κ → Value) (ok : κ → Prop) (b : Nat) (D : List (κ × Value)) (k : κ) (st : Nat) : HProp :=
 ex fun es : Array MapEntry => ex fun clock : Nat => sep (pur (MapObj enc ok D es clock ∧ ∃ (i : Nat) (e : MapEntry), es.toList[i]? = some e ∧ e.born = st ∧ (D.map (·.1))[i]? = some k)) (ob b (.map es clock))
theorem S.entry_find (K : KeyOk P kt enc ok) {t e : TypeId} (ht : P.underlying t = some (.map kt e)) {z : Value} (hz : (zeroValue e).run P w = .ok z w) (h : S w0 w (mp enc ok b D :: L)) (k : κ) (hk : ok k) :
  ∃ (st : Nat) (w' : World), (Instr.mapEntry t (.map (some b)) (enc k)).run P w = .ok (.tuple #[(mget D k).getD z, .int .i64 (st : Int)]) w' ∧ S w0 w' (entP enc ok b (mput D k ((mget D k).getD z)) k st :: L) ∧ ∀ a v, w.cell? a = some v → w'.cell? a = some v := by
 obtain ⟨es, h⟩ := h.ex_elim
 obtain ⟨clock, h⟩ := h.ex_elim
 obtain ⟨hm, h⟩ := h.sep_elim.pur_elim
 have hb := h.obj
 have hnc : ∀ c e f, w.heap[b]? ≠ some (.cells c e f) := by intro c e f; rw [hb]; simp
 have hf := K.find k es.toList (D.map (·.1)) w hk (by intro x hx; obtain ⟨d, hd, rfl⟩ := List.mem_map.1 hx; exact hm.2.2.2.2 d hd) (keys_of hm)
 have hg := find_zip D es.toList k 0 hm.1
 have hlen : es.size = D.length := by have := congrArg List.length hm.1; simpa using this
 cases hx : ((D.map (·.1)).zip es.toList).zipIdx.find? (fun x => decide (x.1.1 = k)) with
 | none =>
  rw [hx] at hg
  simp at hg
  have hp : mput D k z = D ++ [(k, z)] := by unfold mput; rw [← hg]; simp
  have hnd := keys_put_nodup hm.2.2.2.1 k z
  refine ⟨clock, setObjW w b (.map (es.push { key := enc k, val := z, born := clock }) (clock + 1)), ?_, ?_, fun a v hc => setObjW_cell hnc hc⟩
  ·simp only [Instr.mapEntry, Sem.run_bind, run_underlying ht, Result.andThen_ok, run_getObj_map hb, K.check, hf, hx, Option.map_none, hz, run_setObj_map hb, Sem.run_pure, ← hg, Option.getD_none]
   rfl
  ·rw [← hg, Option.getD_none]
   refine .ex_intro _ (.ex_intro _ (.sep_intro (.pur_intro ?_ (h.set_obj (by simp) (by simp)))))
   refine ⟨⟨by rw [hp]; simp [hm.1], ?_, ?_, hnd, ?_⟩, D.length, { key := enc k, val := z, born := clock }, ?_, rfl, ?_⟩
   ·simp only [Array.toList_push, List.map_append, List.map_cons, List.map_nil]
    rw [List.nodup_append]
    refine ⟨hm.2.1, by simp, ?_⟩
    intro a ha c hc
    simp at hc; subst hc
    obtain ⟨e', he', rfl⟩ := List.mem_map.1 ha
    have := hm.2.2.1 e' he'; omega
   ·intro e' he'
    simp only [Array.toList_push, List.mem_append, List.mem_singleton] at he'
    rcases he' with he' | rfl
    ·have := hm.2.2.1 e' he'; omega
    ·simp
   ·intro d hd
    rw [hp] at hd
    rcases List.mem_append.1 hd with h1 | h1
    ·exact hm.2.2.2.2 d h1
    ·simp at h1; subst h1; exact hk
   ·rw [Array.toList_push, List.getElem?_append_right (by simp [hlen])]; simp [hlen]
   ·rw [hp]; simp
 | some x =>
  obtain ⟨i, h1, h2, h3, h4⟩ := find_zip_idx (enc := enc) D es.toList k 0 x hm.1 hm.2.2.2.1 hx
  simp only [Nat.zero_add] at h1
  have hkey : x.1.2.key = enc k := by
   have e1 := congrArg (·[i]?) (keys_of hm)
   simp only [List.getElem?_map, h4] at e1
   have e2 := (h3 i).2 rfl
   simp only [List.getElem?_map] at e2
   cases hd : D[i]? with
   | none => rw [hd] at e2; simp at e2
   | some d => rw [hd] at e1 e2; simp at e1 e2; rw [e1, e2]
  have hget : es[i]? = some x.1.2 := by simpa using h4
  rw [hx] at hg
  simp at hg
  have hmod : es.modify i (fun e => { e with key := enc k }) = es := by
   apply Array.ext_getElem?
   intro j
   rw [Array.getElem?_modify]
   by_cases hij : i = j
   ·subst hij; rw [if_pos rfl, hget]; simp [← hkey]
   ·rw [if_neg hij]
  have hpp : mput D k x.1.2.val = D := by
   unfold mput
   rw [← hg, Option.isSome_some, if_pos rfl]
   conv => rhs; rw [← List.map_id D]
   apply List.map_congr_left
   intro d hd
   by_cases e : d.1 = k
   ·have := mget_mem hm.2.2.2.1 (show (d.1, d.2) ∈ D from hd)
    rw [e, ← hg] at this
    simp only [e, if_true, id]
    have := Option.some.inj this
    rw [this, ← e]
   ·simp [e]
  refine ⟨x.1.2.born, setObjW w b (.map es clock), ?_, ?_, fun a v hc => setObjW_cell hnc hc⟩
  ·simp only [Instr.mapEntry, Sem.run_bind, run_underlying ht, Result.andThen_ok, run_getObj_map hb, K.check, hf, hx, Option.map_some, h1, hget, Option.getD_some, hkey, K.stays, run_setObj_map hb, Sem.run_pure, hmod, ← hg]
   rfl
  ·rw [← hg, Option.getD_some, hpp]
   refine .ex_intro es (.ex_intro clock (.sep_intro (.pur_intro ⟨hm, i, x.1.2, h4, rfl, (h3 i).2 rfl⟩ (h.set_obj (by simp) (by simp)))))
theorem S.entry_store {D : List (κ × Value)} {k : κ} {st : Nat} (h : S w0 w (entP enc ok b D k st :: L)) (t : TypeId) (v : Value) :
  ∃ w', (Instr.entryStore t (.map (some b)) (.int .i64 (st : Int)) v).run P w = .ok () w' ∧ S w0 w' (mp enc ok b (mput D k v) :: L) ∧ ∀ a u, w.cell? a = some u → w'.cell? a = some u := by
 obtain ⟨es, h⟩ := h.ex_elim
 obtain ⟨clock, h⟩ := h.ex_elim
 obtain ⟨⟨hm, i, e, hi, hst, hki⟩, h⟩ := h.sep_elim.pur_elim
 have hb := h.obj
 have hnc : ∀ c e f, w.heap[b]? ≠ some (.cells c e f) := by intro c e f; rw [hb]; simp
 have hidx : es.findIdx? (fun e => (e.born : Int) == (st : Int)) = some i := by
  have hlt : i < es.size := by have := (List.getElem?_eq_some_iff.1 hi).1; simpa using this
  rw [Array.findIdx?_eq_some_iff_getElem]
  have hei : es[i] = e := by have := (List.getElem?_eq_some_iff.1 hi).2; simpa using this
  refine ⟨hlt, by rw [hei]; simp [hst], fun j hj => ?_⟩
  have hjl : j < es.size := by omega
  have : es[j].born ≠ st := by
   intro ej
   have q1 : (es.toList.map (·.born))[j]? = some st := by simp [hjl, ej]
   have q2 : (es.toList.map (·.born))[i]? = some st := by rw [List.getElem?_map, hi]; simp [hst]
   have := (List.getElem?_inj (by simp; omega) hm.2.1).1 (q1.trans q2.symm)
   omega
  simp; omega
 have hki' : ∀ j, (D.map (·.1))[j]? = some k ↔ j = i := by
  intro j
  constructor
  ·intro hj; exact (List.getElem?_inj (List.getElem?_eq_some_iff.1 hj).1 hm.2.2.2.1).1 (hj.trans hki.symm)
  ·rintro rfl; exact hki
 have hkey : e.key = enc k := by
  have e1 := congrArg (·[i]?) (keys_of hm)
  simp only [List.getElem?_map, hi] at e1
  have e2 := hki
  simp only [List.getElem?_map] at e2
  cases hd : D[i]? with
  | none => rw [hd] at e2; simp at e2
  | some d => rw [hd] at e1 e2; simp at e1 e2; rw [e1, e2]
 have hsome : (mget D k).isSome := by
  cases hg : mget D k with
  | none => exact absurd (List.mem_of_getElem? hki) (mget_none.1 hg)
  | some _ => rfl
 have hp : mput D k v = D.map fun d => if d.1 = k then (k, v) else d := by unfold mput; rw [if_pos hsome]
 refine ⟨setObjW w b (.map (es.modify i fun e => { e with val := v }) clock), ?_, ?_, fun a u hc => setObjW_cell hnc hc⟩
 ·simp only [Instr.entryStore, Sem.run_bind, run_getObj_map hb, Result.andThen_ok, asInt, asIntOf, Sem.run_pure, hidx, run_setObj_map hb]
 ·have hmod : (es.modify i fun e => { e with val := v }) = es.modify i fun e => { e with key := enc k, val := v } := by
   apply Array.ext_getElem?
   intro j
   rw [Array.getElem?_modify, Array.getElem?_modify]
   by_cases hij : i = j
   ·subst hij
    have : es[i]? = some e := by simpa using hi
    rw [if_pos rfl, if_pos rfl, this]; simp [hkey]
   ·rw [if_neg hij, if_neg hij]
  rw [hmod]
  refine .mp_of ?_ (h.set_obj (by simp) (by simp))
  have hborn : (es.modify i fun e => { e with key := enc k, val := v }).toList.map (·.born) = es.toList.map (·.born) := by
   rw [Array.toList_modify]
   apply List.ext_getElem?
   intro j
   simp only [List.getElem?_map, List.getElem?_modify]
   cases es.toList[j]? with
   | none => simp
   | some e => by_cases hij : i = j <;> simp [hij]
  refine ⟨by rw [hp, Array.toList_modify]; exact map_modify_eq v hm.1 hki', by rw [hborn]; exact hm.2.1, ?_, keys_put_nodup hm.2.2.2.1 k v, ?_⟩
  ·intro e' he'
   have : e'.born ∈ (es.modify i fun e => { e with key := enc k, val := v }).toList.map (·.born) := List.mem_map_of_mem he'
   rw [hborn] at this
   obtain ⟨e'', he'', hbb⟩ := List.mem_map.1 this
   rw [← hbb]; exact hm.2.2.1 e'' he''
  ·intro d hd
   rw [hp] at hd
   obtain ⟨d', hd', rfl⟩ := List.mem_map.1 hd
   by_cases ek : d'.1 = k
   ·rw [if_pos ek]
    have h1 := hm.2.2.2.2 d' hd'
    rw [ek] at h1; exact h1
   ·rw [if_neg ek]; exact hm.2.2.2.2 d' hd'
theorem run_range_none {t e : TypeId} (ht : P.underlying t = some (.map kt e)) (w : World) : (Instr.range t (.map none)).run P w = .ok (.pointer (some ⟨w.heap.size, 0, none⟩)) (w.alloc (.mapIter none 0 #[] 0)) := by
 simp [Instr.range, run_underlying ht]
theorem run_next_none {ty : TypeId} (h : w.heap[r]? = some (.mapIter none 0 #[] 0)) : (Instr.next (.pointer (some ⟨r, 0, none⟩)) false ty).run P w = .ok (.tuple #[.bool false]) w := by
 simp [Instr.next, run_getObj_iter h]
end
end Go.Sep
/- The program's engine: two transactions at once, one of which is ahead of the other one. No walk in sight. -/
namespace Go.Proofs.YtmfngjclccehaaaGreatDoor
open Go Go.RowKit Go.Sep
variable {w w0 : World} {L : List HProp} {b : Nat} {bs : List Nat} {k : EngV} {e : Eng} {i j : Nat}
theorem txK_parts (bs : List Nat) (b : Nat) (v : TxV) (x : Tx) : txK bs b v x = sep (blk b 123 (txF v x)) (sep (sl 139 2 v.rv x.reads.length (pcells x.reads)) (sep (mp encI (fun _ => True) v.mb (ienc x.writes)) (sep (sl 120 1 v.fv x.fore.length (ptrs bs x.fore)) (sl 120 1 v.av x.aft.length (ptrs bs x.aft))))) := rfl
theorem Eng.note_txs (e : Eng) (hi : i < e.txs.length) (hj : j < e.txs.length) (hij : i ≠ j) : (e.note i j).txs = (e.txs.set i { e.tx i with aft := (e.tx i).aft ++ [j] }).set j { e.tx j with fore := (e.tx j).fore ++ [i] } := by
 unfold Eng.note
 rw [Eng.upd_set (by rw [Eng.upd_len]; exact hj), Eng.upd_ne hij, Eng.upd_set hi]
def twoX (b : Nat) (bs : List Nat) (k : EngV) (e : Eng) (i j : Nat) : HProp :=
 sep (blk (blkOf bs i) 123 (txF (k.v i) (e.tx i))) (sep (sl 139 2 (k.v i).rv (e.tx i).reads.length (pcells (e.tx i).reads)) (sep (mp encI (fun _ => True) (k.v i).mb (ienc (e.tx i).writes)) (sep (sl 120 1 (k.v i).fv (e.tx i).fore.length (ptrs bs (e.tx i).fore))
  (sep (blk (blkOf bs j) 123 (txF (k.v j) (e.tx j))) (sep (sl 139 2 (k.v j).rv (e.tx j).reads.length (pcells (e.tx j).reads)) (sep (mp encI (fun _ => True) (k.v j).mb (ienc (e.tx j).writes)) (sep (sl 120 1 (k.v j).av (e.tx j).aft.length (ptrs bs (e.tx j).aft))
  (sep (pur (k.tv.length = e.txs.length)) (engG b bs k.txv k.hv k.wb e.txs.length e.count e.wr e.hist (((txPs bs k.tv e.txs).set i emp).set j emp))))))))))
theorem _root_.Go.Sep.S.eng_two (h : S w0 w (engO b bs k e :: L)) (hi : i < e.txs.length) (hj : j < e.txs.length) (hij : i ≠ j) :
  S w0 w (sl 120 1 (k.v i).av (e.tx i).aft.length (ptrs bs (e.tx i).aft) :: sl 120 1 (k.v j).fv (e.tx j).fore.length (ptrs bs (e.tx j).fore) :: twoX b bs k e i j :: L) := by
 obtain ⟨hp, h⟩ := h.sep_elim.pur_elim
 have hli : i < (txPs bs k.tv e.txs).length := by rw [txPs_length]; exact hi
 have h1 := h.engG_out i hli
 rw [txPs_get hli] at h1
 have hlj : j < ((txPs bs k.tv e.txs).set i emp).length := by rw [List.length_set, txPs_length]; exact hj
 have h2 := h1.swap.engG_out j hlj
 rw [List.getElem_set_ne hij, txPs_get] at h2
 have h3 := S.pur_intro hp h2
 refine h3.conv ?_
 simp only [all, twoX]
 rw [show (k.tv[i]?).getD .none = k.v i from rfl, show (k.tv[j]?).getD .none = k.v j from rfl, show (e.txs[i]?).getD .zero = e.tx i from rfl, show (e.txs[j]?).getD .zero = e.tx j from rfl, txK_parts, txK_parts]
 ac_rfl
theorem two_blks (w0 : World) (b : Nat) (bs : List Nat) (k : EngV) (e : Eng) (i j : Nat) : ∃ Y, (∀ W M, S w0 W (twoX b bs k e i j :: M) → S w0 W (blk (blkOf bs i) 123 (txF (k.v i) (e.tx i)) :: blk (blkOf bs j) 123 (txF (k.v j) (e.tx j)) :: Y :: M)) ∧
  Y = sep (sl 139 2 (k.v i).rv (e.tx i).reads.length (pcells (e.tx i).reads)) (sep (mp encI (fun _ => True) (k.v i).mb (ienc (e.tx i).writes)) (sep (sl 120 1 (k.v i).fv (e.tx i).fore.length (ptrs bs (e.tx i).fore))
  (sep (sl 139 2 (k.v j).rv (e.tx j).reads.length (pcells (e.tx j).reads)) (sep (mp encI (fun _ => True) (k.v j).mb (ienc (e.tx j).writes)) (sep (sl 120 1 (k.v j).av (e.tx j).aft.length (ptrs bs (e.tx j).aft))
  (sep (pur (k.tv.length = e.txs.length)) (engG b bs k.txv k.hv k.wb e.txs.length e.count e.wr e.hist (((txPs bs k.tv e.txs).set i emp).set j emp)))))))) :=
 ⟨_, fun W M hW => hW.conv (by simp only [all, twoX]; ac_rfl), rfl⟩
theorem _root_.Go.Sep.S.two_cells (h : S w0 w (twoX b bs k e i j :: L)) : w.cell? ⟨blkOf bs i, 10, none⟩ = some (k.v i).av ∧ w.cell? ⟨blkOf bs j, 9, none⟩ = some (k.v j).fv ∧ w.frozen? ⟨blkOf bs i, 10, none⟩ = false ∧ w.frozen? ⟨blkOf bs j, 9, none⟩ = false := by
 obtain ⟨Y, hY, _⟩ := two_blks w0 b bs k e i j
 have h1 := hY w L h
 exact ⟨h1.blk_cell 10 rfl, h1.tail.blk_cell 9 rfl, h1.blk_free 10, h1.tail.blk_free 9⟩
theorem _root_.Go.Sep.S.two_close {av fv : Value} (hi : i < e.txs.length) (hj : j < e.txs.length) (hij : i ≠ j) (h : S w0 w (sl 120 1 av ((e.tx i).aft.length + 1) (ptrs bs (e.tx i).aft ++ [ptr bs j]) :: sl 120 1 fv ((e.tx j).fore.length + 1) (ptrs bs (e.tx j).fore ++ [ptr bs i]) :: twoX b bs k e i j :: L)) :
  ∃ k', k'.txv = k.txv ∧ S w0 ((w.setCell ⟨blkOf bs i, 10, none⟩ av).setCell ⟨blkOf bs j, 9, none⟩ fv) (engO b bs k' (e.note i j) :: L) := by
 have h0 : S w0 w (twoX b bs k e i j :: sl 120 1 av ((e.tx i).aft.length + 1) (ptrs bs (e.tx i).aft ++ [ptr bs j]) :: sl 120 1 fv ((e.tx j).fore.length + 1) (ptrs bs (e.tx j).fore ++ [ptr bs i]) :: L) := h.rot3
 obtain ⟨Y, hY, rfl⟩ := two_blks w0 b bs k e i j
 have h1 := (hY _ _ h0).blk_set 10 (by simp [txF]) av
 have h2 := h1.swap.blk_set 9 (by simp [txF]) fv
 let xi : Tx := { e.tx i with aft := (e.tx i).aft ++ [j] }
 let xj : Tx := { e.tx j with fore := (e.tx j).fore ++ [i] }
 let vi : TxV := { k.v i with av := av }
 let vj : TxV := { k.v j with fv := fv }
 have hp : k.tv.length = e.txs.length := by
  have h3 : S w0 _ (pur (k.tv.length = e.txs.length) :: _) := h2.conv (M := pur (k.tv.length = e.txs.length) :: blk (blkOf bs j) 123 ((txF (k.v j) (e.tx j)).set 9 fv) :: blk (blkOf bs i) 123 ((txF (k.v i) (e.tx i)).set 10 av) :: sl 139 2 (k.v i).rv (e.tx i).reads.length (pcells (e.tx i).reads) :: mp encI (fun _ => True) (k.v i).mb (ienc (e.tx i).writes) :: sl 120 1 (k.v i).fv (e.tx i).fore.length (ptrs bs (e.tx i).fore) ::
   sl 139 2 (k.v j).rv (e.tx j).reads.length (pcells (e.tx j).reads) :: mp encI (fun _ => True) (k.v j).mb (ienc (e.tx j).writes) :: sl 120 1 (k.v j).av (e.tx j).aft.length (ptrs bs (e.tx j).aft) :: engG b bs k.txv k.hv k.wb e.txs.length e.count e.wr e.hist (((txPs bs k.tv e.txs).set i emp).set j emp) ::
   sl 120 1 av ((e.tx i).aft.length + 1) (ptrs bs (e.tx i).aft ++ [ptr bs j]) :: sl 120 1 fv ((e.tx j).fore.length + 1) (ptrs bs (e.tx j).fore ++ [ptr bs i]) :: L) (by simp only [all]; ac_rfl)
  exact h3.pur_elim.1
 have h3 : S w0 ((w.setCell ⟨blkOf bs i, 10, none⟩ av).setCell ⟨blkOf bs j, 9, none⟩ fv) (txK bs (blkOf bs j) vj xj :: engG b bs k.txv k.hv k.wb e.txs.length e.count e.wr e.hist (((txPs bs k.tv e.txs).set i emp).set j emp) :: txK bs (blkOf bs i) vi xi :: pur (k.tv.length = e.txs.length) :: L) := by
  refine h2.conv ?_
  rw [txK_parts, txK_parts]
  have e1 : (txF (k.v i) (e.tx i)).set 10 av = txF vi xi := rfl
  have e2 : (txF (k.v j) (e.tx j)).set 9 fv = txF vj xj := rfl
  have e3 : ptrs bs (e.tx i).aft ++ [ptr bs j] = ptrs bs xi.aft := by simp [ptrs, xi]
  have e4 : ptrs bs (e.tx j).fore ++ [ptr bs i] = ptrs bs xj.fore := by simp [ptrs, xj]
  have e5 : (e.tx i).aft.length + 1 = xi.aft.length := by simp [xi]
  have e6 : (e.tx j).fore.length + 1 = xj.fore.length := by simp [xj]
  rw [e1, e2, e3, e4, e5, e6]
  simp only [all]
  show _ = sep (sep _ (sep (sl _ 2 (k.v j).rv (e.tx j).reads.length (pcells (e.tx j).reads)) (sep (mp encI (fun _ => True) (k.v j).mb (ienc (e.tx j).writes)) (sep (sl _ 1 fv _ _) (sl _ 1 (k.v j).av (e.tx j).aft.length (ptrs bs (e.tx j).aft)))))) (sep _ (sep (sep _ (sep (sl _ 2 (k.v i).rv (e.tx i).reads.length (pcells (e.tx i).reads)) (sep (mp encI (fun _ => True) (k.v i).mb (ienc (e.tx i).writes)) (sep (sl _ 1 (k.v i).fv (e.tx i).fore.length (ptrs bs (e.tx i).fore)) (sl _ 1 av _ _))))) _))
  ac_rfl
 have hlj : j < ((txPs bs k.tv e.txs).set i emp).length := by rw [List.length_set, txPs_length]; exact hj
 have h4 := S.engG_in hlj h3
 rw [List.set_comm _ _ hij] at h4
 have hli : i < ((txPs bs k.tv e.txs).set j (txK bs (blkOf bs j) vj xj)).length := by rw [List.length_set, txPs_length]; exact hi
 have h5 := S.engG_in hli h4.swap
 rw [txPs_set hj (by omega), txPs_set (by simpa using hi) (by simp; omega)] at h5
 obtain ⟨_, h6⟩ := h5.swap.pur_elim
 refine ⟨(k.set j vj).set i vi, rfl, ?_⟩
 have hnt := Eng.note_txs e hi hj hij
 rw [List.set_comm _ _ hij] at hnt
 refine .sep_intro (.pur_intro ?_ ?_)
 ·rw [Eng.note_len]; simpa [EngV.set] using hp
 ·have e7 : engG b bs k.txv k.hv k.wb e.txs.length e.count e.wr e.hist (txPs bs ((k.tv.set j vj).set i vi) ((e.txs.set j xj).set i xi)) = engG b bs ((k.set j vj).set i vi).txv ((k.set j vj).set i vi).hv ((k.set j vj).set i vi).wb (e.note i j).txs.length (e.note i j).count (e.note i j).wr (e.note i j).hist (txPs bs ((k.set j vj).set i vi).tv (e.note i j).txs) := by
   rw [hnt]
   simp only [EngV.set, List.length_set]
   rfl
  rw [← e7]; exact h6
end Go.Proofs.YtmfngjclccehaaaGreatDoor
/- Regions in which slices of structs are made: what each step leaves, whatever the order. -/
namespace Go.Sep
open Go Go.RowKit
variable {w w0 : World} {L : List HProp}
theorem S.alloc_slK {e size : Nat} (h : S w0 w L) (xs : List Value) (n : Nat) (hl : xs.length = n * size) (hm : n ≤ maxLen) :
  S w0 (w.alloc (.cells xs.toArray e)) (sl e size (.slice (some ⟨w.heap.size, 0, none⟩) n n) n xs :: L) := (h.alloc xs.toArray e).sl_blk (by simpa using hl) hm
theorem S.news_slK {e size : Nat} {ad : Option Addr} {m c : Nat} {xs : List Value} (h : S w0 w L) (k : Nat) (hk : L[k]? = some (sl e size (.slice ad m c) m xs)) : ∀ j u, xs[j]? = some u → ∃ b, ad = some b ∧ w.cell? (b.add j) = some u := by
 intro j u hj
 obtain ⟨a, cap, hv, _, _, hc⟩ := (h.nth k hk).sl_val
 obtain ⟨g, o, ha, hcell, _⟩ := hc j u hj
 simp only [Value.slice.injEq] at hv
 refine ⟨⟨g, o, none⟩, by rw [hv.1, ha], ?_⟩
 have e1 : (⟨g, o, none⟩ : Addr).add j = ⟨g, o + j, none⟩ := by unfold Addr.add; split <;> simp_all
 rw [e1]; exact hcell
theorem S.norm0K {e size : Nat} {v : Value} {n : Nat} {xs : List Value} (h : S w0 w (sl e size v (0 + n) ([] ++ xs) :: L)) : S w0 w (sl e size v n xs :: L) := by
 rw [Nat.zero_add] at h; exact h
theorem S.rest {M N : List HProp} (h : S w0 w (M ++ N)) : S w0 w N := (S.pack M N h).tail
variable {P : Program}
theorem step_appK {ops : Array Oper} {o : Oper} {a : Act} {K : Act → World → Prop} {Q : Exit → Act → World → Prop} {E : Prop} (hg : o.guard = none) (s x : Operand) (t : TypeId)
  (hop : o.op = .call { callee := .builtin .append, args := #[s, x], argTypes := #[t, t] })
  (e : TypeId) (i : TypeInfo) (z : Value) (size bytes : Nat) (ht : P.underlying t = some (.slice e)) (hi : P.info? e = some i) (hz : i.zero = some z)
  (hsize : i.size = size) (hby : i.bytes = bytes) (hzs : z.cells.size = size) (hsz : 0 < size) (hW : S w0 w L) (ix : Nat) {v : Value} {n : Nat} {xs : List Value} (hix : L[ix]? = some (sl e size v n xs)) (hv : a.eval s = v)
  (ad : Option Addr) (m c : Nat) (news : List Value) (hx : a.eval x = .slice ad m c) (hl : news.length = m * size) (hnews : ∀ j u, news[j]? = some u → ∃ b, ad = some b ∧ w.cell? (b.add j) = some u) (h1 : ∀ u ∈ news, u.oneCell' = true)
  (h63 : n + m ≤ 1000000) (hb8 : bytes ≤ 100)
  (h : ∀ v' w', S w0 w' (sl e size v' (n + m) (xs ++ news) :: L.eraseIdx ix) → K (a.put o.dst v') w') : if Region.wanted o (yielded ops a.tmps) = true then Oper.wp P o a w K Q else E :=
 step_append hg s x t hop e i z size bytes ht hi hz hsize hby hzs hsz (hW.nth ix hix) hv ad m c news hx hl hnews h1 (by unfold maxLen; omega)
  (by have := Nat.mul_le_mul h63 hb8; omega) h
end Go.Sep
/- Regions that draw their order and whose last stores turn what their loads read: what is held is asked only till the first of those stores has come up. No program in sight. -/
namespace Go.Sep
open Go
section
open Go.RowKit
variable {P : Program} {w w0 : World} {L : List HProp}
theorem S.alloc_slU {e size : Nat} (h : S w0 w L) (xs : List Value) (n : Nat) (hl : xs.length = n * size) (hm : n ≤ maxLen) :
  S w0 (w.alloc (.cells xs.toArray e)) (sl e size (.slice (some ⟨w.heap.size, 0, none⟩) n n) n xs :: L) := (h.alloc xs.toArray e).sl_blk (by simpa using hl) hm
theorem step_appU {ops : Array Oper} {o : Oper} {a : Act} {K : Act → World → Prop} {Q : Exit → Act → World → Prop} {E : Prop} (hg : o.guard = none) (s x : Operand) (t : TypeId)
  (hop : o.op = .call { callee := .builtin .append, args := #[s, x], argTypes := #[t, t] })
  (e : TypeId) (i : TypeInfo) (z : Value) (size bytes : Nat) (ht : P.underlying t = some (.slice e)) (hi : P.info? e = some i) (hz : i.zero = some z)
  (hsize : i.size = size) (hby : i.bytes = bytes) (hzs : z.cells.size = size) (hsz : 0 < size) (hW : S w0 w L) (ix : Nat) {v : Value} {n : Nat} {xs : List Value} (hix : L[ix]? = some (sl e size v n xs)) (hv : a.eval s = v)
  (ad : Option Addr) (m c : Nat) (news : List Value) (hx : a.eval x = .slice ad m c) (hl : news.length = m * size) (hnews : ∀ j u, news[j]? = some u → ∃ b, ad = some b ∧ w.cell? (b.add j) = some u) (h1 : ∀ u ∈ news, u.oneCell' = true)
  (h63 : n + m ≤ 1000000000000) (hb8 : bytes ≤ 100)
  (h : ∀ v' w', S w0 w' (sl e size v' (n + m) (xs ++ news) :: L.eraseIdx ix) → K (a.put o.dst v') w') : if Region.wanted o (yielded ops a.tmps) = true then Oper.wp P o a w K Q else E :=
 step_append hg s x t hop e i z size bytes ht hi hz hsize hby hzs hsz (hW.nth ix hix) hv ad m c news hx hl hnews h1 (by unfold maxLen; omega)
  (by have := Nat.mul_le_mul h63 hb8; omega) h
end
variable {P : Program} {md : Region.Mode} {ops : Array Oper} {Q : Exit → Act → World → Prop} {S : World → Prop} {u : Nat}
def anyU (P : Program) (md : Region.Mode) (ops : Array Oper) (Q : Exit → Act → World → Prop) (S : World → Prop) (u : Nat) : Nat → Array Bool → Act → World → Prop
 | 0, listed, a, w => Region.ready md ops listed = [] ∧ Q .normal a w
 | n + 1, listed, a, w => (Region.ready md ops listed = [] → Q .normal a w) ∧
  ∀ i ∈ Region.ready md ops listed, wpOp P ops Q i (fun a' w' => ((listed.setIfInBounds i true).getD u true = false → S w') ∧ anyU P md ops Q S u n (listed.setIfInBounds i true) a' w') a w
theorem any_of_U : ∀ (n : Nat) (listed : Array Bool) (a : Act) (w : World), anyU P md ops Q S u n listed a w → wpAny P md ops Q n listed a w
 | 0, _, _, _, h => h
 | n + 1, _, _, _, h => ⟨h.1, fun i hi => wpOp_mono (fun a' w' g => any_of_U n _ a' w' g.2) (h.2 i hi)⟩
theorem region_U {id : Nat} {a : Act} {w : World} (hm : P.follows .mixedOrders = true) (hS : S w.drew)
  (h : S w.drew → anyU P .any ops Q S u ops.size (Array.replicate ops.size false) a w.drew) : (Code.region id ops true).wp P Q a w :=
 wp_region_any hm (any_of_U _ _ _ _ (h hS))
def waitsFor (md : Region.Mode) (ops : Array Oper) (u i : Nat) : Bool := match ops[u]? with
 | some o => o.after.any fun e => Region.binds md e && e.on == i
 | none => false
theorem not_listed {listed : Array Bool} {i : Nat} (h : listed.getD i true = false) : listed.getD i false = false := by
 rcases Nat.lt_or_ge i listed.size with h' | h'
 ·simp [h'] at h ⊢; exact h
 ·simp [Array.getElem?_eq_none h'] at h
theorem waits_not_ready {listed : Array Bool} {i : Nat} (hw : waitsFor md ops u i = true) (hi : listed.getD i true = false) : u ∉ Region.ready md ops listed := by
 intro hu
 obtain ⟨_, o, ho, hall⟩ := mem_ready.1 hu
 unfold waitsFor at hw
 rw [ho] at hw
 simp only [Array.any_eq_true, Bool.and_eq_true, beq_iff_eq] at hw
 obtain ⟨j, hj, hb, he⟩ := hw
 have := hall _ (Array.getElem_mem hj) hb
 rw [he, not_listed hi] at this
 cases this
theorem anyU_first {i : Nat} {oi : Oper} {v : Value} {c : Bool} (hi : ops[i]? = some oi) (hsel : Region.noSelect ops = true) (hQ : ∀ d a w, Q (.panic d) (a.put oi.dst v) w → Q (.panic d) a w) (hiu : i ≠ u) (hc : c = true → waitsFor md ops u i = true) :
  ∀ (n : Nat) (listed : Array Bool) (a : Act) (w : World), (c = true → listed.getD u true = false) → Region.free md ops listed i = true → i ∈ Region.ready md ops listed → YieldsIf P ops (fun w => c = true → S w) oi v a → (c = true → S w) → (listed.getD u true = false → S w) →
   anyU P md ops Q S u n (listed.setIfInBounds i true) (a.put oi.dst v) w → anyU P md ops Q S u (n + 1) listed a w := by
 have fr : ∀ (listed : Array Bool) (j : Nat), j ≠ i → Region.free md ops listed i = true → Region.free md ops (listed.setIfInBounds j true) i = true := by
  intro listed j hji h
  unfold Region.free at h ⊢
  rw [hi] at h ⊢
  simp only [List.all_eq_true, List.mem_range] at h ⊢
  intro k hk
  have hk' := h k hk
  by_cases hjk : j = k
  ·subst hjk
   rcases Nat.lt_or_ge j listed.size with hl | hl
   ·simp [hl]
   ·rw [Array.setIfInBounds_eq_of_size_le hl]; exact hk'
  ·rw [getD_set_ne true hjk]; exact hk'
 intro n
 induction n with
 | zero =>
  intro listed a w _ _ hr hy hS hU H
  refine ⟨fun h => (by rw [h] at hr; cases hr), fun j hj => ?_⟩
  by_cases hji : j = i
  ·subst hji
   exact hy.wpOp hi hS ⟨fun hu => hU (by rw [getD_set_ne true hiu] at hu; exact hu), H⟩
  ·have := ready_mono hj hji
   rw [H.1] at this
   cases this
 | succ n ih =>
  intro listed a w hcu hfree hr hy hS hU H
  refine ⟨fun h => (by rw [h] at hr; cases hr), fun j hj => ?_⟩
  by_cases hji : j = i
  ·subst hji
   exact hy.wpOp hi hS ⟨fun hu => hU (by rw [getD_set_ne true hiu] at hu; exact hu), H⟩
  ·have h1 := H.2 j (ready_mono hj hji)
   obtain ⟨hjun, oj, hoj, hall⟩ := mem_ready.1 hj
   have hir := (mem_ready.1 hr).1
   have hnot : ∀ e ∈ oj.after, Region.binds md e = true → e.on ≠ i := fun e he hb heq => by
    have g := hall e he hb
    rw [heq, not_listed hir] at g; cases g
   have hap := Region.free_spec hi hfree j oj hoj hji hjun hnot
   have h2 := wpOp_putIf hoj hap (fun cs b => Region.noSelect_spec hsel i oi cs b hi) (fun cs b => Region.noSelect_spec hsel j oj cs b hoj) hQ hy h1
   have hcomm : ((listed.setIfInBounds i true).setIfInBounds j true) = ((listed.setIfInBounds j true).setIfInBounds i true) := Array.setIfInBounds_comm _ _ (Ne.symm hji)
   rw [hcomm] at h2
   refine wpOp_mono (fun a' w' h3 => ?_) h2
   obtain ⟨hy', hS', H'⟩ := h3
   have hS1 : (listed.setIfInBounds j true).getD u true = false → S w' := fun hu => hS' (by rw [getD_set_ne true hiu]; exact hu)
   have hcu' : c = true → (listed.setIfInBounds j true).getD u true = false := fun hcc => by
    have hju : j ≠ u := fun e => by subst e; exact waits_not_ready (hc hcc) hir hj
    rw [getD_set_ne true hju]; exact hcu hcc
   exact ⟨hS1, ih _ a' w' hcu' (fr _ _ hji hfree) (ready_mono hr (Ne.symm hji)) hy' (fun hcc => hS1 (hcu' hcc)) hS1 H'⟩
theorem anyU_take {i : Nat} {oi : Oper} {v : Value} {n : Nat} {listed : Array Bool} {a : Act} {w : World} (hi : ops[i]? = some oi)
  (hs : (Region.noSelect ops && waitsFor md ops u i && !(i == u) && !(listed.getD u true) && Region.free md ops listed i && (Region.ready md ops listed).contains i) = true)
  (hQ : ∀ c a w, Q (.panic c) (a.put oi.dst v) w → Q (.panic c) a w) (hy : YieldsIf P ops S oi v a) (hS : S w)
  (h : anyU P md ops Q S u n (listed.setIfInBounds i true) (a.put oi.dst v) w) : anyU P md ops Q S u (n + 1) listed a w := by
 simp only [Bool.and_eq_true, Bool.not_eq_true', beq_eq_false_iff_ne, ne_eq] at hs
 obtain ⟨⟨⟨⟨⟨h1, h2⟩, h3⟩, h4⟩, h5⟩, h6⟩ := hs
 exact anyU_first (c := true) hi h1 hQ h3 (fun _ => h2) n listed a w (fun _ => h4) h5 (by simpa using h6) (by unfold YieldsIf at hy ⊢; exact hy.imp (fun ⟨a, b⟩ => ⟨a, fun w hw => b w (hw rfl)⟩) id) (fun _ => hS) (fun _ => hS) h
theorem anyU_pure {i : Nat} {oi : Oper} {v : Value} {n : Nat} {listed : Array Bool} {a : Act} {w : World} (hi : ops[i]? = some oi)
  (hs : (Region.noSelect ops && !(i == u) && Region.free md ops listed i && (Region.ready md ops listed).contains i) = true)
  (hQ : ∀ c a w, Q (.panic c) (a.put oi.dst v) w → Q (.panic c) a w) (hy : YieldsIf P ops (fun _ => True) oi v a) (hS : listed.getD u true = false → S w)
  (h : anyU P md ops Q S u n (listed.setIfInBounds i true) (a.put oi.dst v) w) : anyU P md ops Q S u (n + 1) listed a w := by
 simp only [Bool.and_eq_true, Bool.not_eq_true', beq_eq_false_iff_ne, ne_eq] at hs
 obtain ⟨⟨⟨h1, h3⟩, h5⟩, h6⟩ := hs
 exact anyU_first (c := false) hi h1 hQ h3 (by simp) n listed a w (by simp) h5 (by simpa using h6) (by unfold YieldsIf at hy ⊢; exact hy.imp (fun ⟨a, b⟩ => ⟨a, fun w _ => b w trivial⟩) id) (by simp) hS h
def NextU (P : Program) (md : Region.Mode) (ops : Array Oper) (Q : Exit → Act → World → Prop) (S : World → Prop) (u : Nat) (n : Nat) (listed : Array Bool) (a : Act) (w : World) (rs : List Nat) : Prop :=
 ∀ i ∈ rs, wpOp P ops Q i (fun a' w' => ((listed.setIfInBounds i true).getD u true = false → S w') ∧ anyU P md ops Q S u n (listed.setIfInBounds i true) a' w') a w
theorem NextU.nil {n : Nat} {listed : Array Bool} {a : Act} {w : World} : NextU P md ops Q S u n listed a w [] := fun _ h => by cases h
theorem NextU.cons {n : Nat} {listed : Array Bool} {a : Act} {w : World} {i : Nat} {o : Oper} {rs : List Nat} (ho : ops[i]? = some o)
  (h : ∀ K' : Act → World → Prop, Shut (∀ a w, ((listed.setIfInBounds i true).getD u true = false → S w) → anyU P md ops Q S u n (listed.setIfInBounds i true) a w → K' a w) → if Region.wanted o (yielded ops a.tmps) = true then Oper.wp P o a w K' Q else K' (a.put o.dst undef) w)
  (hs : NextU P md ops Q S u n listed a w rs) : NextU P md ops Q S u n listed a w (i :: rs) := fun j hj => by
 rcases List.mem_cons.1 hj with rfl | hj
 ·exact wpOp_step ho (fun K' hK => h K' (fun a w hS hW => hK a w ⟨hS, hW⟩))
 ·exact hs j hj
theorem anyU_next {rs : List Nat} {n : Nat} {listed : Array Bool} {a : Act} {w : World} (hr : Region.ready md ops listed = rs) (hne : rs ≠ [])
  (h : NextU P md ops Q S u n listed a w rs) : anyU P md ops Q S u (n + 1) listed a w :=
 ⟨fun h0 => absurd (hr ▸ h0) hne, hr ▸ h⟩
theorem anyU_done {listed : Array Bool} {a : Act} {w : World} (hr : Region.ready md ops listed = []) (h : Q .normal a w) : ∀ n, anyU P md ops Q S u n listed a w
 | 0 => ⟨hr, h⟩
 | _ + 1 => ⟨fun _ => h, by rw [hr]; simp⟩
theorem anyU_world {n : Nat} {listed : Array Bool} {a : Act} {w : World} (q : World → Prop) (hq : q w) (h : ∀ w', q w' → anyU P md ops Q S u n listed a w') : anyU P md ops Q S u n listed a w := h w hq
theorem anyH_world {n : Nat} {listed : Array Bool} {a : Act} {w : World} (q : World → Prop) (hq : q w) (h : ∀ w', q w' → wpAnyH P md ops Q S n listed a w') : wpAnyH P md ops Q S n listed a w := h w hq
theorem step_mapu {ops : Array Oper} {o : Oper} {a : Act} {w w' : World} {K : Act → World → Prop} {Q : Exit → Act → World → Prop} {E : Prop} (hg : o.guard = none) (t : TypeId) (m k v : Operand) (hop : o.op = .mapUpdate t m k v)
  {M Kv V : Value} (hm : a.eval m = M) (hk : a.eval k = Kv) (hv : a.eval v = V) (hr : (Instr.mapUpdate t M Kv V).run P w = .ok () w') (h : K (a.put o.dst undef) w') : if Region.wanted o (yielded ops a.tmps) = true then Oper.wp P o a w K Q else E := by
 rw [if_pos (by simp [Region.wanted, hg])]
 unfold Oper.wp execOp
 simp only [hop, hm, hk, hv, Sem.run_bind, hr, Result.andThen_ok, Sem.run_pure]
 exact h
theorem step_mapuE {ops : Array Oper} {o : Oper} {a : Act} {w : World} {R : World → Prop} {K : Act → World → Prop} {Q : Exit → Act → World → Prop} {E : Prop} (hg : o.guard = none) (t : TypeId) (m k v : Operand) (hop : o.op = .mapUpdate t m k v)
  {M Kv V : Value} (hm : a.eval m = M) (hk : a.eval k = Kv) (hv : a.eval v = V) (hr : ∃ w', (Instr.mapUpdate t M Kv V).run P w = .ok () w' ∧ R w') (h : ∀ w', R w' → K (a.put o.dst undef) w') : if Region.wanted o (yielded ops a.tmps) = true then Oper.wp P o a w K Q else E := by
 obtain ⟨w', h1, h2⟩ := hr
 exact step_mapu hg t m k v hop hm hk hv h1 (h w' h2)
theorem act_any {K : Act → World → Prop} {a : Act} {w : World} (q : World → Prop) (hq : q w) (h : ∀ w', q w' → K a w') : K a w := h w hq
end Go.Sep
/- Transactions at the same time: no two things happen at one step. No walk in sight. -/
namespace Go.Proofs.YtmfngjclccehaaaGreatDoor
open Go Go.RowKit Go.Sep
variable {e : Eng} {i j : Nat}
structure Times (e : Eng) : Prop where
 begun : ∀ j, j < e.txs.length → (e.tx j).begun ≤ e.count
 ended : ∀ j, j < e.txs.length → (e.tx j).ended ≤ e.count
 apart : ∀ i j, i < e.txs.length → j < e.txs.length → 2 ≤ (e.tx i).state → (e.tx i).ended ≠ (e.tx j).begun
theorem Times.start : Times Eng.zero := by
 refine ⟨fun j h => ?_, fun j h => ?_, fun i j h => ?_⟩ <;> simp [Eng.zero] at h
theorem Times.upd {f : Tx → Tx} (h : Times e) (hb : (f (e.tx i)).begun = (e.tx i).begun) (he : (f (e.tx i)).ended = (e.tx i).ended) (hs : 2 ≤ (f (e.tx i)).state → 2 ≤ (e.tx i).state) : Times (e.upd i f) := by
 have hbb : ∀ j, ((e.upd i f).tx j).begun = (e.tx j).begun := fun j => by
  rw [Eng.upd_tx]; split
  ·rename_i hc; rw [← hc.1]; exact hb
  ·rfl
 have hee : ∀ j, ((e.upd i f).tx j).ended = (e.tx j).ended := fun j => by
  rw [Eng.upd_tx]; split
  ·rename_i hc; rw [← hc.1]; exact he
  ·rfl
 have hss : ∀ j, 2 ≤ ((e.upd i f).tx j).state → 2 ≤ (e.tx j).state := fun j => by
  rw [Eng.upd_tx]; split
  ·rename_i hc; rw [← hc.1]; exact hs
  ·exact id
 refine ⟨fun j hj => ?_, fun j hj => ?_, fun m j hm hj hst => ?_⟩
 ·rw [Eng.upd_len] at hj; rw [hbb]; exact h.begun j hj
 ·rw [Eng.upd_len] at hj; rw [hee]; exact h.ended j hj
 ·rw [Eng.upd_len] at hm hj; rw [hbb, hee]; exact h.apart m j hm hj (hss m hst)
theorem Times.note (h : Times e) (a b : Nat) : Times (e.note a b) := (h.upd rfl rfl id).upd rfl rfl id
theorem Times.opens (h : Times e) (i : Nat) : Times (e.opens i) := h.upd rfl rfl (by simp)
theorem Times.wput (h : Times e) (i : Nat) (w : Int × Int) : Times (e.wput i w) := h.upd rfl rfl id
theorem Times.lets (h : Times e) (i : Nat) : Times (e.lets i) := ⟨h.begun, h.ended, h.apart⟩
theorem Times.over {f : Tx → Tx} (h : Times e) (hb : (f (e.tx i)).begun = (e.tx i).begun) (he : (f (e.tx i)).ended = e.count + 1) : Times { e.upd i f with count := e.count + 1 } := by
 have hbb : ∀ j, ((e.upd i f).tx j).begun = (e.tx j).begun := fun j => by
  rw [Eng.upd_tx]; split
  ·rename_i hc; rw [← hc.1]; exact hb
  ·rfl
 refine ⟨fun j hj => ?_, fun j hj => ?_, fun m j hm hj hst => ?_⟩
 ·have hj2 : j < e.txs.length := by rw [← Eng.upd_len e i f]; exact hj
  have := h.begun j hj2
  show ((e.upd i f).tx j).begun ≤ e.count + 1
  rw [hbb]; omega
 ·have hj2 : j < e.txs.length := by rw [← Eng.upd_len e i f]; exact hj
  have := h.ended j hj2
  show ((e.upd i f).tx j).ended ≤ e.count + 1
  rw [Eng.upd_tx]; split
  ·rename_i hc; rw [← hc.1, he]; omega
  ·omega
 ·have hj2 : j < e.txs.length := by rw [← Eng.upd_len e i f]; exact hj
  have hm2 : m < e.txs.length := by rw [← Eng.upd_len e i f]; exact hm
  have h1 := h.begun j hj2
  show ((e.upd i f).tx m).ended ≠ ((e.upd i f).tx j).begun
  have hst2 : 2 ≤ ((e.upd i f).tx m).state := hst
  rw [hbb]
  rw [Eng.upd_tx] at hst2 ⊢
  split
  ·rename_i hc; rw [← hc.1, he]; omega
  ·rename_i hc
   rw [if_neg hc] at hst2
   exact h.apart m j hm2 hj2 hst2
theorem Times.mark (h : Times e) (i : Nat) (why : Int) : Times (e.mark i why) := h.over rfl rfl
theorem Times.left (h : Times e) (i : Nat) (why : Int) : Times (e.left i why) := (h.mark i why).lets i
theorem Times.putsL {g : Eng → Nat → Int → Eng} (hg : ∀ e i why, Times e → Times (g e i why)) (i : Nat) (key : Int) : ∀ (l : List Nat) (e : Eng), Times e → Times (Go.Proofs.YtmfngjclccehaaaGreatDoor.putsL g i key l e)
 | [], e, h => h
 | j :: l, e, h => by
  unfold Go.Proofs.YtmfngjclccehaaaGreatDoor.putsL
  split
  ·exact Times.putsL hg i key l e h
  ·dsimp only
   split
   ·exact hg _ _ _ (h.note j i)
   ·exact Times.putsL hg i key l _ (h.note j i)
theorem Times.putsG {g : Eng → Nat → Int → Eng} (hg : ∀ e i why, Times e → Times (g e i why)) (h : Times e) (i : Nat) (w : Int × Int) : Times (Go.Proofs.YtmfngjclccehaaaGreatDoor.putsG g e i w) := by
 unfold Go.Proofs.YtmfngjclccehaaaGreatDoor.putsG
 split
 ·exact hg _ _ _ h
 ·split
  ·exact Times.putsL hg i w.1 _ _ (h.wput i w)
  ·exact h.wput i w
theorem Times.freesL {g : Eng → Nat → Int → Eng} (hg : ∀ e i why, Times e → Times (g e i why)) : ∀ (l : List (Int × Int)) (e : Eng), Times e → Times (Go.Proofs.YtmfngjclccehaaaGreatDoor.freesL g l e)
 | [], e, h => h
 | w :: l, e, h => by
  unfold Go.Proofs.YtmfngjclccehaaaGreatDoor.freesL
  exact Times.freesL hg l _ (Times.putsG hg (h.opens _) _ _)
theorem Times.goesN : ∀ (n : Nat) (e : Eng) (i : Nat) (why : Int), Times e → Times (Go.Proofs.YtmfngjclccehaaaGreatDoor.goesN n e i why)
 | 0, e, i, why, h => h
 | n + 1, e, i, why, h => by
  unfold Go.Proofs.YtmfngjclccehaaaGreatDoor.goesN freesG
  exact Times.freesL (Times.goesN n) _ _ ((h.mark i why).lets i)
end Go.Proofs.YtmfngjclccehaaaGreatDoor
/- Short words for printed walks. No program in sight. -/
namespace Go.Sep
open Go Go.RowKit
end Go.Sep
namespace Go.Proofs.YtmfngjclccehaaaGreatDoor
open Go Go.RowKit Go.Sep
set_option maxHeartbeats 1000000 in
set_option maxRecDepth 20000 in
theorem many_any (w0 w : World) (b o : Nat) (V : List Vers) (last : Int) (L : List HProp) (hs : S w0 w (storeP 107 b o V last :: L)) (hN : ∀ vs ∈ V, vs.length ≤ 2000000) :
  Calls Tryz.prog 69 #[.pointer (some ⟨b, o, none⟩)] w fun e w' => e = .returned (.int .i64 (manyV V)) ∧ w = w' := by
 obtain ⟨kv, hs⟩ := hs.ex_elim
 have hlen := hs.storeK_len
 have harr := hs.storeK_arr
 have hvals := hs.storeK_vals
 have hb : ∀ i, i ≤ 10 → manyV (V.take i) ≤ 20000000 := by
  intro i hi
  have h1 := manyV_le (V := V.take i) (fun vs hv => hN vs (List.mem_of_mem_take hv))
  have h2 : (V.take i).length ≤ 10 := by rw [List.length_take]; omega
  have h3 : 2000000 * (V.take i).length ≤ 2000000 * 10 := Nat.mul_le_mul_left _ h2
  omega
 have hadd : ∀ j u, kv[j]? = some u → w.cell? ((⟨b, o, none⟩ : Addr).add j) = some u := by
  intro j u hj
  have e1 : (⟨b, o, none⟩ : Addr).add j = ⟨b, o + j, none⟩ := by unfold Addr.add; split <;> simp_all
  rw [e1]; exact harr j u hj
 have hkl := hlen.1
 have HA := hid hadd; have HV := hid hvals; have HB := hid hb; have HL := hid hlen; have HK := hid hkl
 clear hadd hvals hb harr hN hs hlen hkl
 go_enter Tryz.func69, Tryz.ntmps69
 go_wp2_with (refine wpList_load_arr rfl 59 (.tmp 8) rfl ⟨b, o, none⟩ rfl 10 58 Tryz.underlying59 kv (by rw [HK.out]; exact Tryz.size59) HA.out ?_)
 go_loop [3, 10] (fun r c => ∃ i : Nat, i ≤ 10 ∧ c = .int .i64 i ∧ r = .int .i64 (manyV (V.take i))) (fun _ c => 10 - (intOf c).toNat)
 case atStart => exact ⟨0, Nat.zero_le _, rfl, by simp [manyV]⟩
 case round =>
  obtain ⟨i, hi, rfl, rfl⟩ := hrel
  have hbi := HB.out i hi
  by_cases hlt : i < 10
  ·obtain ⟨vs, hvs⟩ : ∃ vs, V[i]? = some vs := ⟨V[i]'(by have := HL.out.2; omega), by simp⟩
   obtain ⟨a, cp, hkv, h1, h2⟩ := HV.out i vs hvs
   have hbs := HB.out (i + 1) (by omega)
   have hm := manyV_take hvs
   have HM := hid hm; clear hm
   have hvl : manyV (V.take i) + vs.length ≤ 20000000 := by rw [← HM.out]; exact hbs
   clear hbs hvs
   have hix := run_index_arr Tryz.underlying59 Tryz.underlying58 rfl Tryz.size58 hlt hkv
   clear hkv
   go_wp2_with fail
   go_round
   case rel => exact ⟨i + 1, by omega, by go_num, by rw [HM.out]; go_num⟩
   case measure => simp [intOf]; omega
  ·have hil : i = 10 := by omega
   subst hil
   go_wp2
   go_ret
   exact ⟨retI (by rw [List.take_of_length_le (by have := HL.out.2; omega)]), rfl⟩
end Go.Proofs.YtmfngjclccehaaaGreatDoor
