/- The desk's line: its words. -/
import Derived.Test.YtdlkjppppdminaaGreatDoorZ0
import Derived.Test.YtdlkjppppdminaaGreatDoorZ13
import Derived.Test.YtdlkjppppdminaaGreatDoorZ14
import Derived.Test.YtdlkjppppdminaaGreatDoorZ4
import Derived.Defers
import Derived.Recover
import Derived.Test.YtdlkjppppdminaaGreatDoorZ12
/- The desk's commands all, now, ranks. -/
namespace Go.Proofs.YtdlkjppppdminaaGreatDoor
open Go Go.RowKit Go.Sep
def pairText (p : Int × Int) : List UInt8 := joinL [p.1, p.2]
theorem pairText_len {p : Int × Int} (h : I64 p.1 ∧ I64 p.2) : (pairText p).length ≤ 42 := by
 have := joinL_len (l := [p.1, p.2]) (by simp only [List.mem_cons, List.not_mem_nil, or_false]; rintro z (rfl | rfl) <;> first | exact h.1 | exact h.2)
 unfold pairText
 simpa using this
theorem join_bound : ∀ (ws : List (List UInt8)) (sep : List UInt8) (n : Nat), (∀ x ∈ ws, x.length ≤ n) → (Lib.join ws sep).length ≤ (n + sep.length) * ws.length
 | [], _, _, _ => by simp [Lib.join, List.intercalate]
 | [a], sep, n, h => by rw [Lib.join_one]; have := h a (by simp); simp; omega
 | a :: b :: r, sep, n, h => by
  have h1 := h a (by simp)
  have h2 := join_bound (b :: r) sep n (fun x hx => h x (by simp [hx]))
  have h3 : Lib.join (a :: b :: r) sep = a ++ sep ++ Lib.join (b :: r) sep := by simp [Lib.join, List.intercalate]
  rw [h3, List.length_append, List.length_append, show (a :: b :: r).length = (b :: r).length + 1 from rfl, Nat.mul_add, Nat.mul_one]
  omega
def cAll (B : Bas) (ws : List (List UInt8)) : Bas × Ans := match numsP ws 0 with
 | some _ => (B, .ok ([97, 108, 108, 32] ++ Lib.join (B.eng.allV.map pairText) [44, 32]))
 | none => (B, .no 3)
set_option linter.unusedVariables false in
set_option linter.unusedSimpArgs false in
set_option maxRecDepth 40000 in
set_option maxHeartbeats 8000000 in
theorem cAll_any (w0 w : World) (k d : Nat) (B : Bas) (v : Value) (ws : List (List UInt8)) (L : List HProp) (N : Nat) (hE : ErrT w0) (hL : LibAll w0) (hf : Fits ws) (hB : BasOk N B) (_hN : N ≤ 80000000)
  (hs : S w0 w (deskP k d B :: sl 9 1 v ws.length (sw ws) :: L)) :
  Calls Tryz.prog 36 #[.pointer (some ⟨k, 0, none⟩), v] w fun r w' => (cAll B ws).2.ends r ∧ S w0 w' (deskP k d (cAll B ws).1 :: L) := by
 obtain ⟨b, eb, bs, h0⟩ := hs.desk_open
 have HEN := hid (fun W (M : List HProp) (h : S w0 W (blk k 31 [.pointer (some ⟨d, 0, none⟩), .pointer (some ⟨b, 0, none⟩)] :: bseB b d (.pointer (some ⟨eb, 0, none⟩)) B.used B.down B.torn :: M)) => dengine_any w0 W k d b eb _ _ _ M h)
 have HS0 := hid h0
 have h1 : S w0 w (sl 9 1 v ws.length (sw ws) :: blk k 31 [.pointer (some ⟨d, 0, none⟩), .pointer (some ⟨b, 0, none⟩)] :: bseB b d (.pointer (some ⟨eb, 0, none⟩)) B.used B.down B.torn :: engP eb bs B.eng :: dskB d B.dsk :: L) := h0.conv (by simp only [all]; ac_rfl)
 cases hn : numsP ws 0 with
 | none =>
  have hc : cAll B ws = (B, .no 3) := by unfold cAll; rw [hn]
  have HNU := hid (numbers_no w0 w v ws 0 0 rfl _ hE hL hf hn h1)
  have HC := hid hc
  clear hs h0 h1 hn hc hE hL hf hB
  go_enter Tryz.func36, Tryz.ntmps36
  go_wp2_with (first
   | (go_at_call 60; with_reducible refine (HEN.out _ _ HS0.out).mono ?_; rintro r w' ⟨rfl, rfl⟩)
   | (go_at_call 11; with_reducible refine HNU.out.mono ?_; rintro r w2 ⟨rfl, hs2⟩; have H2 := hid hs2; clear hs2))
  rw [HC.out]
  exact ⟨rfl, rfl, H2.out.desk_shut⟩
 | some ks =>
  obtain rfl := nums_zero hn
  have HNU := hid (numbers_ok w0 w v ws 0 0 rfl [] _ hE hL hf hn h1)
  have HE := hid hE
  have HLB := hid hL
  have hc : cAll B ws = (B, .ok ([97, 108, 108, 32] ++ Lib.join (B.eng.allV.map pairText) [44, 32])) := by unfold cAll; rw [hn]
  have hop := fun W M h => eall_any w0 W eb bs B.eng M N [] hB.eng h
  have hal := hB.d.al
  have h10 : B.eng.allV.length ≤ 10 := by unfold Eng.allV; exact allL_le _ 10
  generalize B.eng.allV = al at hop hc hal h10
  have hj : ∀ (p : Int × Int), I64 p.1 ∧ I64 p.2 → ∀ W M, S w0 W M → Calls Tryz.prog 63 #[.slice (some ⟨W.heap.size, 0, none⟩) 2 2] (W.alloc (.cells #[.int .i64 p.1, .int .i64 p.2] 3)) (fun r w' => r = .returned (.string ⟨(pairText p).toArray⟩) ∧ S w0 w' M) := fun p hp W M h => join_new (w0 := w0) (w := W) (L := M) [p.1, p.2] hL.1.1 (by simp) (by simp only [List.mem_cons, List.not_mem_nil, or_false]; rintro z (rfl | rfl) <;> first | exact hp.1 | exact hp.2) h
  have HOP := hid hop; have HC := hid hc; have HAL := hid hal; have HJ := hid hj
  have hsh : ∀ W e bs' X, S w0 W (engP eb bs' e :: blk k 31 [.pointer (some ⟨d, 0, none⟩), .pointer (some ⟨b, 0, none⟩)] :: bseB b d (.pointer (some ⟨eb, 0, none⟩)) B.used B.down B.torn :: dskB d B.dsk :: X :: L) → S w0 W (deskP k d { B with eng := e } :: L) := fun W e bs' X h => (S.desk_shut (B := { B with eng := e }) (b := b) (eb := eb) (bs := bs') (h.conv (M := blk k 31 [.pointer (some ⟨d, 0, none⟩), .pointer (some ⟨b, 0, none⟩)] :: bseB b d (.pointer (some ⟨eb, 0, none⟩)) B.used B.down B.torn :: engP eb bs' e :: dskB d B.dsk :: X :: L) (by simp only [all]; ac_rfl))).swap.tail
  have HSH := hid hsh
  clear hs h0 h1 hn hL hf hB hop hE hsh hc hal hj
  go_enter Tryz.func36, Tryz.ntmps36
  go_wp2_with (first
   | (go_at_call 11; with_reducible refine HNU.out.mono ?_; rintro r w2 ⟨u, rfl, hs2⟩; have H2 := hid (hs2.conv (M := engP eb bs B.eng :: blk k 31 [.pointer (some ⟨d, 0, none⟩), .pointer (some ⟨b, 0, none⟩)] :: bseB b d (.pointer (some ⟨eb, 0, none⟩)) B.used B.down B.torn :: dskB d B.dsk :: sl 3 1 u 0 (icells []) :: L) (by simp only [all, List.length_nil]; ac_rfl)); have H2e := hid (H2.out.conv (M := blk k 31 [.pointer (some ⟨d, 0, none⟩), .pointer (some ⟨b, 0, none⟩)] :: bseB b d (.pointer (some ⟨eb, 0, none⟩)) B.used B.down B.torn :: engP eb bs B.eng :: dskB d B.dsk :: sl 3 1 u 0 (icells []) :: L) (by simp only [all]; ac_rfl)); clear hs2)
   | (go_at_call 60; with_reducible refine (HEN.out _ _ H2e.out).mono ?_; rintro r w' ⟨rfl, rfl⟩)
   | (go_at_call 62; with_reducible refine (HOP.out _ _ H2.out).mono ?_; rintro r w3 ⟨va, rfl, hs3⟩; obtain ⟨ga, gc, rfl, hg1, hg2, _⟩ := hs3.sl_val; unfold maxLen at hg2; have H3 := hid hs3; clear hs3))
  obtain ⟨X, hX⟩ : ∃ X, X = all (engP eb bs B.eng :: blk k 31 [.pointer (some ⟨d, 0, none⟩), .pointer (some ⟨b, 0, none⟩)] :: bseB b d (.pointer (some ⟨eb, 0, none⟩)) B.used B.down B.torn :: dskB d B.dsk :: sl 3 1 u 0 (icells []) :: L) := ⟨_, rfl⟩
  have H4 : Hid (S w0 w3 (sl 9 1 (.slice none 0 0) 0 (sw ((al.take 0).map pairText)) :: sl 91 2 (.slice ga al.length gc) al.length (pcells al) :: X :: [])) := hid (S.sl_nil (H3.out.conv (M := sl 91 2 (.slice ga al.length gc) al.length (pcells al) :: X :: []) (by rw [hX]; simp only [all, sep_emp])))
  have HX := hid hX
  clear H3 H2 H2e hX
  go_loopw [5, 14] (fun lv c wr => ∃ j : Nat, j ≤ al.length ∧ c = .int .i64 j ∧ Hid (S w0 wr (sl 9 1 lv j (sw ((al.take j).map pairText)) :: sl 91 2 (.slice ga al.length gc) al.length (pcells al) :: X :: []))) (fun _ c _ => al.length - (intOf c).toNat)
  case atStart => exact ⟨0, Nat.zero_le _, rfl, H4⟩
  case round =>
   rename World => wr
   obtain ⟨j, hj, rfl, H5⟩ := hrel
   clear H4
   by_cases hlt : j < al.length
   ·have hp : al[j]? = some al[j] := by simp [hlt]
    generalize al[j] = p at hp
    obtain ⟨g, o, rfl, _, c0, c1⟩ := H5.out.swap.sl_pair hp
    have hI := HAL.out p (List.mem_of_getElem? hp)
    have hst : sw ((al.take (j + 1)).map pairText) = sw ((al.take j).map pairText) ++ [.string ⟨(pairText p).toArray⟩] := by rw [List.take_add_one, hp, Option.toList_some, List.map_append, sw_append]; rfl
    have hs5 := H5.out
    obtain ⟨a5, c5, rfl, hcs1, hcs2, _⟩ := hs5.sl_val
    have hsx := hs5.alloc #[.int .i64 p.1, .int .i64 p.2] 91
    have x0 := hsx.blk_cell 0 rfl
    have x1 := hsx.blk_cell 1 rfl
    have hjp := HJ.out p hI _ _ hsx.tail
    rw [World.size_alloc] at hjp
    have HJP := hid hjp
    clear hjp
    have HST := hid hst
    obtain ⟨i0, hi0, hz0, hz1, hz2⟩ := info_parts (show (Tryz.prog.info? 9).map (fun i => (i.zero, i.size, i.bytes)) = some (some (.string ByteArray.empty), 1, 16) by kernel_rfl)
    clear hp hI hst hs5 hsx H5
    go_wp2_with (first
     | (go_at_call 63; with_reducible refine HJP.out.mono ?_; rintro r w6 ⟨rfl, hs6⟩; have hs7 := hs6.alloc #[.string ⟨(pairText p).toArray⟩] 9; have HN7 := hid (news_blk hs7); have H7 := hid hs7.tail; clear hs6 hs7)
     | (at_builtin; refine wpList_append rfl (.tmp 18) (.tmp 25) 46 rfl 9 i0 _ 1 16 Tryz.underlying46 hi0 hz0 hz1 hz2 rfl (by decide) H7.out rfl (some ⟨w6.heap.size, 0, none⟩) 1 1 [.string ⟨(pairText p).toArray⟩] rfl rfl HN7.out (by simp [Value.oneCell']) (by unfold maxLen; omega) (by omega) ?_; intro v1 w8 hs8; have H8 := hid hs8; clear hs8))
    go_roundw
    case rel => exact ⟨j + 1, by omega, by go_num, hid (by rw [HST.out]; exact H8.out)⟩
    case measure => simp [intOf]; omega
   ·obtain rfl : j = al.length := by omega
    have h5 := H5.out
    rw [List.take_length] at h5
    have hml : (al.map pairText).length = al.length := List.length_map ..
    have hjb := join_bound (al.map pairText) [44, 32] 42 (fun x hx => by
     obtain ⟨p, hp, rfl⟩ := List.mem_map.1 hx
     exact pairText_len (HAL.out p hp))
    have hle : (Lib.join (al.map pairText) [44, 32]).length ≤ 1000 := by rw [hml] at hjb; simp at hjb; omega
    have HSJ := hid (sjoin_any w0 wr _ (al.map pairText) [44, 32] _ (by rw [hml]; omega) (by omega) (by rw [hml]; exact h5))
    generalize Lib.join (al.map pairText) [44, 32] = T at HSJ hle HC
    have hnf : ¬ (4 + (⟨T.toArray⟩ : ByteArray).size > 9223372036854775807) := by
     have : (⟨T.toArray⟩ : ByteArray).size = T.length := by simp [ByteArray.size]
     rw [this]; omega
    clear h5 hml hjb H5 HAL HJ
    go_wp2_with (go_at_call 64; with_reducible refine HSJ.out.mono ?_; rintro r w6 ⟨rfl, hs6⟩; have H6 := hid hs6; clear hs6)
    go_ret
    rw [HC.out]
    refine ⟨?_, HSH.out _ B.eng bs (sl 3 1 u 0 (icells [])) (H6.out.tail.conv (by rw [HX.out]; simp only [all, sep_emp]))⟩
    show _ = Ending.returned _
    rw [← glueL]; rfl
open Classical in
noncomputable def lineOf2 (l : List Op1) : List Int × Int := if h : ∃ r : List Int × Int × Int, LineOut l r.1 r.2.1 r.2.2 then (h.choose.1, h.choose.2.1) else ([], 0)
theorem lineOf2_is {l : List Op1} {la : List Int} {f p : Int} (h : LineOut l la f p) : lineOf2 l = (la, f) := by
 have hx : ∃ r : List Int × Int × Int, LineOut l r.1 r.2.1 r.2.2 := ⟨(la, f, p), h⟩
 unfold lineOf2
 rw [dif_pos hx]
 have := hx.choose_spec.one h
 rw [this.1, this.2.1]
noncomputable def cRanks (B : Bas) (ws : List (List UInt8)) : Bas × Ans := match numsP ws 0 with
 | some _ => (B, ansE (lineOf2 B.eng.hist).2 ([108, 105, 110, 101, 32] ++ joinL (lineOf2 B.eng.hist).1))
 | none => (B, .no 3)
theorem line_I64 {l : List Op1} {la : List Int} {f p : Int} (h : LineOut l la f p) (hl : ∀ o ∈ l, I64 o.tx ∧ I64 o.key ∧ I64 o.fr) : ∀ x ∈ la, I64 x := by
 rcases h with ⟨_, rfl, _⟩ | ⟨_, _, _, rfl, _⟩ | ⟨_, _, es, _, ⟨h5, _⟩ | ⟨_, rfl, _⟩⟩
 ·simp
 ·simp
 ·intro x hx
  have h6 := (lineL_some es _ (txsOf_nodup l) h5).1
  obtain ⟨o, ho, rfl⟩ := (txsOf_mem l x).1 (h6.mem_iff.1 hx)
  exact (hl o ho).1
 ·simp
theorem must_err (x : Err) (hx : Err.errno x ≠ 0) (w0 w : World) (ev : Value) (L : List HProp) (hE : ErrT w0) (hs : S w0 w (errP 54 97 95 ev x :: L)) :
  ∃ T p, ev = .iface T p ∧ Calls Tryz.prog 14 #[ev] w fun r w' => r = .panicked [{ v := .iface 56 (.agg #[.int .i64 (Err.errno x)]), recovered := false }] ∧ S w0 w' L := by
 have ht := tell_any x ev w0 w L hE hs
 cases x with
 | nil => exact absurd rfl hx
 | no e =>
  obtain ⟨rfl, h⟩ := S.pur_elim hs
  exact ⟨_, _, rfl, (must_any w0 w _ _ _ _ ht).mono fun r w' h => ⟨h.1, h.2.tail⟩⟩
 | at_ e p =>
  obtain ⟨g, hs1⟩ := S.ex_elim hs
  obtain ⟨rfl, hs2⟩ := S.pur_elim (S.sep_elim hs1)
  exact ⟨_, _, rfl, (must_any w0 w _ _ _ _ ht).mono fun r w' h => ⟨h.1, h.2.tail⟩⟩
set_option linter.unusedVariables false in
set_option linter.unusedSimpArgs false in
set_option maxRecDepth 40000 in
set_option maxHeartbeats 8000000 in
theorem cRanks_any (w0 w : World) (k d : Nat) (B : Bas) (v : Value) (ws : List (List UInt8)) (L : List HProp) (N : Nat) (hE : ErrT w0) (hL : LibAll w0) (hf : Fits ws) (hB : BasOk N B) (_hN : N ≤ 80000000)
  (hs : S w0 w (deskP k d B :: sl 9 1 v ws.length (sw ws) :: L)) :
  Calls Tryz.prog 42 #[.pointer (some ⟨k, 0, none⟩), v] w fun r w' => (cRanks B ws).2.ends r ∧ S w0 w' (deskP k d (cRanks B ws).1 :: L) := by
 obtain ⟨b, eb, bs, h0⟩ := hs.desk_open
 have HEN := hid (fun W (M : List HProp) (h : S w0 W (blk k 31 [.pointer (some ⟨d, 0, none⟩), .pointer (some ⟨b, 0, none⟩)] :: bseB b d (.pointer (some ⟨eb, 0, none⟩)) B.used B.down B.torn :: M)) => dengine_any w0 W k d b eb _ _ _ M h)
 have HS0 := hid h0
 have h1 : S w0 w (sl 9 1 v ws.length (sw ws) :: blk k 31 [.pointer (some ⟨d, 0, none⟩), .pointer (some ⟨b, 0, none⟩)] :: bseB b d (.pointer (some ⟨eb, 0, none⟩)) B.used B.down B.torn :: engP eb bs B.eng :: dskB d B.dsk :: L) := h0.conv (by simp only [all]; ac_rfl)
 cases hn : numsP ws 0 with
 | none =>
  have hc : cRanks B ws = (B, .no 3) := by unfold cRanks; rw [hn]
  have HNU := hid (numbers_no w0 w v ws 0 0 rfl _ hE hL hf hn h1)
  have HC := hid hc
  clear hs h0 h1 hn hc hE hL hf hB
  go_enter Tryz.func42, Tryz.ntmps42
  go_wp2_with (first
   | (go_at_call 60; with_reducible refine (HEN.out _ _ HS0.out).mono ?_; rintro r w' ⟨rfl, rfl⟩)
   | (go_at_call 11; with_reducible refine HNU.out.mono ?_; rintro r w2 ⟨rfl, hs2⟩; have H2 := hid hs2; clear hs2))
  rw [HC.out]
  exact ⟨rfl, rfl, H2.out.desk_shut⟩
 | some ks =>
  obtain rfl := nums_zero hn
  have HNU := hid (numbers_ok w0 w v ws 0 0 rfl [] _ hE hL hf hn h1)
  have HE := hid hE
  have HLB := hid hL
  have hc : cRanks B ws = (B, ansE (lineOf2 B.eng.hist).2 ([108, 105, 110, 101, 32] ++ joinL (lineOf2 B.eng.hist).1)) := by unfold cRanks; rw [hn]
  have hop := fun W M h => ehist_any w0 W eb bs B.eng M N [] hB.eng (by omega) h
  have hhl := hB.d.hl
  have hhi := hB.d.hi
  generalize B.eng.hist = hh at hop hc hhl hhi
  have HOP := hid hop
  have hln := fun W v M (h : S w0 W (sl 121 4 v hh.length (fcells opc hh) :: M)) => line_outD (w0 := w0) (w := W) (v := v) (l := hh) h RdK.own hhl (fun o ho => ⟨(hhi o ho).1.2, (hhi o ho).2.2.2⟩)
  have HLN := hid hln; have HHI := hid hhi
  have hsh : ∀ W e bs' X, S w0 W (engP eb bs' e :: blk k 31 [.pointer (some ⟨d, 0, none⟩), .pointer (some ⟨b, 0, none⟩)] :: bseB b d (.pointer (some ⟨eb, 0, none⟩)) B.used B.down B.torn :: dskB d B.dsk :: X :: L) → S w0 W (deskP k d { B with eng := e } :: L) := fun W e bs' X h => (S.desk_shut (B := { B with eng := e }) (b := b) (eb := eb) (bs := bs') (h.conv (M := blk k 31 [.pointer (some ⟨d, 0, none⟩), .pointer (some ⟨b, 0, none⟩)] :: bseB b d (.pointer (some ⟨eb, 0, none⟩)) B.used B.down B.torn :: engP eb bs' e :: dskB d B.dsk :: X :: L) (by simp only [all]; ac_rfl))).swap.tail
  have HSH := hid hsh
  clear hs h0 h1 hn hL hf hB hop hE hsh hln hhi
  go_enter Tryz.func42, Tryz.ntmps42
  go_wp2_with (first
   | (go_at_call 11; with_reducible refine HNU.out.mono ?_; rintro r w2 ⟨u, rfl, hs2⟩; have H2 := hid (hs2.conv (M := engP eb bs B.eng :: blk k 31 [.pointer (some ⟨d, 0, none⟩), .pointer (some ⟨b, 0, none⟩)] :: bseB b d (.pointer (some ⟨eb, 0, none⟩)) B.used B.down B.torn :: dskB d B.dsk :: sl 3 1 u 0 (icells []) :: L) (by simp only [all, List.length_nil]; ac_rfl)); have H2e := hid (H2.out.conv (M := blk k 31 [.pointer (some ⟨d, 0, none⟩), .pointer (some ⟨b, 0, none⟩)] :: bseB b d (.pointer (some ⟨eb, 0, none⟩)) B.used B.down B.torn :: engP eb bs B.eng :: dskB d B.dsk :: sl 3 1 u 0 (icells []) :: L) (by simp only [all]; ac_rfl)); clear hs2)
   | (go_at_call 60; with_reducible refine (HEN.out _ _ H2e.out).mono ?_; rintro r w' ⟨rfl, rfl⟩)
   | (go_at_call 68; with_reducible refine (HOP.out _ _ H2.out).mono ?_; rintro r w3 ⟨vh, rfl, hs3⟩; have H3 := hid hs3; clear hs3))
  with_reducible refine (HLN.out _ _ _ H3.out).mono ?_
  rintro r w4 ⟨ul, la, ev, x, rfl, hla, hlo, hxn, hs4⟩
  have hli := line_I64 hlo HHI.out
  rw [lineOf2_is hlo] at hc
  simp only at hc
  by_cases hx : Err.errno x = 0
  ·obtain rfl := hxn hx
   obtain ⟨rfl, hs5⟩ := S.pur_elim hs4.swap
   have HC := hid hc
   have HJ := hid (join_any w0 w4 ul la _ HLB.out.1.1 (by omega) hli hs5)
   have hjl := joinL_len hli
   have hnf : ¬ (5 + (⟨(joinL la).toArray⟩ : ByteArray).size > 9223372036854775807) := by
    have : (⟨(joinL la).toArray⟩ : ByteArray).size = (joinL la).length := by simp [ByteArray.size]
    rw [this]; omega
   clear hs4 hs5 hc hlo hli hjl HLN HHI hxn hx
   go_wp2_with (first
    | (go_at_call 14; with_reducible refine (must_nil _).mono ?_; rintro r w' ⟨rfl, rfl⟩)
    | (go_at_call 63; with_reducible refine HJ.out.mono ?_; rintro r w6 ⟨rfl, hs6⟩; have H6 := hid hs6; clear hs6))
   go_ret
   rw [HC.out]
   refine ⟨?_, HSH.out _ B.eng bs _ (H6.out.tail)⟩
   show _ = Ending.returned _
   rw [← glueL]; rfl
  ·obtain ⟨T, p, rfl, hmu⟩ := must_err x hx w0 w4 ev _ HE.out hs4.swap
   have HMU := hid hmu
   have HC := hid (show cRanks B ws = (B, .no (Err.errno x)) by rw [hc, ansE, if_neg hx])
   generalize Err.errno x = er at HMU HC
   clear hmu hs4 hc hlo hli HLN HHI hxn
   go_wp2_with (go_at_call 14; with_reducible refine HMU.out.mono ?_; rintro r w6 ⟨rfl, hs6⟩; have H6 := hid hs6; clear hs6)
   rw [HC.out]
   exact ⟨rfl, rfl, HSH.out _ B.eng bs _ (H6.out.tail.tail)⟩
end Go.Proofs.YtdlkjppppdminaaGreatDoor
/- The desk's command now. -/
namespace Go.Proofs.YtdlkjppppdminaaGreatDoor
open Go Go.RowKit Go.Sep
variable {w w0 : World} {L : List HProp} {b : Nat} {bs : List Nat} {e : Eng}
theorem dtxs_any (hs : S w0 w (engP b bs e :: L)) :
  Calls Tryz.prog 70 #[.pointer (some ⟨b, 0, none⟩)] w fun r w' => r = .returned (.int .i64 e.txs.length) ∧ w = w' := by
 obtain ⟨k, h⟩ := hs.eng_open
 exact txs_any w0 w b bs k e (storeP 99 b 0 e.V e.last :: tabP 3 b 11 e.t :: L) (h.conv (by simp only [all]; ac_rfl))
theorem dlast_any (hs : S w0 w (engP b bs e :: L)) :
  Calls Tryz.prog 71 #[.pointer (some ⟨b, 0, none⟩)] w fun r w' => r = .returned (.int .i64 e.last) ∧ w = w' := by
 obtain ⟨k, h⟩ := hs.eng_open
 exact elast_any w0 w b e _ h
theorem dmany_any {N : Nat} {U : List Task} (hok : OkT N e U) (hs : S w0 w (engP b bs e :: L)) :
  Calls Tryz.prog 72 #[.pointer (some ⟨b, 0, none⟩)] w fun r w' => r = .returned (.int .i64 (manyV e.V)) ∧ w = w' := by
 obtain ⟨k, h⟩ := hs.eng_open
 exact emany_any w0 w b e _ h fun vs hv => by have := hok.row_le vs hv; omega
def cNow (B : Bas) (ws : List (List UInt8)) : Bas × Ans := match numsP ws 0 with
 | some _ => (B, .ok (joinL [(B.eng.txs.length : Int), B.eng.last, manyV B.eng.V, B.used] ++ [32] ++ Lib.formatBool B.down))
 | none => (B, .no 3)
set_option linter.unusedVariables false in
set_option linter.unusedSimpArgs false in
set_option maxRecDepth 40000 in
set_option maxHeartbeats 8000000 in
theorem cNow_any (w0 w : World) (k d : Nat) (B : Bas) (v : Value) (ws : List (List UInt8)) (L : List HProp) (N : Nat) (hE : ErrT w0) (hL : LibAll w0) (hf : Fits ws) (hB : BasOk N B) (_hN : N ≤ 80000000)
  (hs : S w0 w (deskP k d B :: sl 9 1 v ws.length (sw ws) :: L)) :
  Calls Tryz.prog 43 #[.pointer (some ⟨k, 0, none⟩), v] w fun r w' => (cNow B ws).2.ends r ∧ S w0 w' (deskP k d (cNow B ws).1 :: L) := by
 obtain ⟨b, eb, bs, h0⟩ := hs.desk_open
 have HEN := hid (fun W (M : List HProp) (h : S w0 W (blk k 31 [.pointer (some ⟨d, 0, none⟩), .pointer (some ⟨b, 0, none⟩)] :: bseB b d (.pointer (some ⟨eb, 0, none⟩)) B.used B.down B.torn :: M)) => dengine_any w0 W k d b eb _ _ _ M h)
 have HS0 := hid h0
 have h1 : S w0 w (sl 9 1 v ws.length (sw ws) :: blk k 31 [.pointer (some ⟨d, 0, none⟩), .pointer (some ⟨b, 0, none⟩)] :: bseB b d (.pointer (some ⟨eb, 0, none⟩)) B.used B.down B.torn :: engP eb bs B.eng :: dskB d B.dsk :: L) := h0.conv (by simp only [all]; ac_rfl)
 cases hn : numsP ws 0 with
 | none =>
  have hc : cNow B ws = (B, .no 3) := by unfold cNow; rw [hn]
  have HNU := hid (numbers_no w0 w v ws 0 0 rfl _ hE hL hf hn h1)
  have HC := hid hc
  clear hs h0 h1 hn hc hE hL hf hB
  go_enter Tryz.func43, Tryz.ntmps43
  go_wp2_with (first
   | (go_at_call 60; with_reducible refine (HEN.out _ _ HS0.out).mono ?_; rintro r w' ⟨rfl, rfl⟩)
   | (go_at_call 11; with_reducible refine HNU.out.mono ?_; rintro r w2 ⟨rfl, hs2⟩; have H2 := hid hs2; clear hs2))
  rw [HC.out]
  exact ⟨rfl, rfl, H2.out.desk_shut⟩
 | some ks =>
  obtain rfl := nums_zero hn
  have HNU := hid (numbers_ok w0 w v ws 0 0 rfl [] _ hE hL hf hn h1)
  have HE := hid hE
  have HLB := hid hL
  have hc : cNow B ws = (B, .ok (joinL [(B.eng.txs.length : Int), B.eng.last, manyV B.eng.V, B.used] ++ [32] ++ Lib.formatBool B.down)) := by unfold cNow; rw [hn]
  have htx := fun W M h => dtxs_any (w0 := w0) (w := W) (b := eb) (bs := bs) (e := B.eng) (L := M) h
  have hla := fun W M h => dlast_any (w0 := w0) (w := W) (b := eb) (bs := bs) (e := B.eng) (L := M) h
  have hma := fun W M h => dmany_any (w0 := w0) (w := W) (b := eb) (bs := bs) (e := B.eng) (L := M) hB.eng h
  have hus := fun W (M : List HProp) h => bused_any w0 W b d (.pointer (some ⟨eb, 0, none⟩)) B.used B.down B.torn M h
  have hdn := fun W (M : List HProp) h => bdown_any w0 W b d (.pointer (some ⟨eb, 0, none⟩)) B.used B.down B.torn M h
  have hq : ∀ W (M : List HProp), S w0 W (blk k 31 [.pointer (some ⟨d, 0, none⟩), .pointer (some ⟨b, 0, none⟩)] :: M) → W.cell? ⟨k, 1, none⟩ = some (.pointer (some ⟨b, 0, none⟩)) := fun W M h => h.blk_cell 1 rfl
  have hI : ∀ x ∈ [(B.eng.txs.length : Int), B.eng.last, manyV B.eng.V, B.used], I64 x := by
   have f1 := hB.eng.few; have f2 := hB.eng.last; have f3 := hB.used; have f4 := hB.d.mn
   intro x hx
   simp only [List.mem_cons, List.not_mem_nil, or_false] at hx
   rcases hx with rfl | rfl | rfl | rfl
   ·unfold I64; omega
   ·unfold I64; omega
   ·exact f4
   ·unfold I64; omega
  have hj := fun W (M : List HProp) (h : S w0 W M) => show Calls Tryz.prog 63 #[.slice (some ⟨W.heap.size, 0, none⟩) 4 4] (W.alloc (.cells (icells [(B.eng.txs.length : Int), B.eng.last, manyV B.eng.V, B.used]).toArray 3)).drew fun r w' => r = .returned (.string ⟨(joinL [(B.eng.txs.length : Int), B.eng.last, manyV B.eng.V, B.used]).toArray⟩) ∧ S w0 w' M from join_new (w0 := w0) (w := W.drew) (L := M) [(B.eng.txs.length : Int), B.eng.last, manyV B.eng.V, B.used] hL.1.1 (by simp) hI h.drew
  have hlen := joinL_len hI
  simp only [icells, List.map_cons, List.map_nil, List.length_cons, List.length_nil, Nat.reduceAdd] at hj hlen
  have hfb : ∀ x, (Lib.formatBool x).length ≤ 5 := by intro x; cases x <;> decide
  have hfb2 := hfb B.down
  have hfm := fun W => Shd.Tryz.strconv_FormatBool B.down W
  have hsh : ∀ W e bs' X, S w0 W (engP eb bs' e :: blk k 31 [.pointer (some ⟨d, 0, none⟩), .pointer (some ⟨b, 0, none⟩)] :: bseB b d (.pointer (some ⟨eb, 0, none⟩)) B.used B.down B.torn :: dskB d B.dsk :: X :: L) → S w0 W (deskP k d { B with eng := e } :: L) := fun W e bs' X h => (S.desk_shut (B := { B with eng := e }) (b := b) (eb := eb) (bs := bs') (h.conv (M := blk k 31 [.pointer (some ⟨d, 0, none⟩), .pointer (some ⟨b, 0, none⟩)] :: bseB b d (.pointer (some ⟨eb, 0, none⟩)) B.used B.down B.torn :: engP eb bs' e :: dskB d B.dsk :: X :: L) (by simp only [all]; ac_rfl))).swap.tail
  have HSH := hid hsh
  generalize joinL [(B.eng.txs.length : Int), B.eng.last, manyV B.eng.V, B.used] = T at hc hj hlen
  generalize Lib.formatBool B.down = F at hc hfm hfb2
  generalize (B.eng.txs.length : Int) = k1 at htx hj
  generalize B.eng.last = k2 at hla hj
  generalize manyV B.eng.V = k3 at hma hj
  have hn1 : ¬ ((⟨T.toArray⟩ : ByteArray).size + 1 > 9223372036854775807) := by
   have : (⟨T.toArray⟩ : ByteArray).size = T.length := by simp [ByteArray.size]
   rw [this]; omega
  have HTX := hid htx; have HLA := hid hla; have HMA := hid hma; have HUS := hid hus; have HDN := hid hdn; have HQ := hid hq; have HJ := hid hj; have HFM := hid hfm; have HC := hid hc
  clear hs h0 h1 hn hL hf hB hE hc htx hla hma hus hdn hq hI hj hfm hfb HE HLB hsh
  go_enter Tryz.func43, Tryz.ntmps43
  go_upto_region 3 with (first
   | (go_at_call 11; with_reducible refine HNU.out.mono ?_; rintro r w2 ⟨u, rfl, hs2⟩; have H2 := hid (hs2.conv (M := engP eb bs B.eng :: blk k 31 [.pointer (some ⟨d, 0, none⟩), .pointer (some ⟨b, 0, none⟩)] :: bseB b d (.pointer (some ⟨eb, 0, none⟩)) B.used B.down B.torn :: dskB d B.dsk :: sl 3 1 u 0 (icells []) :: L) (by simp only [all, List.length_nil]; ac_rfl)); have H2e := hid (H2.out.conv (M := blk k 31 [.pointer (some ⟨d, 0, none⟩), .pointer (some ⟨b, 0, none⟩)] :: bseB b d (.pointer (some ⟨eb, 0, none⟩)) B.used B.down B.torn :: engP eb bs B.eng :: dskB d B.dsk :: sl 3 1 u 0 (icells []) :: L) (by simp only [all]; ac_rfl)); clear hs2)
   | (go_at_call 60; with_reducible refine (HEN.out _ _ H2e.out).mono ?_; rintro r w' ⟨rfl, rfl⟩))
  have q0 := HQ.out _ _ H2e.out.drew
  have qa := HQ.out _ _ (H2e.out.alloc #[.int .i64 k1, .int .i64 k2, .int .i64 k3, .int .i64 B.used] 3).tail.drew
  have H3 := hid H2.out.drew
  have H3b := hid (H2e.out.drew.conv (M := bseB b d (.pointer (some ⟨eb, 0, none⟩)) B.used B.down B.torn :: blk k 31 [.pointer (some ⟨d, 0, none⟩), .pointer (some ⟨b, 0, none⟩)] :: engP eb bs B.eng :: dskB d B.dsk :: sl 3 1 u 0 (icells []) :: L) (by simp only [all]; ac_rfl))
  have H3e := hid H2e.out.drew
  go_region_held_law (fun w' => w'.cell? ⟨k, 1, none⟩ = some (.pointer (some ⟨b, 0, none⟩))) (first | (with_reducible assumption) | (with_reducible exact q0) | (with_reducible exact qa) | (with_reducible exact q1))
   (first
   | (go_at_call 70; with_reducible refine (HTX.out _ _ H3.out).mono ?_; rintro r w' ⟨rfl, rfl⟩)
   | (go_at_call 71; with_reducible refine (HLA.out _ _ H3.out).mono ?_; rintro r w' ⟨rfl, rfl⟩)
   | (go_at_call 72; with_reducible refine (HMA.out _ _ H3.out).mono ?_; rintro r w' ⟨rfl, rfl⟩)
   | (go_at_call 73; with_reducible refine (HUS.out _ _ H3b.out).mono ?_; rintro r w' ⟨rfl, rfl⟩)
   | (go_at_call 63; with_reducible refine (HJ.out _ _ H2e.out).mono ?_; rintro r w5 ⟨rfl, hs5⟩; have q1 := HQ.out _ _ hs5; have H5 := hid hs5; clear hs5)
   | (go_at_call 75; with_reducible refine (HDN.out _ _ H5.out.tail).mono ?_; rintro r w' ⟨rfl, rfl⟩)
   | (go_at_call 74; with_reducible refine (HFM.out _).mono ?_; rintro r w' ⟨rfl, rfl⟩))
  all_goals
   clear q0 qa q1
   go_wp2_with fail
   go_ret
   rw [HC.out]
   refine ⟨?_, HSH.out _ B.eng bs _ (H5.out.conv (M := engP eb bs B.eng :: blk k 31 [.pointer (some ⟨d, 0, none⟩), .pointer (some ⟨b, 0, none⟩)] :: bseB b d (.pointer (some ⟨eb, 0, none⟩)) B.used B.down B.torn :: dskB d B.dsk :: sl 3 1 u 0 (icells []) :: L) (by simp only [all]; ac_rfl))⟩
   show _ = Ending.returned _
   rw [← glueL, ← glueL]; rfl
end Go.Proofs.YtdlkjppppdminaaGreatDoor
/- The desk's command history. -/
namespace Go.Proofs.YtdlkjppppdminaaGreatDoor
open Go Go.RowKit Go.Sep
def opText (o : Op1) : List UInt8 := if o.wr then joinL [o.tx] ++ [32, 119, 32] ++ joinL [o.key] else joinL [o.tx] ++ [32, 114, 32] ++ joinL [o.key, o.fr]
theorem opText_len {o : Op1} (h : I64 o.tx ∧ I64 o.key ∧ I64 o.fr) : (opText o).length ≤ 66 := by
 have h1 := joinL_len (l := [o.tx]) (by simp only [List.mem_cons, List.not_mem_nil, or_false]; rintro z rfl; exact h.1)
 have h2 := joinL_len (l := [o.key]) (by simp only [List.mem_cons, List.not_mem_nil, or_false]; rintro z rfl; exact h.2.1)
 have h3 := joinL_len (l := [o.key, o.fr]) (by simp only [List.mem_cons, List.not_mem_nil, or_false]; rintro z (rfl | rfl) <;> first | exact h.2.1 | exact h.2.2)
 unfold opText
 simp only [List.length_cons, List.length_nil] at h1 h2 h3
 split <;> simp only [List.length_append, List.length_cons, List.length_nil] <;> omega
theorem _root_.Go.Sep.S.sl_opc {w0 w : World} {L : List HProp} {e : TypeId} {a : Option Addr} {n cap : Nat} {l : List Op1} (h : S w0 w (sl e 4 (.slice a n cap) n (fcells opc l) :: L)) {i : Nat} {o : Op1} (hp : l[i]? = some o) :
  ∃ b f, a = some ⟨b, f, none⟩ ∧ b < w.heap.size ∧ w.cell? ⟨b, f + i * 4, none⟩ = some (.int .i64 o.tx) ∧ w.cell? ⟨b, f + i * 4 + 1, none⟩ = some (.int .i64 o.key) ∧ w.cell? ⟨b, f + i * 4 + 2, none⟩ = some (.bool o.wr) ∧ w.cell? ⟨b, f + i * 4 + 3, none⟩ = some (.int .i64 o.fr) := by
 have hi := (List.getElem?_eq_some_iff.1 hp).1
 obtain ⟨b, f, cap', hv, _, _, _, hlt, hrd, _⟩ := h.sl_some (by rw [fcells_length opcF_length]; omega)
 simp only [Value.slice.injEq] at hv
 obtain ⟨rfl, -, rfl⟩ := hv
 exact ⟨b, f, rfl, hlt, hrd _ _ (fcells_at opcF_length (c := 0) hp rfl), hrd _ _ (fcells_at opcF_length (c := 1) hp rfl), hrd _ _ (fcells_at opcF_length (c := 2) hp rfl), hrd _ _ (fcells_at opcF_length (c := 3) hp rfl)⟩
def cHist (B : Bas) (ws : List (List UInt8)) : Bas × Ans := match numsP ws 0 with
 | some _ => (B, .ok ([104, 105, 115, 116, 111, 114, 121, 32] ++ Lib.join (B.eng.hist.map opText) [44, 32]))
 | none => (B, .no 3)
set_option linter.unusedVariables false in
set_option linter.unusedSimpArgs false in
set_option maxRecDepth 40000 in
set_option maxHeartbeats 8000000 in
theorem cHist_any (w0 w : World) (k d : Nat) (B : Bas) (v : Value) (ws : List (List UInt8)) (L : List HProp) (N : Nat) (hE : ErrT w0) (hL : LibAll w0) (hf : Fits ws) (hB : BasOk N B) (_hN : N ≤ 80000000)
  (hs : S w0 w (deskP k d B :: sl 9 1 v ws.length (sw ws) :: L)) :
  Calls Tryz.prog 41 #[.pointer (some ⟨k, 0, none⟩), v] w fun r w' => (cHist B ws).2.ends r ∧ S w0 w' (deskP k d (cHist B ws).1 :: L) := by
 obtain ⟨b, eb, bs, h0⟩ := hs.desk_open
 have HEN := hid (fun W (M : List HProp) (h : S w0 W (blk k 31 [.pointer (some ⟨d, 0, none⟩), .pointer (some ⟨b, 0, none⟩)] :: bseB b d (.pointer (some ⟨eb, 0, none⟩)) B.used B.down B.torn :: M)) => dengine_any w0 W k d b eb _ _ _ M h)
 have HS0 := hid h0
 have h1 : S w0 w (sl 9 1 v ws.length (sw ws) :: blk k 31 [.pointer (some ⟨d, 0, none⟩), .pointer (some ⟨b, 0, none⟩)] :: bseB b d (.pointer (some ⟨eb, 0, none⟩)) B.used B.down B.torn :: engP eb bs B.eng :: dskB d B.dsk :: L) := h0.conv (by simp only [all]; ac_rfl)
 cases hn : numsP ws 0 with
 | none =>
  have hc : cHist B ws = (B, .no 3) := by unfold cHist; rw [hn]
  have HNU := hid (numbers_no w0 w v ws 0 0 rfl _ hE hL hf hn h1)
  have HC := hid hc
  clear hs h0 h1 hn hc hE hL hf hB
  go_enter Tryz.func41, Tryz.ntmps41
  go_wp2_with (first
   | (go_at_call 60; with_reducible refine (HEN.out _ _ HS0.out).mono ?_; rintro r w' ⟨rfl, rfl⟩)
   | (go_at_call 11; with_reducible refine HNU.out.mono ?_; rintro r w2 ⟨rfl, hs2⟩; have H2 := hid hs2; clear hs2))
  rw [HC.out]
  exact ⟨rfl, rfl, H2.out.desk_shut⟩
 | some ks =>
  obtain rfl := nums_zero hn
  have HNU := hid (numbers_ok w0 w v ws 0 0 rfl [] _ hE hL hf hn h1)
  have HE := hid hE
  have HLB := hid hL
  have hc : cHist B ws = (B, .ok ([104, 105, 115, 116, 111, 114, 121, 32] ++ Lib.join (B.eng.hist.map opText) [44, 32])) := by unfold cHist; rw [hn]
  have hop := fun W M h => ehist_any w0 W eb bs B.eng M N [] hB.eng (by omega) h
  have hhl := hB.d.hl
  have hhi := hB.d.hi
  generalize B.eng.hist = hh at hop hc hhl hhi
  have hj := fun W v (l : List Int) (M : List HProp) (hl : l.length ≤ 10) (hi : ∀ x ∈ l, I64 x) (h : S w0 W (sl 3 1 v l.length (icells l) :: M)) => join_any w0 W v l M hL.1.1 (by omega) hi h
  have HOP := hid hop; have HC := hid hc; have HHI := hid hhi; have HJ := hid hj
  have hsh : ∀ W e bs' X, S w0 W (engP eb bs' e :: blk k 31 [.pointer (some ⟨d, 0, none⟩), .pointer (some ⟨b, 0, none⟩)] :: bseB b d (.pointer (some ⟨eb, 0, none⟩)) B.used B.down B.torn :: dskB d B.dsk :: X :: L) → S w0 W (deskP k d { B with eng := e } :: L) := fun W e bs' X h => (S.desk_shut (B := { B with eng := e }) (b := b) (eb := eb) (bs := bs') (h.conv (M := blk k 31 [.pointer (some ⟨d, 0, none⟩), .pointer (some ⟨b, 0, none⟩)] :: bseB b d (.pointer (some ⟨eb, 0, none⟩)) B.used B.down B.torn :: engP eb bs' e :: dskB d B.dsk :: X :: L) (by simp only [all]; ac_rfl))).swap.tail
  have HSH := hid hsh
  clear hs h0 h1 hn hL hf hB hop hE hsh hc hhi hj
  go_enter Tryz.func41, Tryz.ntmps41
  go_wp2_with (first
   | (go_at_call 11; with_reducible refine HNU.out.mono ?_; rintro r w2 ⟨u, rfl, hs2⟩; have H2 := hid (hs2.conv (M := engP eb bs B.eng :: blk k 31 [.pointer (some ⟨d, 0, none⟩), .pointer (some ⟨b, 0, none⟩)] :: bseB b d (.pointer (some ⟨eb, 0, none⟩)) B.used B.down B.torn :: dskB d B.dsk :: sl 3 1 u 0 (icells []) :: L) (by simp only [all, List.length_nil]; ac_rfl)); have H2e := hid (H2.out.conv (M := blk k 31 [.pointer (some ⟨d, 0, none⟩), .pointer (some ⟨b, 0, none⟩)] :: bseB b d (.pointer (some ⟨eb, 0, none⟩)) B.used B.down B.torn :: engP eb bs B.eng :: dskB d B.dsk :: sl 3 1 u 0 (icells []) :: L) (by simp only [all]; ac_rfl)); clear hs2)
   | (go_at_call 60; with_reducible refine (HEN.out _ _ H2e.out).mono ?_; rintro r w' ⟨rfl, rfl⟩)
   | (go_at_call 68; with_reducible refine (HOP.out _ _ H2.out).mono ?_; rintro r w3 ⟨va, rfl, hs3⟩; obtain ⟨ga, gc, rfl, hg1, hg2, _⟩ := hs3.sl_val; unfold maxLen at hg2; have H3 := hid hs3; clear hs3))
  obtain ⟨X, hX⟩ : ∃ X, X = all (engP eb bs B.eng :: blk k 31 [.pointer (some ⟨d, 0, none⟩), .pointer (some ⟨b, 0, none⟩)] :: bseB b d (.pointer (some ⟨eb, 0, none⟩)) B.used B.down B.torn :: dskB d B.dsk :: sl 3 1 u 0 (icells []) :: L) := ⟨_, rfl⟩
  have H4 : Hid (S w0 w3 (sl 9 1 (.slice none 0 0) 0 (sw ((hh.take 0).map opText)) :: sl 121 4 (.slice ga hh.length gc) hh.length (fcells opc hh) :: X :: [])) := hid (S.sl_nil (H3.out.conv (M := sl 121 4 (.slice ga hh.length gc) hh.length (fcells opc hh) :: X :: []) (by rw [hX]; simp only [all, sep_emp])))
  have HX := hid hX
  clear H3 H2 H2e hX
  obtain ⟨i0, hi0, hz0, hz1, hz2⟩ := info_parts (show (Tryz.prog.info? 9).map (fun i => (i.zero, i.size, i.bytes)) = some (some (.string ByteArray.empty), 1, 16) by kernel_rfl)
  go_loopw [5, 14] (fun lv c wr => ∃ j : Nat, j ≤ hh.length ∧ c = .int .i64 j ∧ Hid (S w0 wr (sl 9 1 lv j (sw ((hh.take j).map opText)) :: sl 121 4 (.slice ga hh.length gc) hh.length (fcells opc hh) :: X :: []))) (fun _ c _ => hh.length - (intOf c).toNat)
  case atStart => exact ⟨0, Nat.zero_le _, rfl, H4⟩
  case round =>
   rename World => wr
   obtain ⟨j, hj, rfl, H5⟩ := hrel
   clear H4
   by_cases hlt : j < hh.length
   ·have hp : hh[j]? = some hh[j] := by simp [hlt]
    generalize hh[j] = o at hp
    obtain ⟨g, f, rfl, hgb, c0, c1, c2, c3⟩ := H5.out.swap.sl_opc hp
    have hI := HHI.out o (List.mem_of_getElem? hp)
    have hst : sw ((hh.take (j + 1)).map opText) = sw ((hh.take j).map opText) ++ [.string ⟨(opText o).toArray⟩] := by rw [List.take_add_one, hp, Option.toList_some, List.map_append, sw_append]; rfl
    obtain ⟨tx, key, rw_, fr⟩ := o
    have hs5 := H5.out
    obtain ⟨a5, c5, rfl, hcs1, hcs2, _⟩ := hs5.sl_val
    have hq : ∀ W M, S w0 W (blk wr.heap.size 121 [.int .i64 tx, .int .i64 key, .bool rw_, .int .i64 fr] :: M) → W.cell? ⟨wr.heap.size, 0, none⟩ = some (.int .i64 tx) ∧ W.cell? ⟨wr.heap.size, 1, none⟩ = some (.int .i64 key) ∧ W.cell? ⟨wr.heap.size, 3, none⟩ = some (.int .i64 fr) := fun W M h => ⟨h.blk_cell 0 rfl, h.blk_cell 1 rfl, h.blk_cell 3 rfl⟩
    have hj1 := fun W v M h => HJ.out W v [tx] M (by simp) (by simp only [List.mem_cons, List.not_mem_nil, or_false]; rintro z rfl; exact hI.1) h
    have l1 := joinL_len (l := [tx]) (by simp only [List.mem_cons, List.not_mem_nil, or_false]; rintro z rfl; exact hI.1)
    cases rw_ with
    | true =>
     have hj2 := fun W v M h => HJ.out W v [key] M (by simp) (by simp only [List.mem_cons, List.not_mem_nil, or_false]; rintro z rfl; exact hI.2.1) h
     have l2 := joinL_len (l := [key]) (by simp only [List.mem_cons, List.not_mem_nil, or_false]; rintro z rfl; exact hI.2.1)
     have hst2 : sw ((hh.take (j + 1)).map opText) = sw ((hh.take j).map opText) ++ [.string ((⟨(joinL [tx]).toArray⟩ : ByteArray) ++ ⟨#[32, 119, 32]⟩ ++ ⟨(joinL [key]).toArray⟩)] := by
      rw [hst]
      simp only [opText, ← glueL]
      rfl
     have e1 : (⟨(joinL [tx]).toArray⟩ : ByteArray).size = (joinL [tx]).length := by simp [ByteArray.size]
     have e2 : (⟨(joinL [key]).toArray⟩ : ByteArray).size = (joinL [key]).length := by simp [ByteArray.size]
     simp only [List.length_cons, List.length_nil, icells, List.map_cons, List.map_nil, Nat.zero_add, Nat.reduceAdd] at hj1 hj2 l1 l2
     generalize (⟨(joinL [tx]).toArray⟩ : ByteArray) = t1 at hj1 hst2 e1
     generalize (⟨(joinL [key]).toArray⟩ : ByteArray) = t2 at hj2 hst2 e2
     have n1 : ¬ (t1.size + 3 > 9223372036854775807) := by omega
     have n2 : ¬ (t1.size + 3 + t2.size > 9223372036854775807) := by omega
     have hsx := hs5.alloc #[.int .i64 tx, .int .i64 key, .bool true, .int .i64 fr] 121
     have x0 := hsx.blk_cell 0 rfl
     have x1 := hsx.blk_cell 1 rfl
     have x2 := hsx.blk_cell 2 rfl
     have x3 := hsx.blk_cell 3 rfl
     have HS0 := hid hsx; have HST := hid hst2; have HQ := hid hq; have HJ1 := hid hj1; have HJ2 := hid hj2
     clear hp hI hst hst2 hs5 hsx H5 hq hj1 hj2 l1 l2 e1 e2 HHI HJ HOP HEN HSH HNU
     go_upto_region 7 with fail
     refine wp_region_held_drew (S := fun w' => w'.cell? ⟨wr.heap.size, 0, none⟩ = some (.int .i64 tx) ∧ w'.cell? ⟨wr.heap.size, 1, none⟩ = some (.int .i64 key) ∧ w'.cell? ⟨wr.heap.size, 3, none⟩ = some (.int .i64 fr)) (by kernel_rfl) (HQ.out _ _ (HS0.out.drew.nth 0 rfl)) (fun hHeld => ?_)
     refine wpAnyH_take (i := 0) (v := ?_) rfl (by kernel_rfl) (by kernel_rfl) (by kernel_rfl) (fun _ _ _ h => h) (Or.inl ⟨by rfl, ?_⟩) hHeld ?_
     rotate_left
     ·(intro w hSw; (try dsimp only at hSw); go_simp) <;> with_reducible rfl
     try simp only [putU]
     refine wpAnyH_take (i := 1) (v := ?_) rfl (by kernel_rfl) (by kernel_rfl) (by kernel_rfl) (fun _ _ _ h => h) (Or.inl ⟨by rfl, ?_⟩) hHeld ?_
     rotate_left
     ·(intro w hSw; (try dsimp only at hSw); go_simp) <;> with_reducible rfl
     try simp only [putU]
     refine wpAnyH_take (i := 2) (v := ?_) rfl (by kernel_rfl) (by kernel_rfl) (by kernel_rfl) (fun _ _ _ h => h) (Or.inl ⟨by rfl, ?_⟩) hHeld ?_
     rotate_left
     ·(intro w hSw; (try dsimp only at hSw); go_simp) <;> with_reducible rfl
     try simp only [putU]
     refine wpAnyH_take (i := 6) (v := ?_) rfl (by kernel_rfl) (by kernel_rfl) (by kernel_rfl) (fun _ _ _ h => h) (Or.inl ⟨by rfl, ?_⟩) hHeld ?_
     rotate_left
     ·(intro w hSw; (try dsimp only at hSw); go_simp) <;> with_reducible rfl
     try simp only [putU]
     refine wpAnyH_take (i := 7) (v := ?_) rfl (by kernel_rfl) (by kernel_rfl) (by kernel_rfl) (fun _ _ _ h => h) (Or.inl ⟨by rfl, ?_⟩) hHeld ?_
     rotate_left
     ·(intro w hSw; (try dsimp only at hSw); go_simp) <;> with_reducible rfl
     try simp only [putU]
     have HS := hid HS0.out.drew
     clear hHeld
     refine anyH_world (fun w => Hid (S w0 w _)) HS (fun w1 HS => ?_)
     clear HS0
     refine wpAnyH_ready (rs := [3, 8]) (by kernel_rfl) (by simp) ?_
     refine AllReadyH.cons rfl (fun K hK => ?_) ?_
     ·go_simp
      replace HS := hid (HS.out.alloc_slU (e := 3) (size := 1) [.int .i64 tx] 1 rfl (by unfold maxLen; omega))
      generalize w1.heap.size = b3 at HS ⊢
      refine act_any (fun w => Hid (S w0 w _)) HS (fun w2 HS => ?_)
      refine hK.out _ _ (HQ.out _ _ (HS.out.nth 1 rfl)) (fun _ => ?_)
      clear hK K
      refine wpAnyH_ready (rs := [4, 8]) (by kernel_rfl) (by simp) ?_
      refine AllReadyH.cons rfl (fun K hK => ?_) ?_
      ·go_simp
       go_at_call 63
       with_reducible refine (HJ1.out _ _ _ (HS.out.nth 0 rfl)).mono ?_
       rintro r w3 ⟨rfl, hs⟩
       simp only [List.eraseIdx_cons_succ, List.eraseIdx_cons_zero] at hs
       replace HS := hid hs
       clear hs
       refine hK.out _ _ (HQ.out _ _ (HS.out.nth 0 rfl)) (fun _ => ?_)
       clear hK K
       refine wpAnyH_take (i := 5) (v := ?_) rfl (by kernel_rfl) (by kernel_rfl) (by kernel_rfl) (fun _ _ _ h => h) (Or.inl ⟨by rfl, ?_⟩) (HQ.out _ _ (HS.out.nth 0 rfl)) ?_
       rotate_left
       ·(intro w hSw; (try dsimp only at hSw); go_simp) <;> with_reducible rfl
       try simp only [putU]
       refine wpAnyH_ready (rs := [8]) (by kernel_rfl) (by simp) ?_
       refine AllReadyH.cons rfl (fun K hK => ?_) ?_
       ·go_simp
        replace HS := hid (HS.out.alloc_slU (e := 3) (size := 1) [.int .i64 key] 1 rfl (by unfold maxLen; omega))
        generalize w3.heap.size = b8 at HS ⊢
        refine act_any (fun w => Hid (S w0 w _)) HS (fun w4 HS => ?_)
        refine hK.out _ _ (HQ.out _ _ (HS.out.nth 1 rfl)) (fun _ => ?_)
        clear hK K
        refine wpAnyH_ready (rs := [9]) (by kernel_rfl) (by simp) ?_
        refine AllReadyH.cons rfl (fun K hK => ?_) ?_
        ·go_simp
         go_at_call 63
         with_reducible refine (HJ2.out _ _ _ (HS.out.nth 0 rfl)).mono ?_
         rintro r w5 ⟨rfl, hs⟩
         simp only [List.eraseIdx_cons_succ, List.eraseIdx_cons_zero] at hs
         replace HS := hid hs
         clear hs
         refine hK.out _ _ (HQ.out _ _ (HS.out.nth 0 rfl)) (fun _ => ?_)
         clear hK K
         refine wpAnyH_take (i := 10) (v := ?_) rfl (by kernel_rfl) (by kernel_rfl) (by kernel_rfl) (fun _ _ _ h => h) (Or.inl ⟨by rfl, ?_⟩) (HQ.out _ _ (HS.out.nth 0 rfl)) ?_
         rotate_left
         ·(intro w hSw; (try dsimp only at hSw); go_simp) <;> with_reducible rfl
         try simp only [putU]
         refine wpAnyH_ready (rs := [11]) (by kernel_rfl) (by simp) ?_
         refine AllReadyH.cons rfl (fun K hK => ?_) ?_
         ·go_simp
          replace HS := hid (HS.out.alloc_slU (e := 9) (size := 1) [.string (t1 ++ ⟨#[32, 119, 32]⟩ ++ t2)] 1 rfl (by unfold maxLen; omega))
          generalize w5.heap.size = b11 at HS ⊢
          refine act_any (fun w => Hid (S w0 w _)) HS (fun w6 HS => ?_)
          refine hK.out _ _ (HQ.out _ _ (HS.out.nth 1 rfl)) (fun _ => ?_)
          clear hK K
          refine wpAnyH_ready (rs := [12]) (by kernel_rfl) (by simp) ?_
          refine AllReadyH.cons rfl (fun K hK => ?_) ?_
          ·refine step_appU rfl (.tmp 20) (.tmp 31) 46 rfl 9 i0 _ 1 16 Tryz.underlying46 hi0 hz0 hz1 hz2 rfl (by decide) HS.out 2 (by rfl) (by rfl) _ 1 1 [.string (t1 ++ ⟨#[32, 119, 32]⟩ ++ t2)] (by rfl) rfl (HS.out.news_slK 0 (by rfl)) (by simp [Value.oneCell']) (by omega) (by decide) ?_
           intro v12 w7 hs
           simp only [List.eraseIdx_cons_succ, List.eraseIdx_cons_zero] at hs
           replace HS := hid hs
           clear hs
           refine hK.out _ _ (HQ.out _ _ (HS.out.nth 2 rfl)) (fun _ => ?_)
           clear hK K
           try simp only [putU]
           refine wpAnyH_take (i := 13) (v := ?_) rfl (by kernel_rfl) (by kernel_rfl) (by kernel_rfl) (fun _ _ _ h => h) (Or.inl ⟨by rfl, ?_⟩) (HQ.out _ _ (HS.out.nth 2 rfl)) ?_
           rotate_left
           ·(intro w hSw; (try dsimp only at hSw); go_simp) <;> with_reducible rfl
           try simp only [putU]
           refine wpAnyH_done (by kernel_rfl) ?_ _
           have HZ := HS.out
           rw [← HST.out] at HZ
           have H8 := hid HZ.swap.tail.swap.tail
           clear HZ HS
           go_wp2_with fail
           go_roundw
           case rel => exact ⟨j + 1, by omega, by go_num, H8⟩
           case measure => simp [intOf]; omega
          exact AllReadyH.nil
         exact AllReadyH.nil
        exact AllReadyH.nil
       exact AllReadyH.nil
      refine AllReadyH.cons rfl (fun K hK => ?_) ?_
      ·go_simp
       replace HS := hid (HS.out.alloc_slU (e := 3) (size := 1) [.int .i64 key] 1 rfl (by unfold maxLen; omega))
       generalize w2.heap.size = b8 at HS ⊢
       refine act_any (fun w => Hid (S w0 w _)) HS (fun w3 HS => ?_)
       refine hK.out _ _ (HQ.out _ _ (HS.out.nth 2 rfl)) (fun _ => ?_)
       clear hK K
       refine wpAnyH_ready (rs := [4]) (by kernel_rfl) (by simp) ?_
       refine AllReadyH.cons rfl (fun K hK => ?_) ?_
       ·go_simp
        go_at_call 63
        with_reducible refine (HJ1.out _ _ _ (HS.out.nth 1 rfl)).mono ?_
        rintro r w4 ⟨rfl, hs⟩
        simp only [List.eraseIdx_cons_succ, List.eraseIdx_cons_zero] at hs
        replace HS := hid hs
        clear hs
        refine hK.out _ _ (HQ.out _ _ (HS.out.nth 1 rfl)) (fun _ => ?_)
        clear hK K
        refine wpAnyH_take (i := 5) (v := ?_) rfl (by kernel_rfl) (by kernel_rfl) (by kernel_rfl) (fun _ _ _ h => h) (Or.inl ⟨by rfl, ?_⟩) (HQ.out _ _ (HS.out.nth 1 rfl)) ?_
        rotate_left
        ·(intro w hSw; (try dsimp only at hSw); go_simp) <;> with_reducible rfl
        try simp only [putU]
        refine wpAnyH_ready (rs := [9]) (by kernel_rfl) (by simp) ?_
        refine AllReadyH.cons rfl (fun K hK => ?_) ?_
        ·go_simp
         go_at_call 63
         with_reducible refine (HJ2.out _ _ _ (HS.out.nth 0 rfl)).mono ?_
         rintro r w5 ⟨rfl, hs⟩
         simp only [List.eraseIdx_cons_succ, List.eraseIdx_cons_zero] at hs
         replace HS := hid hs
         clear hs
         refine hK.out _ _ (HQ.out _ _ (HS.out.nth 0 rfl)) (fun _ => ?_)
         clear hK K
         refine wpAnyH_take (i := 10) (v := ?_) rfl (by kernel_rfl) (by kernel_rfl) (by kernel_rfl) (fun _ _ _ h => h) (Or.inl ⟨by rfl, ?_⟩) (HQ.out _ _ (HS.out.nth 0 rfl)) ?_
         rotate_left
         ·(intro w hSw; (try dsimp only at hSw); go_simp) <;> with_reducible rfl
         try simp only [putU]
         refine wpAnyH_ready (rs := [11]) (by kernel_rfl) (by simp) ?_
         refine AllReadyH.cons rfl (fun K hK => ?_) ?_
         ·go_simp
          replace HS := hid (HS.out.alloc_slU (e := 9) (size := 1) [.string (t1 ++ ⟨#[32, 119, 32]⟩ ++ t2)] 1 rfl (by unfold maxLen; omega))
          generalize w5.heap.size = b11 at HS ⊢
          refine act_any (fun w => Hid (S w0 w _)) HS (fun w6 HS => ?_)
          refine hK.out _ _ (HQ.out _ _ (HS.out.nth 1 rfl)) (fun _ => ?_)
          clear hK K
          refine wpAnyH_ready (rs := [12]) (by kernel_rfl) (by simp) ?_
          refine AllReadyH.cons rfl (fun K hK => ?_) ?_
          ·refine step_appU rfl (.tmp 20) (.tmp 31) 46 rfl 9 i0 _ 1 16 Tryz.underlying46 hi0 hz0 hz1 hz2 rfl (by decide) HS.out 2 (by rfl) (by rfl) _ 1 1 [.string (t1 ++ ⟨#[32, 119, 32]⟩ ++ t2)] (by rfl) rfl (HS.out.news_slK 0 (by rfl)) (by simp [Value.oneCell']) (by omega) (by decide) ?_
           intro v12 w7 hs
           simp only [List.eraseIdx_cons_succ, List.eraseIdx_cons_zero] at hs
           replace HS := hid hs
           clear hs
           refine hK.out _ _ (HQ.out _ _ (HS.out.nth 2 rfl)) (fun _ => ?_)
           clear hK K
           try simp only [putU]
           refine wpAnyH_take (i := 13) (v := ?_) rfl (by kernel_rfl) (by kernel_rfl) (by kernel_rfl) (fun _ _ _ h => h) (Or.inl ⟨by rfl, ?_⟩) (HQ.out _ _ (HS.out.nth 2 rfl)) ?_
           rotate_left
           ·(intro w hSw; (try dsimp only at hSw); go_simp) <;> with_reducible rfl
           try simp only [putU]
           refine wpAnyH_done (by kernel_rfl) ?_ _
           have HZ := HS.out
           rw [← HST.out] at HZ
           have H8 := hid HZ.swap.tail.swap.tail
           clear HZ HS
           go_wp2_with fail
           go_roundw
           case rel => exact ⟨j + 1, by omega, by go_num, H8⟩
           case measure => simp [intOf]; omega
          exact AllReadyH.nil
         exact AllReadyH.nil
        exact AllReadyH.nil
       exact AllReadyH.nil
      exact AllReadyH.nil
     refine AllReadyH.cons rfl (fun K hK => ?_) ?_
     ·go_simp
      replace HS := hid (HS.out.alloc_slU (e := 3) (size := 1) [.int .i64 key] 1 rfl (by unfold maxLen; omega))
      generalize w1.heap.size = b8 at HS ⊢
      refine act_any (fun w => Hid (S w0 w _)) HS (fun w2 HS => ?_)
      refine hK.out _ _ (HQ.out _ _ (HS.out.nth 1 rfl)) (fun _ => ?_)
      clear hK K
      refine wpAnyH_ready (rs := [3]) (by kernel_rfl) (by simp) ?_
      refine AllReadyH.cons rfl (fun K hK => ?_) ?_
      ·go_simp
       replace HS := hid (HS.out.alloc_slU (e := 3) (size := 1) [.int .i64 tx] 1 rfl (by unfold maxLen; omega))
       generalize w2.heap.size = b3 at HS ⊢
       refine act_any (fun w => Hid (S w0 w _)) HS (fun w3 HS => ?_)
       refine hK.out _ _ (HQ.out _ _ (HS.out.nth 2 rfl)) (fun _ => ?_)
       clear hK K
       refine wpAnyH_ready (rs := [4]) (by kernel_rfl) (by simp) ?_
       refine AllReadyH.cons rfl (fun K hK => ?_) ?_
       ·go_simp
        go_at_call 63
        with_reducible refine (HJ1.out _ _ _ (HS.out.nth 0 rfl)).mono ?_
        rintro r w4 ⟨rfl, hs⟩
        simp only [List.eraseIdx_cons_succ, List.eraseIdx_cons_zero] at hs
        replace HS := hid hs
        clear hs
        refine hK.out _ _ (HQ.out _ _ (HS.out.nth 1 rfl)) (fun _ => ?_)
        clear hK K
        refine wpAnyH_take (i := 5) (v := ?_) rfl (by kernel_rfl) (by kernel_rfl) (by kernel_rfl) (fun _ _ _ h => h) (Or.inl ⟨by rfl, ?_⟩) (HQ.out _ _ (HS.out.nth 1 rfl)) ?_
        rotate_left
        ·(intro w hSw; (try dsimp only at hSw); go_simp) <;> with_reducible rfl
        try simp only [putU]
        refine wpAnyH_ready (rs := [9]) (by kernel_rfl) (by simp) ?_
        refine AllReadyH.cons rfl (fun K hK => ?_) ?_
        ·go_simp
         go_at_call 63
         with_reducible refine (HJ2.out _ _ _ (HS.out.nth 0 rfl)).mono ?_
         rintro r w5 ⟨rfl, hs⟩
         simp only [List.eraseIdx_cons_succ, List.eraseIdx_cons_zero] at hs
         replace HS := hid hs
         clear hs
         refine hK.out _ _ (HQ.out _ _ (HS.out.nth 0 rfl)) (fun _ => ?_)
         clear hK K
         refine wpAnyH_take (i := 10) (v := ?_) rfl (by kernel_rfl) (by kernel_rfl) (by kernel_rfl) (fun _ _ _ h => h) (Or.inl ⟨by rfl, ?_⟩) (HQ.out _ _ (HS.out.nth 0 rfl)) ?_
         rotate_left
         ·(intro w hSw; (try dsimp only at hSw); go_simp) <;> with_reducible rfl
         try simp only [putU]
         refine wpAnyH_ready (rs := [11]) (by kernel_rfl) (by simp) ?_
         refine AllReadyH.cons rfl (fun K hK => ?_) ?_
         ·go_simp
          replace HS := hid (HS.out.alloc_slU (e := 9) (size := 1) [.string (t1 ++ ⟨#[32, 119, 32]⟩ ++ t2)] 1 rfl (by unfold maxLen; omega))
          generalize w5.heap.size = b11 at HS ⊢
          refine act_any (fun w => Hid (S w0 w _)) HS (fun w6 HS => ?_)
          refine hK.out _ _ (HQ.out _ _ (HS.out.nth 1 rfl)) (fun _ => ?_)
          clear hK K
          refine wpAnyH_ready (rs := [12]) (by kernel_rfl) (by simp) ?_
          refine AllReadyH.cons rfl (fun K hK => ?_) ?_
          ·refine step_appU rfl (.tmp 20) (.tmp 31) 46 rfl 9 i0 _ 1 16 Tryz.underlying46 hi0 hz0 hz1 hz2 rfl (by decide) HS.out 2 (by rfl) (by rfl) _ 1 1 [.string (t1 ++ ⟨#[32, 119, 32]⟩ ++ t2)] (by rfl) rfl (HS.out.news_slK 0 (by rfl)) (by simp [Value.oneCell']) (by omega) (by decide) ?_
           intro v12 w7 hs
           simp only [List.eraseIdx_cons_succ, List.eraseIdx_cons_zero] at hs
           replace HS := hid hs
           clear hs
           refine hK.out _ _ (HQ.out _ _ (HS.out.nth 2 rfl)) (fun _ => ?_)
           clear hK K
           try simp only [putU]
           refine wpAnyH_take (i := 13) (v := ?_) rfl (by kernel_rfl) (by kernel_rfl) (by kernel_rfl) (fun _ _ _ h => h) (Or.inl ⟨by rfl, ?_⟩) (HQ.out _ _ (HS.out.nth 2 rfl)) ?_
           rotate_left
           ·(intro w hSw; (try dsimp only at hSw); go_simp) <;> with_reducible rfl
           try simp only [putU]
           refine wpAnyH_done (by kernel_rfl) ?_ _
           have HZ := HS.out
           rw [← HST.out] at HZ
           have H8 := hid HZ.swap.tail.swap.tail
           clear HZ HS
           go_wp2_with fail
           go_roundw
           case rel => exact ⟨j + 1, by omega, by go_num, H8⟩
           case measure => simp [intOf]; omega
          exact AllReadyH.nil
         exact AllReadyH.nil
        exact AllReadyH.nil
       exact AllReadyH.nil
      exact AllReadyH.nil
     exact AllReadyH.nil
    | false =>
     have hj2 := fun W v M h => HJ.out W v [key, fr] M (by simp) (by simp only [List.mem_cons, List.not_mem_nil, or_false]; rintro z (rfl | rfl) <;> first | exact hI.2.1 | exact hI.2.2) h
     have l2 := joinL_len (l := [key, fr]) (by simp only [List.mem_cons, List.not_mem_nil, or_false]; rintro z (rfl | rfl) <;> first | exact hI.2.1 | exact hI.2.2)
     have hst2 : sw ((hh.take (j + 1)).map opText) = sw ((hh.take j).map opText) ++ [.string ((⟨(joinL [tx]).toArray⟩ : ByteArray) ++ ⟨#[32, 114, 32]⟩ ++ ⟨(joinL [key, fr]).toArray⟩)] := by
      rw [hst]
      simp only [opText, ← glueL]
      rfl
     have e1 : (⟨(joinL [tx]).toArray⟩ : ByteArray).size = (joinL [tx]).length := by simp [ByteArray.size]
     have e2 : (⟨(joinL [key, fr]).toArray⟩ : ByteArray).size = (joinL [key, fr]).length := by simp [ByteArray.size]
     simp only [List.length_cons, List.length_nil, icells, List.map_cons, List.map_nil, Nat.zero_add, Nat.reduceAdd] at hj1 hj2 l1 l2
     generalize (⟨(joinL [tx]).toArray⟩ : ByteArray) = t1 at hj1 hst2 e1
     generalize (⟨(joinL [key, fr]).toArray⟩ : ByteArray) = t2 at hj2 hst2 e2
     have n1 : ¬ (t1.size + 3 > 9223372036854775807) := by omega
     have n2 : ¬ (t1.size + 3 + t2.size > 9223372036854775807) := by omega
     have hsx := hs5.alloc #[.int .i64 tx, .int .i64 key, .bool false, .int .i64 fr] 121
     have x0 := hsx.blk_cell 0 rfl
     have x1 := hsx.blk_cell 1 rfl
     have x2 := hsx.blk_cell 2 rfl
     have x3 := hsx.blk_cell 3 rfl
     have HS0 := hid hsx; have HST := hid hst2; have HQ := hid hq; have HJ1 := hid hj1; have HJ2 := hid hj2
     clear hp hI hst hst2 hs5 hsx H5 hq hj1 hj2 l1 l2 e1 e2 HHI HJ HOP HEN HSH HNU
     go_upto_region 8 with fail
     refine wp_region_held_drew (S := fun w' => w'.cell? ⟨wr.heap.size, 0, none⟩ = some (.int .i64 tx) ∧ w'.cell? ⟨wr.heap.size, 1, none⟩ = some (.int .i64 key) ∧ w'.cell? ⟨wr.heap.size, 3, none⟩ = some (.int .i64 fr)) (by kernel_rfl) (HQ.out _ _ (HS0.out.drew.nth 0 rfl)) (fun hHeld => ?_)
     refine wpAnyH_take (i := 0) (v := ?_) rfl (by kernel_rfl) (by kernel_rfl) (by kernel_rfl) (fun _ _ _ h => h) (Or.inl ⟨by rfl, ?_⟩) hHeld ?_
     rotate_left
     ·(intro w hSw; (try dsimp only at hSw); go_simp) <;> with_reducible rfl
     try simp only [putU]
     refine wpAnyH_take (i := 1) (v := ?_) rfl (by kernel_rfl) (by kernel_rfl) (by kernel_rfl) (fun _ _ _ h => h) (Or.inl ⟨by rfl, ?_⟩) hHeld ?_
     rotate_left
     ·(intro w hSw; (try dsimp only at hSw); go_simp) <;> with_reducible rfl
     try simp only [putU]
     refine wpAnyH_take (i := 2) (v := ?_) rfl (by kernel_rfl) (by kernel_rfl) (by kernel_rfl) (fun _ _ _ h => h) (Or.inl ⟨by rfl, ?_⟩) hHeld ?_
     rotate_left
     ·(intro w hSw; (try dsimp only at hSw); go_simp) <;> with_reducible rfl
     try simp only [putU]
     refine wpAnyH_take (i := 6) (v := ?_) rfl (by kernel_rfl) (by kernel_rfl) (by kernel_rfl) (fun _ _ _ h => h) (Or.inl ⟨by rfl, ?_⟩) hHeld ?_
     rotate_left
     ·(intro w hSw; (try dsimp only at hSw); go_simp) <;> with_reducible rfl
     try simp only [putU]
     refine wpAnyH_take (i := 7) (v := ?_) rfl (by kernel_rfl) (by kernel_rfl) (by kernel_rfl) (fun _ _ _ h => h) (Or.inl ⟨by rfl, ?_⟩) hHeld ?_
     rotate_left
     ·(intro w hSw; (try dsimp only at hSw); go_simp) <;> with_reducible rfl
     try simp only [putU]
     refine wpAnyH_take (i := 8) (v := ?_) rfl (by kernel_rfl) (by kernel_rfl) (by kernel_rfl) (fun _ _ _ h => h) (Or.inl ⟨by rfl, ?_⟩) hHeld ?_
     rotate_left
     ·(intro w hSw; (try dsimp only at hSw); go_simp) <;> with_reducible rfl
     try simp only [putU]
     refine wpAnyH_take (i := 9) (v := ?_) rfl (by kernel_rfl) (by kernel_rfl) (by kernel_rfl) (fun _ _ _ h => h) (Or.inl ⟨by rfl, ?_⟩) hHeld ?_
     rotate_left
     ·(intro w hSw; (try dsimp only at hSw); go_simp) <;> with_reducible rfl
     try simp only [putU]
     have HS := hid HS0.out.drew
     clear hHeld
     refine anyH_world (fun w => Hid (S w0 w _)) HS (fun w1 HS => ?_)
     clear HS0
     refine wpAnyH_ready (rs := [3, 10]) (by kernel_rfl) (by simp) ?_
     refine AllReadyH.cons rfl (fun K hK => ?_) ?_
     ·go_simp
      replace HS := hid (HS.out.alloc_slU (e := 3) (size := 1) [.int .i64 tx] 1 rfl (by unfold maxLen; omega))
      generalize w1.heap.size = b3 at HS ⊢
      refine act_any (fun w => Hid (S w0 w _)) HS (fun w2 HS => ?_)
      refine hK.out _ _ (HQ.out _ _ (HS.out.nth 1 rfl)) (fun _ => ?_)
      clear hK K
      refine wpAnyH_ready (rs := [4, 10]) (by kernel_rfl) (by simp) ?_
      refine AllReadyH.cons rfl (fun K hK => ?_) ?_
      ·go_simp
       go_at_call 63
       with_reducible refine (HJ1.out _ _ _ (HS.out.nth 0 rfl)).mono ?_
       rintro r w3 ⟨rfl, hs⟩
       simp only [List.eraseIdx_cons_succ, List.eraseIdx_cons_zero] at hs
       replace HS := hid hs
       clear hs
       refine hK.out _ _ (HQ.out _ _ (HS.out.nth 0 rfl)) (fun _ => ?_)
       clear hK K
       refine wpAnyH_take (i := 5) (v := ?_) rfl (by kernel_rfl) (by kernel_rfl) (by kernel_rfl) (fun _ _ _ h => h) (Or.inl ⟨by rfl, ?_⟩) (HQ.out _ _ (HS.out.nth 0 rfl)) ?_
       rotate_left
       ·(intro w hSw; (try dsimp only at hSw); go_simp) <;> with_reducible rfl
       try simp only [putU]
       refine wpAnyH_ready (rs := [10]) (by kernel_rfl) (by simp) ?_
       refine AllReadyH.cons rfl (fun K hK => ?_) ?_
       ·go_simp
        replace HS := hid (HS.out.alloc_slU (e := 3) (size := 1) [.int .i64 key, .int .i64 fr] 2 rfl (by unfold maxLen; omega))
        generalize w3.heap.size = b10 at HS ⊢
        refine act_any (fun w => Hid (S w0 w _)) HS (fun w4 HS => ?_)
        refine hK.out _ _ (HQ.out _ _ (HS.out.nth 1 rfl)) (fun _ => ?_)
        clear hK K
        refine wpAnyH_ready (rs := [11]) (by kernel_rfl) (by simp) ?_
        refine AllReadyH.cons rfl (fun K hK => ?_) ?_
        ·go_simp
         go_at_call 63
         with_reducible refine (HJ2.out _ _ _ (HS.out.nth 0 rfl)).mono ?_
         rintro r w5 ⟨rfl, hs⟩
         simp only [List.eraseIdx_cons_succ, List.eraseIdx_cons_zero] at hs
         replace HS := hid hs
         clear hs
         refine hK.out _ _ (HQ.out _ _ (HS.out.nth 0 rfl)) (fun _ => ?_)
         clear hK K
         refine wpAnyH_take (i := 12) (v := ?_) rfl (by kernel_rfl) (by kernel_rfl) (by kernel_rfl) (fun _ _ _ h => h) (Or.inl ⟨by rfl, ?_⟩) (HQ.out _ _ (HS.out.nth 0 rfl)) ?_
         rotate_left
         ·(intro w hSw; (try dsimp only at hSw); go_simp) <;> with_reducible rfl
         try simp only [putU]
         refine wpAnyH_ready (rs := [13]) (by kernel_rfl) (by simp) ?_
         refine AllReadyH.cons rfl (fun K hK => ?_) ?_
         ·go_simp
          replace HS := hid (HS.out.alloc_slU (e := 9) (size := 1) [.string (t1 ++ ⟨#[32, 114, 32]⟩ ++ t2)] 1 rfl (by unfold maxLen; omega))
          generalize w5.heap.size = b13 at HS ⊢
          refine act_any (fun w => Hid (S w0 w _)) HS (fun w6 HS => ?_)
          refine hK.out _ _ (HQ.out _ _ (HS.out.nth 1 rfl)) (fun _ => ?_)
          clear hK K
          refine wpAnyH_ready (rs := [14]) (by kernel_rfl) (by simp) ?_
          refine AllReadyH.cons rfl (fun K hK => ?_) ?_
          ·refine step_appU rfl (.tmp 33) (.tmp 46) 46 rfl 9 i0 _ 1 16 Tryz.underlying46 hi0 hz0 hz1 hz2 rfl (by decide) HS.out 2 (by rfl) (by rfl) _ 1 1 [.string (t1 ++ ⟨#[32, 114, 32]⟩ ++ t2)] (by rfl) rfl (HS.out.news_slK 0 (by rfl)) (by simp [Value.oneCell']) (by omega) (by decide) ?_
           intro v14 w7 hs
           simp only [List.eraseIdx_cons_succ, List.eraseIdx_cons_zero] at hs
           replace HS := hid hs
           clear hs
           refine hK.out _ _ (HQ.out _ _ (HS.out.nth 2 rfl)) (fun _ => ?_)
           clear hK K
           try simp only [putU]
           refine wpAnyH_take (i := 15) (v := ?_) rfl (by kernel_rfl) (by kernel_rfl) (by kernel_rfl) (fun _ _ _ h => h) (Or.inl ⟨by rfl, ?_⟩) (HQ.out _ _ (HS.out.nth 2 rfl)) ?_
           rotate_left
           ·(intro w hSw; (try dsimp only at hSw); go_simp) <;> with_reducible rfl
           try simp only [putU]
           refine wpAnyH_done (by kernel_rfl) ?_ _
           have HZ := HS.out
           rw [← HST.out] at HZ
           have H8 := hid HZ.swap.tail.swap.tail
           clear HZ HS
           go_wp2_with fail
           go_roundw
           case rel => exact ⟨j + 1, by omega, by go_num, H8⟩
           case measure => simp [intOf]; omega
          exact AllReadyH.nil
         exact AllReadyH.nil
        exact AllReadyH.nil
       exact AllReadyH.nil
      refine AllReadyH.cons rfl (fun K hK => ?_) ?_
      ·go_simp
       replace HS := hid (HS.out.alloc_slU (e := 3) (size := 1) [.int .i64 key, .int .i64 fr] 2 rfl (by unfold maxLen; omega))
       generalize w2.heap.size = b10 at HS ⊢
       refine act_any (fun w => Hid (S w0 w _)) HS (fun w3 HS => ?_)
       refine hK.out _ _ (HQ.out _ _ (HS.out.nth 2 rfl)) (fun _ => ?_)
       clear hK K
       refine wpAnyH_ready (rs := [4]) (by kernel_rfl) (by simp) ?_
       refine AllReadyH.cons rfl (fun K hK => ?_) ?_
       ·go_simp
        go_at_call 63
        with_reducible refine (HJ1.out _ _ _ (HS.out.nth 1 rfl)).mono ?_
        rintro r w4 ⟨rfl, hs⟩
        simp only [List.eraseIdx_cons_succ, List.eraseIdx_cons_zero] at hs
        replace HS := hid hs
        clear hs
        refine hK.out _ _ (HQ.out _ _ (HS.out.nth 1 rfl)) (fun _ => ?_)
        clear hK K
        refine wpAnyH_take (i := 5) (v := ?_) rfl (by kernel_rfl) (by kernel_rfl) (by kernel_rfl) (fun _ _ _ h => h) (Or.inl ⟨by rfl, ?_⟩) (HQ.out _ _ (HS.out.nth 1 rfl)) ?_
        rotate_left
        ·(intro w hSw; (try dsimp only at hSw); go_simp) <;> with_reducible rfl
        try simp only [putU]
        refine wpAnyH_ready (rs := [11]) (by kernel_rfl) (by simp) ?_
        refine AllReadyH.cons rfl (fun K hK => ?_) ?_
        ·go_simp
         go_at_call 63
         with_reducible refine (HJ2.out _ _ _ (HS.out.nth 0 rfl)).mono ?_
         rintro r w5 ⟨rfl, hs⟩
         simp only [List.eraseIdx_cons_succ, List.eraseIdx_cons_zero] at hs
         replace HS := hid hs
         clear hs
         refine hK.out _ _ (HQ.out _ _ (HS.out.nth 0 rfl)) (fun _ => ?_)
         clear hK K
         refine wpAnyH_take (i := 12) (v := ?_) rfl (by kernel_rfl) (by kernel_rfl) (by kernel_rfl) (fun _ _ _ h => h) (Or.inl ⟨by rfl, ?_⟩) (HQ.out _ _ (HS.out.nth 0 rfl)) ?_
         rotate_left
         ·(intro w hSw; (try dsimp only at hSw); go_simp) <;> with_reducible rfl
         try simp only [putU]
         refine wpAnyH_ready (rs := [13]) (by kernel_rfl) (by simp) ?_
         refine AllReadyH.cons rfl (fun K hK => ?_) ?_
         ·go_simp
          replace HS := hid (HS.out.alloc_slU (e := 9) (size := 1) [.string (t1 ++ ⟨#[32, 114, 32]⟩ ++ t2)] 1 rfl (by unfold maxLen; omega))
          generalize w5.heap.size = b13 at HS ⊢
          refine act_any (fun w => Hid (S w0 w _)) HS (fun w6 HS => ?_)
          refine hK.out _ _ (HQ.out _ _ (HS.out.nth 1 rfl)) (fun _ => ?_)
          clear hK K
          refine wpAnyH_ready (rs := [14]) (by kernel_rfl) (by simp) ?_
          refine AllReadyH.cons rfl (fun K hK => ?_) ?_
          ·refine step_appU rfl (.tmp 33) (.tmp 46) 46 rfl 9 i0 _ 1 16 Tryz.underlying46 hi0 hz0 hz1 hz2 rfl (by decide) HS.out 2 (by rfl) (by rfl) _ 1 1 [.string (t1 ++ ⟨#[32, 114, 32]⟩ ++ t2)] (by rfl) rfl (HS.out.news_slK 0 (by rfl)) (by simp [Value.oneCell']) (by omega) (by decide) ?_
           intro v14 w7 hs
           simp only [List.eraseIdx_cons_succ, List.eraseIdx_cons_zero] at hs
           replace HS := hid hs
           clear hs
           refine hK.out _ _ (HQ.out _ _ (HS.out.nth 2 rfl)) (fun _ => ?_)
           clear hK K
           try simp only [putU]
           refine wpAnyH_take (i := 15) (v := ?_) rfl (by kernel_rfl) (by kernel_rfl) (by kernel_rfl) (fun _ _ _ h => h) (Or.inl ⟨by rfl, ?_⟩) (HQ.out _ _ (HS.out.nth 2 rfl)) ?_
           rotate_left
           ·(intro w hSw; (try dsimp only at hSw); go_simp) <;> with_reducible rfl
           try simp only [putU]
           refine wpAnyH_done (by kernel_rfl) ?_ _
           have HZ := HS.out
           rw [← HST.out] at HZ
           have H8 := hid HZ.swap.tail.swap.tail
           clear HZ HS
           go_wp2_with fail
           go_roundw
           case rel => exact ⟨j + 1, by omega, by go_num, H8⟩
           case measure => simp [intOf]; omega
          exact AllReadyH.nil
         exact AllReadyH.nil
        exact AllReadyH.nil
       exact AllReadyH.nil
      exact AllReadyH.nil
     refine AllReadyH.cons rfl (fun K hK => ?_) ?_
     ·go_simp
      replace HS := hid (HS.out.alloc_slU (e := 3) (size := 1) [.int .i64 key, .int .i64 fr] 2 rfl (by unfold maxLen; omega))
      generalize w1.heap.size = b10 at HS ⊢
      refine act_any (fun w => Hid (S w0 w _)) HS (fun w2 HS => ?_)
      refine hK.out _ _ (HQ.out _ _ (HS.out.nth 1 rfl)) (fun _ => ?_)
      clear hK K
      refine wpAnyH_ready (rs := [3]) (by kernel_rfl) (by simp) ?_
      refine AllReadyH.cons rfl (fun K hK => ?_) ?_
      ·go_simp
       replace HS := hid (HS.out.alloc_slU (e := 3) (size := 1) [.int .i64 tx] 1 rfl (by unfold maxLen; omega))
       generalize w2.heap.size = b3 at HS ⊢
       refine act_any (fun w => Hid (S w0 w _)) HS (fun w3 HS => ?_)
       refine hK.out _ _ (HQ.out _ _ (HS.out.nth 2 rfl)) (fun _ => ?_)
       clear hK K
       refine wpAnyH_ready (rs := [4]) (by kernel_rfl) (by simp) ?_
       refine AllReadyH.cons rfl (fun K hK => ?_) ?_
       ·go_simp
        go_at_call 63
        with_reducible refine (HJ1.out _ _ _ (HS.out.nth 0 rfl)).mono ?_
        rintro r w4 ⟨rfl, hs⟩
        simp only [List.eraseIdx_cons_succ, List.eraseIdx_cons_zero] at hs
        replace HS := hid hs
        clear hs
        refine hK.out _ _ (HQ.out _ _ (HS.out.nth 1 rfl)) (fun _ => ?_)
        clear hK K
        refine wpAnyH_take (i := 5) (v := ?_) rfl (by kernel_rfl) (by kernel_rfl) (by kernel_rfl) (fun _ _ _ h => h) (Or.inl ⟨by rfl, ?_⟩) (HQ.out _ _ (HS.out.nth 1 rfl)) ?_
        rotate_left
        ·(intro w hSw; (try dsimp only at hSw); go_simp) <;> with_reducible rfl
        try simp only [putU]
        refine wpAnyH_ready (rs := [11]) (by kernel_rfl) (by simp) ?_
        refine AllReadyH.cons rfl (fun K hK => ?_) ?_
        ·go_simp
         go_at_call 63
         with_reducible refine (HJ2.out _ _ _ (HS.out.nth 0 rfl)).mono ?_
         rintro r w5 ⟨rfl, hs⟩
         simp only [List.eraseIdx_cons_succ, List.eraseIdx_cons_zero] at hs
         replace HS := hid hs
         clear hs
         refine hK.out _ _ (HQ.out _ _ (HS.out.nth 0 rfl)) (fun _ => ?_)
         clear hK K
         refine wpAnyH_take (i := 12) (v := ?_) rfl (by kernel_rfl) (by kernel_rfl) (by kernel_rfl) (fun _ _ _ h => h) (Or.inl ⟨by rfl, ?_⟩) (HQ.out _ _ (HS.out.nth 0 rfl)) ?_
         rotate_left
         ·(intro w hSw; (try dsimp only at hSw); go_simp) <;> with_reducible rfl
         try simp only [putU]
         refine wpAnyH_ready (rs := [13]) (by kernel_rfl) (by simp) ?_
         refine AllReadyH.cons rfl (fun K hK => ?_) ?_
         ·go_simp
          replace HS := hid (HS.out.alloc_slU (e := 9) (size := 1) [.string (t1 ++ ⟨#[32, 114, 32]⟩ ++ t2)] 1 rfl (by unfold maxLen; omega))
          generalize w5.heap.size = b13 at HS ⊢
          refine act_any (fun w => Hid (S w0 w _)) HS (fun w6 HS => ?_)
          refine hK.out _ _ (HQ.out _ _ (HS.out.nth 1 rfl)) (fun _ => ?_)
          clear hK K
          refine wpAnyH_ready (rs := [14]) (by kernel_rfl) (by simp) ?_
          refine AllReadyH.cons rfl (fun K hK => ?_) ?_
          ·refine step_appU rfl (.tmp 33) (.tmp 46) 46 rfl 9 i0 _ 1 16 Tryz.underlying46 hi0 hz0 hz1 hz2 rfl (by decide) HS.out 2 (by rfl) (by rfl) _ 1 1 [.string (t1 ++ ⟨#[32, 114, 32]⟩ ++ t2)] (by rfl) rfl (HS.out.news_slK 0 (by rfl)) (by simp [Value.oneCell']) (by omega) (by decide) ?_
           intro v14 w7 hs
           simp only [List.eraseIdx_cons_succ, List.eraseIdx_cons_zero] at hs
           replace HS := hid hs
           clear hs
           refine hK.out _ _ (HQ.out _ _ (HS.out.nth 2 rfl)) (fun _ => ?_)
           clear hK K
           try simp only [putU]
           refine wpAnyH_take (i := 15) (v := ?_) rfl (by kernel_rfl) (by kernel_rfl) (by kernel_rfl) (fun _ _ _ h => h) (Or.inl ⟨by rfl, ?_⟩) (HQ.out _ _ (HS.out.nth 2 rfl)) ?_
           rotate_left
           ·(intro w hSw; (try dsimp only at hSw); go_simp) <;> with_reducible rfl
           try simp only [putU]
           refine wpAnyH_done (by kernel_rfl) ?_ _
           have HZ := HS.out
           rw [← HST.out] at HZ
           have H8 := hid HZ.swap.tail.swap.tail
           clear HZ HS
           go_wp2_with fail
           go_roundw
           case rel => exact ⟨j + 1, by omega, by go_num, H8⟩
           case measure => simp [intOf]; omega
          exact AllReadyH.nil
         exact AllReadyH.nil
        exact AllReadyH.nil
       exact AllReadyH.nil
      exact AllReadyH.nil
     exact AllReadyH.nil
   ·obtain rfl : j = hh.length := by omega
    have h5 := H5.out
    rw [List.take_length] at h5
    have hml : (hh.map opText).length = hh.length := List.length_map ..
    have hjb := join_bound (hh.map opText) [44, 32] 66 (fun x hx => by
     obtain ⟨p, hp, rfl⟩ := List.mem_map.1 hx
     exact opText_len (HHI.out p hp))
    have hle : (Lib.join (hh.map opText) [44, 32]).length ≤ 1000000 := by rw [hml] at hjb; simp at hjb; omega
    have HSJ := hid (sjoin_any w0 wr _ (hh.map opText) [44, 32] _ (by rw [hml]; omega) (by omega) (by rw [hml]; exact h5))
    generalize Lib.join (hh.map opText) [44, 32] = T at HSJ hle HC
    have hnf : ¬ (8 + (⟨T.toArray⟩ : ByteArray).size > 9223372036854775807) := by
     have : (⟨T.toArray⟩ : ByteArray).size = T.length := by simp [ByteArray.size]
     rw [this]; omega
    clear h5 hml hjb H5 HHI HJ
    go_wp2_with (go_at_call 64; with_reducible refine HSJ.out.mono ?_; rintro r w6 ⟨rfl, hs6⟩; have H6 := hid hs6; clear hs6)
    go_ret
    rw [HC.out]
    refine ⟨?_, HSH.out _ B.eng bs (sl 3 1 u 0 (icells [])) (H6.out.tail.conv (by rw [HX.out]; simp only [all, sep_emp]))⟩
    show _ = Ending.returned _
    rw [← glueL]; rfl
end Go.Proofs.YtdlkjppppdminaaGreatDoor
/- What a line's first word does. -/
namespace Go.Proofs.YtdlkjppppdminaaGreatDoor
open Go Go.RowKit Go.Sep
def fnV (n : Nat) (k : Nat) : Value := .func (.func n) #[.pointer (some ⟨k, 0, none⟩)] #[]
theorem Tryz.keyStr : KeyOk Tryz.prog 9 Sep.encS (fun _ => True) := keyOk_str Tryz.underlying9
theorem Tryz.zero_cmd (w : World) : (zeroValue 32).run Tryz.prog w = .ok .nilFunc w := by kernel_rfl
def doesD (k : Nat) : List (ByteArray × Value) := mput (mput (mput (mput (mput (mput (mput (mput (mput (mput (mput (mput (mput (mput (mput ([]) (⟨#[97, 98, 111, 114, 116]⟩ : ByteArray) (fnV 35 k)) (⟨#[97, 108, 108]⟩ : ByteArray) (fnV 36 k)) (⟨#[98, 101, 103, 105, 110]⟩ : ByteArray) (fnV 37 k)) (⟨#[99, 111, 109, 109, 105, 116]⟩ : ByteArray) (fnV 38 k)) (⟨#[99, 117, 116]⟩ : ByteArray) (fnV 39 k)) (⟨#[104, 101, 108, 112]⟩ : ByteArray) (fnV 40 k)) (⟨#[104, 105, 115, 116, 111, 114, 121]⟩ : ByteArray) (fnV 41 k)) (⟨#[108, 105, 110, 101]⟩ : ByteArray) (fnV 42 k)) (⟨#[110, 111, 119]⟩ : ByteArray) (fnV 43 k)) (⟨#[111, 112, 101, 110]⟩ : ByteArray) (fnV 5 k)) (⟨#[114, 101, 97, 100]⟩ : ByteArray) (fnV 44 k)) (⟨#[115, 116, 97, 116, 101]⟩ : ByteArray) (fnV 45 k)) (⟨#[115, 119, 101, 101, 112]⟩ : ByteArray) (fnV 46 k)) (⟨#[119, 97, 105, 116, 115]⟩ : ByteArray) (fnV 47 k)) (⟨#[119, 114, 105, 116, 101]⟩ : ByteArray) (fnV 48 k)
def doesV (k : Nat) (s : ByteArray) : Value := (mget (doesD k) s).getD .nilFunc
set_option linter.unusedVariables false in
set_option linter.unusedSimpArgs false in
set_option maxRecDepth 40000 in
set_option maxHeartbeats 8000000 in
theorem does_any (w0 w : World) (k : Nat) (s : ByteArray) (L : List HProp) (hs : S w0 w L) :
  Calls Tryz.prog 22 #[.pointer (some ⟨k, 0, none⟩), .string s] w fun r w' => r = .returned (doesV k s) ∧ S w0 w' L := by
 have hmm := @run_makeMap Tryz.prog
 have hmf : ∀ (fn : Fn) (first cap : Array Value) (w : World), (Instr.makeFunc fn first cap).run Tryz.prog w = .ok (.func fn first cap) w := fun _ _ _ _ => rfl
 have h0 := hs.made (enc := Sep.encS) (ok := fun _ => True)
 obtain ⟨w1, r1, h1⟩ := h0.put Tryz.keyStr Tryz.underlying87 (⟨#[97, 98, 111, 114, 116]⟩ : ByteArray) trivial (fnV 35 k)
 generalize hD1 : mput [] (⟨#[97, 98, 111, 114, 116]⟩ : ByteArray) (fnV 35 k) = D1 at h1
 obtain ⟨w2, r2, h2⟩ := h1.put Tryz.keyStr Tryz.underlying87 (⟨#[97, 108, 108]⟩ : ByteArray) trivial (fnV 36 k)
 generalize hD2 : mput D1 (⟨#[97, 108, 108]⟩ : ByteArray) (fnV 36 k) = D2 at h2
 obtain ⟨w3, r3, h3⟩ := h2.put Tryz.keyStr Tryz.underlying87 (⟨#[98, 101, 103, 105, 110]⟩ : ByteArray) trivial (fnV 37 k)
 generalize hD3 : mput D2 (⟨#[98, 101, 103, 105, 110]⟩ : ByteArray) (fnV 37 k) = D3 at h3
 obtain ⟨w4, r4, h4⟩ := h3.put Tryz.keyStr Tryz.underlying87 (⟨#[99, 111, 109, 109, 105, 116]⟩ : ByteArray) trivial (fnV 38 k)
 generalize hD4 : mput D3 (⟨#[99, 111, 109, 109, 105, 116]⟩ : ByteArray) (fnV 38 k) = D4 at h4
 obtain ⟨w5, r5, h5⟩ := h4.put Tryz.keyStr Tryz.underlying87 (⟨#[99, 117, 116]⟩ : ByteArray) trivial (fnV 39 k)
 generalize hD5 : mput D4 (⟨#[99, 117, 116]⟩ : ByteArray) (fnV 39 k) = D5 at h5
 obtain ⟨w6, r6, h6⟩ := h5.put Tryz.keyStr Tryz.underlying87 (⟨#[104, 101, 108, 112]⟩ : ByteArray) trivial (fnV 40 k)
 generalize hD6 : mput D5 (⟨#[104, 101, 108, 112]⟩ : ByteArray) (fnV 40 k) = D6 at h6
 obtain ⟨w7, r7, h7⟩ := h6.put Tryz.keyStr Tryz.underlying87 (⟨#[104, 105, 115, 116, 111, 114, 121]⟩ : ByteArray) trivial (fnV 41 k)
 generalize hD7 : mput D6 (⟨#[104, 105, 115, 116, 111, 114, 121]⟩ : ByteArray) (fnV 41 k) = D7 at h7
 obtain ⟨w8, r8, h8⟩ := h7.put Tryz.keyStr Tryz.underlying87 (⟨#[108, 105, 110, 101]⟩ : ByteArray) trivial (fnV 42 k)
 generalize hD8 : mput D7 (⟨#[108, 105, 110, 101]⟩ : ByteArray) (fnV 42 k) = D8 at h8
 obtain ⟨w9, r9, h9⟩ := h8.put Tryz.keyStr Tryz.underlying87 (⟨#[110, 111, 119]⟩ : ByteArray) trivial (fnV 43 k)
 generalize hD9 : mput D8 (⟨#[110, 111, 119]⟩ : ByteArray) (fnV 43 k) = D9 at h9
 obtain ⟨w10, r10, h10⟩ := h9.put Tryz.keyStr Tryz.underlying87 (⟨#[111, 112, 101, 110]⟩ : ByteArray) trivial (fnV 5 k)
 generalize hD10 : mput D9 (⟨#[111, 112, 101, 110]⟩ : ByteArray) (fnV 5 k) = D10 at h10
 obtain ⟨w11, r11, h11⟩ := h10.put Tryz.keyStr Tryz.underlying87 (⟨#[114, 101, 97, 100]⟩ : ByteArray) trivial (fnV 44 k)
 generalize hD11 : mput D10 (⟨#[114, 101, 97, 100]⟩ : ByteArray) (fnV 44 k) = D11 at h11
 obtain ⟨w12, r12, h12⟩ := h11.put Tryz.keyStr Tryz.underlying87 (⟨#[115, 116, 97, 116, 101]⟩ : ByteArray) trivial (fnV 45 k)
 generalize hD12 : mput D11 (⟨#[115, 116, 97, 116, 101]⟩ : ByteArray) (fnV 45 k) = D12 at h12
 obtain ⟨w13, r13, h13⟩ := h12.put Tryz.keyStr Tryz.underlying87 (⟨#[115, 119, 101, 101, 112]⟩ : ByteArray) trivial (fnV 46 k)
 generalize hD13 : mput D12 (⟨#[115, 119, 101, 101, 112]⟩ : ByteArray) (fnV 46 k) = D13 at h13
 obtain ⟨w14, r14, h14⟩ := h13.put Tryz.keyStr Tryz.underlying87 (⟨#[119, 97, 105, 116, 115]⟩ : ByteArray) trivial (fnV 47 k)
 generalize hD14 : mput D13 (⟨#[119, 97, 105, 116, 115]⟩ : ByteArray) (fnV 47 k) = D14 at h14
 obtain ⟨w15, r15, h15⟩ := h14.put Tryz.keyStr Tryz.underlying87 (⟨#[119, 114, 105, 116, 101]⟩ : ByteArray) trivial (fnV 48 k)
 generalize hD15 : mput D14 (⟨#[119, 114, 105, 116, 101]⟩ : ByteArray) (fnV 48 k) = D15 at h15
 have hl := run_lookup_at Tryz.keyStr Tryz.underlying87 (Tryz.zero_cmd w15) h15.mapAt s trivial false
 have hfin := h15.tail
 simp only [Sep.encS, fnV] at r1 r2 r3 r4 r5 r6 r7 r8 r9 r10 r11 r12 r13 r14 r15
 simp only [Sep.encS, Bool.false_eq_true, if_false] at hl
 have HF := hid hfin
 rw [show (mget D15 s).getD .nilFunc = doesV k s by unfold doesV doesD; rw [hD1, hD2, hD3, hD4, hD5, hD6, hD7, hD8, hD9, hD10, hD11, hD12, hD13, hD14, hD15]] at hl
 generalize doesV k s = dv at hl ⊢
 clear h0 h1 h2 h3 h4 h5 h6 h7 h8 h9 h10 h11 h12 h13 h14 h15 hfin hs hD1 hD2 hD3 hD4 hD5 hD6 hD7 hD8 hD9 hD10 hD11 hD12 hD13 hD14 hD15
 go_enter Tryz.func22, Tryz.ntmps22
 go_wp2
 go_ret
 exact ⟨rfl, HF.out⟩
end Go.Proofs.YtdlkjppppdminaaGreatDoor
/- A line's command, as a value that can be called. -/
namespace Go.Proofs.YtdlkjppppdminaaGreatDoor
open Go Go.RowKit Go.Sep
abbrev Cmd := Bas → List (List UInt8) → Bas × Ans
noncomputable def cmdP (w : List UInt8) : Option Cmd := if w = [119, 114, 105, 116, 101] then some cWrite else if w = [119, 97, 105, 116, 115] then some cWaits else if w = [115, 119, 101, 101, 112] then some cSweep else if w = [115, 116, 97, 116, 101] then some cState else if w = [114, 101, 97, 100] then some cRead else if w = [111, 112, 101, 110] then some cOpen else if w = [110, 111, 119] then some cNow else if w = [108, 105, 110, 101] then some cRanks else if w = [104, 105, 115, 116, 111, 114, 121] then some cHist else if w = [104, 101, 108, 112] then some cHelp else if w = [99, 117, 116] then some cCut else if w = [99, 111, 109, 109, 105, 116] then some cCommit else if w = [98, 101, 103, 105, 110] then some cBegin else if w = [97, 108, 108] then some cAll else if w = [97, 98, 111, 114, 116] then some cAbort else none
def DoesF (n : Nat) (f : Cmd) : Prop := (∀ args w, (callFunc n args).run Tryz.prog w = .ok (.enter n args) w) ∧
 ∀ (w0 w : World) (k d : Nat) (B : Bas) (v : Value) (ws : List (List UInt8)) (L : List HProp) (N : Nat), ErrT w0 → LibAll w0 → Fits ws → BasOk N B → N ≤ 80000000 →
  S w0 w (deskP k d B :: sl 9 1 v ws.length (sw ws) :: L) → Calls Tryz.prog n #[.pointer (some ⟨k, 0, none⟩), v] w fun r w' => (f B ws).2.ends r ∧ S w0 w' (deskP k d (f B ws).1 :: L)
theorem bytes_eq {a : List UInt8} {b : Array UInt8} : (⟨a.toArray⟩ : ByteArray) = ⟨b⟩ ↔ a = b.toList := by
 constructor
 ·intro h; injection h with h; rw [← h]
 ·rintro rfl; simp
theorem cmd_does (c : List UInt8) (k : Nat) : (cmdP c = none ∧ doesV k ⟨c.toArray⟩ = .nilFunc) ∨ ∃ f n, cmdP c = some f ∧ doesV k ⟨c.toArray⟩ = fnV n k ∧ DoesF n f := by
 unfold cmdP doesV doesD
 simp only [mget_put, mget_nil, bytes_eq]
 by_cases h0 : c = [119, 114, 105, 116, 101]
 ·subst h0; exact .inr ⟨cWrite, _, rfl, rfl, fun args w => by kernel_rfl, cWrite_any⟩
 rw [if_neg h0, if_neg h0]
 by_cases h1 : c = [119, 97, 105, 116, 115]
 ·subst h1; exact .inr ⟨cWaits, _, rfl, rfl, fun args w => by kernel_rfl, cWaits_any⟩
 rw [if_neg h1, if_neg h1]
 by_cases h2 : c = [115, 119, 101, 101, 112]
 ·subst h2; exact .inr ⟨cSweep, _, rfl, rfl, fun args w => by kernel_rfl, cSweep_any⟩
 rw [if_neg h2, if_neg h2]
 by_cases h3 : c = [115, 116, 97, 116, 101]
 ·subst h3; exact .inr ⟨cState, _, rfl, rfl, fun args w => by kernel_rfl, cState_any⟩
 rw [if_neg h3, if_neg h3]
 by_cases h4 : c = [114, 101, 97, 100]
 ·subst h4; exact .inr ⟨cRead, _, rfl, rfl, fun args w => by kernel_rfl, cRead_any⟩
 rw [if_neg h4, if_neg h4]
 by_cases h5 : c = [111, 112, 101, 110]
 ·subst h5; exact .inr ⟨cOpen, _, rfl, rfl, fun args w => by kernel_rfl, cOpen_any⟩
 rw [if_neg h5, if_neg h5]
 by_cases h6 : c = [110, 111, 119]
 ·subst h6; exact .inr ⟨cNow, _, rfl, rfl, fun args w => by kernel_rfl, cNow_any⟩
 rw [if_neg h6, if_neg h6]
 by_cases h7 : c = [108, 105, 110, 101]
 ·subst h7; exact .inr ⟨cRanks, _, rfl, rfl, fun args w => by kernel_rfl, cRanks_any⟩
 rw [if_neg h7, if_neg h7]
 by_cases h8 : c = [104, 105, 115, 116, 111, 114, 121]
 ·subst h8; exact .inr ⟨cHist, _, rfl, rfl, fun args w => by kernel_rfl, cHist_any⟩
 rw [if_neg h8, if_neg h8]
 by_cases h9 : c = [104, 101, 108, 112]
 ·subst h9; exact .inr ⟨cHelp, _, rfl, rfl, fun args w => by kernel_rfl, cHelp_any⟩
 rw [if_neg h9, if_neg h9]
 by_cases h10 : c = [99, 117, 116]
 ·subst h10; exact .inr ⟨cCut, _, rfl, rfl, fun args w => by kernel_rfl, cCut_any⟩
 rw [if_neg h10, if_neg h10]
 by_cases h11 : c = [99, 111, 109, 109, 105, 116]
 ·subst h11; exact .inr ⟨cCommit, _, rfl, rfl, fun args w => by kernel_rfl, cCommit_any⟩
 rw [if_neg h11, if_neg h11]
 by_cases h12 : c = [98, 101, 103, 105, 110]
 ·subst h12; exact .inr ⟨cBegin, _, rfl, rfl, fun args w => by kernel_rfl, cBegin_any⟩
 rw [if_neg h12, if_neg h12]
 by_cases h13 : c = [97, 108, 108]
 ·subst h13; exact .inr ⟨cAll, _, rfl, rfl, fun args w => by kernel_rfl, cAll_any⟩
 rw [if_neg h13, if_neg h13]
 by_cases h14 : c = [97, 98, 111, 114, 116]
 ·subst h14; exact .inr ⟨cAbort, _, rfl, rfl, fun args w => by kernel_rfl, cAbort_any⟩
 rw [if_neg h14, if_neg h14]
 exact .inl ⟨rfl, rfl⟩
end Go.Proofs.YtdlkjppppdminaaGreatDoor
/- What a line leaves of the desk's base. No walk in sight. -/
namespace Go.Proofs.YtdlkjppppdminaaGreatDoor
open Go Go.RowKit Go.Sep
section
variable {B : Bas} {c : Nat}
theorem DeskI.up (h : DeskI c B) : DeskI (c + 1) B := ⟨h.ok.mono (by omega), h.neat.mono (by omega), h.why, h.pl, h.len, h.used⟩
theorem DeskI.turn (h : DeskI c B) {e : Eng} (h1 : OkT (10 + 1000 * (c + 1)) e []) (h2 : Neat (c + 1) e) (h3 : WhyB e) : DeskI (c + 1) { B with eng := e } := ⟨h1, h2, h3, h.pl, h.len, h.used⟩
theorem join_len2 {l : Vers} (h : Wide l) (hl : l.length ≤ 10) (k : Nat) (hk : k < 1000000) : (textL k l).length ≤ 1000 := by
 have h1 := join_len_le (swords k l) (fun x hx => by
  unfold swords pwords at hx
  rw [List.mem_cons, List.mem_flatMap] at hx
  rcases hx with rfl | ⟨p, hp, hx⟩
  ·exact num_len20 (by unfold I64; omega)
  ·simp only [List.mem_cons, List.not_mem_nil, or_false] at hx
   rcases hx with rfl | rfl
   ·exact num_len20 (h p hp).1
   ·exact num_len20 (h p hp).2)
 rw [swords_length] at h1
 unfold textL
 omega
theorem dseal_len (h : DeskI c B) (a : Int) : (sealL B.used (B.eng.writes a).1).length ≤ 2000 := by
 have hu := h.used
 have hw : (B.eng.writes a).1.length ≤ 10 ∧ Wide (B.eng.writes a).1 := by
  rcases (writes_cases B.eng a).2 with h0 | ⟨i, rfl, hi, h1⟩
  ·rw [h0]; exact ⟨by simp, fun p hp => by simp at hp⟩
  ·rw [h1]
   refine ⟨by rw [written_len]; exact own_few h.ok hi, fun p hp => ?_⟩
   have := written_ok h.ok hi p hp
   unfold keyOk valOk at this
   unfold I64; omega
 have h1 := join_len2 hw.2 hw.1 B.used (by omega)
 have h3 := dec_len (fnv_lt (textL B.used (B.eng.writes a).1))
 unfold sealL
 rw [List.length_append, List.length_cons]
 omega
theorem set_pl {d : List (List UInt8)} {k : Nat} {s : List UInt8} (hd : ∀ t ∈ d, t.length ≤ 2000) (hs : s.length ≤ 2000) : ∀ t ∈ d.set k s, t.length ≤ 2000 := fun t ht => by
 rcases List.mem_or_eq_of_mem_set ht with h | rfl
 ·exact hd t h
 ·exact hs
theorem openL_le : ∀ (ts : List (List UInt8)) (j : Nat) (V : List Vers), (openL ts j V).1 ≤ j + ts.length
 | [], j, V => by simp [openL]
 | t :: r, j, V => by
  cases h : openedP j t with
  | none => rw [openL_none h]; simp
  | some l =>
   by_cases hk : instOk (j : Int) ((j : Int) + 1) l = true
   ·rw [openL_some h hk]
    refine Nat.le_trans (openL_le r _ _) ?_
    simp only [List.length_cons]; omega
   ·rw [openL_no h hk]; simp
theorem DeskI.over {D : Dsk} (hp : ∀ t ∈ D.places, t.length ≤ 2000) (hl : D.places.length = 250) : DeskI c (Bas.mk (D.setCut (-1)) (D.setCut (-1)).engine (D.setCut (-1)).opens.1 false (-1)) := by
 refine ⟨(OkT.over _ _).mono (by omega), (Neat.over _ _).mono (by omega), WhyB.over _ _, hp, hl, ?_⟩
 have := openL_le (D.setCut (-1)).places 0 V0
 have h2 : (D.setCut (-1)).places.length = 250 := hl
 show (openL (D.setCut (-1)).places 0 V0).1 ≤ 250
 omega
def KeepsD (f : Cmd) : Prop := ∀ (c : Nat) (B : Bas) ws, c ≤ 3000 → DeskI c B → DeskI (c + 1) (f B ws).1
theorem dkeeps_begin : KeepsD cBegin := fun c B ws hc h => by
 unfold cBegin
 split
 ·exact h.turn ((h.ok.begun _).mono (by omega)) ((h.neat.begun _).mono (by omega)) (h.why.begun _)
 ·exact h.up
theorem dkeeps_read : KeepsD cRead := fun c B ws hc h => by
 unfold cRead
 split
 ·exact h.turn ((h.ok.red _ _).mono (by omega)) (h.neat.red h.ok _ _) (h.why.red h.ok _ _)
 ·exact h.up
theorem dkeeps_abort : KeepsD cAbort := fun c B ws hc h => by
 unfold cAbort
 split
 ·exact h.turn ((h.ok.aborted _).mono (by omega)) ((h.neat.aborted h.ok _).mono (by omega)) (h.why.aborted h.ok _)
 ·exact h.up
theorem dkeeps_write : KeepsD cWrite := fun c B ws hc h => by
 unfold cWrite
 split
 ·exact h.turn ((h.ok.wrote _ _ _).mono (by omega)) ((h.neat.wrote h.ok _ _ _).mono (by omega)) (h.why.wrote h.ok _ _ _)
 ·exact h.up
theorem dkeeps_sweep : KeepsD cSweep := fun c B ws hc h => by
 unfold cSweep
 split
 ·exact h.turn (h.ok.swept.mono (by omega)) (h.neat.swept.mono (by omega)) h.why.swept
 ·exact h.up
theorem dkeeps_commit : KeepsD cCommit := fun c B ws hc h => by
 unfold cCommit
 split
 ·rename_i a _
  have hs := dseal_len h a
  have hco : OkT (10 + 1000 * (c + 1)) (B.eng.commit a).1 [] := (h.ok.committed a).mono (by omega)
  have hcn : Neat (c + 1) (B.eng.commit a).1 := (h.neat.committed h.ok a).mono (by omega)
  have hcw := h.why.committed h.ok a
  unfold Bas.commit
  split
  ·exact h.up
  split
  ·exact h.turn hco hcn hcw
  split
  ·exact h.up
  split
  ·exact h.up
  rename_i _ _ _ hu
  split
  ·refine ⟨h.ok.mono (by omega), h.neat.mono (by omega), h.why, ?_, ?_, h.used⟩
   ·show ∀ t ∈ (B.dsk.tear B.used (sealL B.used (B.eng.writes a).1) B.torn).places, _
    unfold Dsk.tear
    split
    ·exact set_pl h.pl (by rw [List.length_take]; omega)
    ·exact h.pl
   ·show (B.dsk.tear B.used (sealL B.used (B.eng.writes a).1) B.torn).places.length = 250
    unfold Dsk.tear
    split
    ·simpa using h.len
    ·exact h.len
  ·exact ⟨hco, hcn, hcw, set_pl h.pl hs, by simpa [Dsk.put] using h.len, by show B.used + 1 ≤ 250; omega⟩
 ·exact h.up
theorem dkeeps_cut : KeepsD cCut := fun c B ws hc h => by
 unfold cCut
 split
 ·exact ⟨h.up.ok, h.up.neat, h.why, h.pl, h.len, h.used⟩
 ·exact h.up
theorem dkeeps_open : KeepsD cOpen := fun c B ws hc h => by
 unfold cOpen
 split
 ·exact DeskI.over h.pl h.len
 ·exact h.up
theorem dkeeps_rest : KeepsD cState ∧ KeepsD cWaits ∧ KeepsD cHelp ∧ KeepsD cAll ∧ KeepsD cRanks ∧ KeepsD cNow ∧ KeepsD cHist := by
 refine ⟨?_, ?_, ?_, ?_, ?_, ?_, ?_⟩ <;> intro c B ws hc h
 ·unfold cState; split <;> exact h.up
 ·unfold cWaits; split <;> exact h.up
 ·unfold cHelp; split <;> exact h.up
 ·unfold cAll; split <;> exact h.up
 ·unfold cRanks; split <;> exact h.up
 ·unfold cNow; split <;> exact h.up
 ·unfold cHist; split <;> exact h.up
end
end Go.Proofs.YtdlkjppppdminaaGreatDoor
/- The desk's line: its deferred closure. -/
namespace Go.Proofs.YtdlkjppppdminaaGreatDoor
open Go Go.RowKit Go.Sep
set_option maxRecDepth 40000 in
set_option maxHeartbeats 4000000 in
theorem line1_panic (w0 w : World) (o : Nat) (e : Int) (he : I64 e) (x : ByteArray) (L : List HProp) (hL : LibAll w0) (hs : S w0 w (blk o 9 [.string x] :: L)) :
  CallsD Tryz.prog 18 #[.pointer (some ⟨o, 0, none⟩)] (.panicking [{ v := .iface 56 (.agg #[.int .i64 e]), recovered := false }]) w fun r u' w' =>
   r = .returned (.tuple #[]) ∧ u' = .panicking [{ v := .iface 56 (.agg #[.int .i64 e]), recovered := true }] ∧ S w0 w' (blk o 9 [.string ⟨([101, 114, 114, 111, 114, 32] ++ num e).toArray⟩] :: L) := by
 have hsx := hs.alloc #[.int .i64 e] 56
 have HI := hid (itoa_any e he w0 _ _ hL.1.1 hsx)
 have hnl := joinL_len (l := [e]) (by simp only [List.mem_cons, List.not_mem_nil, or_false]; rintro z rfl; exact he)
 have c0 := hsx.blk_cell 0 rfl
 have hnf : ¬ (6 + (⟨(num e).toArray⟩ : ByteArray).size > 9223372036854775807) := by
  have : (⟨(num e).toArray⟩ : ByteArray).size = (num e).length := by simp [ByteArray.size]
  have h2 : (joinL [e]).length = (num e).length := by unfold joinL; simp [Lib.join_one]
  rw [this]; simp only [List.length_cons, List.length_nil] at hnl; omega
 have HS := hid hs
 have hta : ∀ w, (Instr.typeAssert (.iface 56 (.agg #[.int .i64 e])) 20 56 true).run Tryz.prog w = .ok (.tuple #[.agg #[.int .i64 e], .bool true]) w := fun w => by kernel_rfl
 have hne : ∀ (T : TypeId) (p : Value) w, (binOp .neq 20 (.iface T p) .nilIface).run Tryz.prog w = .ok (.bool true) w := fun T p w => by kernel_rfl
 clear hs hsx
 refine callsD_of_wpS Tryz.func18 rfl fun c₀ cs hu => ?_
 apply wpS_seq
 apply wpS_region
 simp [wpOpsS, go_sem, recoverD, hu, Tryz.ntmps18, Exit.thenS]
 refine wpS_of_wp (Code.wp_mono (Q := fun ex a w' => ex = .normal ∧ a.defers = [] ∧ S w0 w' (blk o 9 [.string ⟨([101, 114, 114, 111, 114, 32] ++ num e).toArray⟩] :: L)) ?_ ?_)
 ·rintro ex a w' ⟨rfl, h1, h2⟩
  simp [bodyPostS, h1, results, Tryz.results18, go_sem]
  exact h2
 have eT : (#[Value.pointer (some ⟨o, 0, none⟩)] ++ ((Array.replicate 18 undef).setIfInBounds 3 (Value.iface 56 (Value.agg #[Value.int .i64 e]))).setIfInBounds 0 (Value.iface 56 (Value.agg #[Value.int .i64 e]))) = #[Value.pointer (some ⟨o, 0, none⟩), (Value.iface 56 (Value.agg #[Value.int .i64 e])), undef, undef, (Value.iface 56 (Value.agg #[Value.int .i64 e])), undef, undef, undef, undef, undef, undef, undef, undef, undef, undef, undef, undef, undef, undef] := by kernel_rfl
 rw [eT]
 go_wp2_with (go_at_call 19; with_reducible refine HI.out.mono ?_; rintro r w1 ⟨rfl, hs1⟩; have c1 := hs1.tail.blk_cell 0 rfl; have f1 := hs1.tail.blk_free 0; have H1 := hid hs1.tail; clear hs1)
 have h9 := H1.out.blk_set 0 (by simp) (.string ((⟨#[101, 114, 114, 111, 114, 32]⟩ : ByteArray) ++ ⟨(num e).toArray⟩))
 rw [show (⟨#[101, 114, 114, 111, 114, 32]⟩ : ByteArray) ++ ⟨(num e).toArray⟩ = ⟨([101, 114, 114, 111, 114, 32] ++ num e).toArray⟩ from glueL [101, 114, 114, 111, 114, 32] (num e)] at h9
 exact h9
set_option maxRecDepth 40000 in
set_option maxHeartbeats 4000000 in
theorem line1_still (w0 w : World) (o : Nat) (L : List HProp) (hs : S w0 w L) :
  CallsD Tryz.prog 18 #[.pointer (some ⟨o, 0, none⟩)] .returning w fun r u' w' => r = .returned (.tuple #[]) ∧ u' = .returning ∧ S w0 w' L := by
 refine callsD_of_wpS Tryz.func18 rfl fun c₀ cs hu => ?_
 apply wpS_seq
 apply wpS_region
 simp [wpOpsS, go_sem, recoverD, hu, Tryz.ntmps18, Exit.thenS]
 refine wpS_of_wp (Code.wp_mono (Q := fun ex a w' => ex = .normal ∧ a.defers = [] ∧ S w0 w' L) ?_ ?_)
 ·rintro ex a w' ⟨rfl, h1, h2⟩
  cases c₀
  simp_all [bodyPostS, results, Tryz.results18, go_sem]
 have eT : (#[Value.pointer (some ⟨o, 0, none⟩)] ++ ((Array.replicate 18 undef).setIfInBounds 3 Value.nilIface).setIfInBounds 0 Value.nilIface) = #[Value.pointer (some ⟨o, 0, none⟩), .nilIface, undef, undef, .nilIface, undef, undef, undef, undef, undef, undef, undef, undef, undef, undef, undef, undef, undef, undef] := by kernel_rfl
 rw [eT]
 have HS := hid hs
 clear hs hu
 go_wp2_with fail
 exact HS.out
end Go.Proofs.YtdlkjppppdminaaGreatDoor
namespace Go.Proofs.YtdlkjppppdminaaGreatDoor
open Go Go.RowKit Go.Sep
theorem spans_len (p : Nat → Bool) (s : ByteArray) : ∀ (f pos : Nat) (st : Option Nat) (acc : List (Nat × Nat)), (Lib.spansFromP p s f pos st acc).1.length ≤ acc.length + f
 | 0, _, _, _ => by simp [Lib.spansFromP]
 | f + 1, pos, st, acc => by
  unfold Lib.spansFromP
  split
  ·split <;> cases st <;> refine Nat.le_trans (spans_len p s f _ _ _) ?_ <;> simp <;> omega
  ·simp
def wordsL (s : List UInt8) : List (List UInt8) := (Lib.goFieldsP (· == 32) ⟨s.toArray⟩).map fun x => x.data.toList
theorem words_fit {s : List UInt8} (h : s.length ≤ 90000) : Fits (wordsL s) := by
 have hz : (⟨s.toArray⟩ : ByteArray).size = s.length := by simp [ByteArray.size]
 constructor
 ·unfold wordsL Lib.goFieldsP Lib.spansOfP Lib.closeSpans
  have := spans_len (· == 32) ⟨s.toArray⟩ (⟨s.toArray⟩ : ByteArray).size 0 none []
  simp only [List.length_nil, Nat.zero_add] at this
  simp only [List.length_map]
  split <;> (try simp only [List.length_append, List.length_cons, List.length_nil]) <;> omega
 ·intro x hx
  unfold wordsL Lib.goFieldsP at hx
  simp only [List.map_map, List.mem_map] at hx
  obtain ⟨q, _, rfl⟩ := hx
  simp
  omega
theorem words_sw (s : List UInt8) : (Lib.goFieldsP (· == 32) ⟨s.toArray⟩).map Value.string = sw (wordsL s) := by
 unfold wordsL sw
 rw [List.map_map]
 rfl
theorem words_len (s : List UInt8) : (Lib.goFieldsP (· == 32) ⟨s.toArray⟩).length = (wordsL s).length := by unfold wordsL; simp
set_option maxRecDepth 40000 in
theorem line2_any (w : World) (x : Int) : Calls Tryz.prog 21 #[.int .i32 x] w fun r w' => r = .returned (.bool (x == 32)) ∧ w' = w := by
 go_enter Tryz.func21, Tryz.ntmps21
 go_wp2
 go_ret
 exact ⟨rfl, rfl⟩
theorem fields_any (w0 w : World) (s : List UInt8) (L : List HProp) (hl : s.length ≤ 90000) (hs : S w0 w L) :
  Calls Tryz.prog 20 #[.string ⟨s.toArray⟩, .func (.func 21) #[] #[]] w fun r w' => ∃ v, r = .returned v ∧ S w0 w' (sl 9 1 v (wordsL s).length (sw (wordsL s)) :: L) := by
 have hz : (⟨s.toArray⟩ : ByteArray).size = s.length := by simp [ByteArray.size]
 refine (Shd.Tryz.strings_FieldsFunc 21 #[] (fun args w => by kernel_rfl) (· == 32) ⟨s.toArray⟩ w (by omega) (fun W x _ => ?_)).mono fun r w' h => ?_
 ·refine (line2_any W x).mono fun r w' h => ?_
  obtain ⟨rfl, rfl⟩ := h
  refine ⟨?_, 0, rfl⟩
  rw [show ((x : Int) == 32) = (x == 32) by rw [Bool.eq_iff_iff]; simp only [beq_iff_eq]; omega]
 ·obtain ⟨A, rfl, _, h1, h2⟩ := h
  rw [words_sw, words_len] at h1
  rw [words_len]
  exact ⟨_, rfl, hs.row_in h2 h1⟩
end Go.Proofs.YtdlkjppppdminaaGreatDoor
