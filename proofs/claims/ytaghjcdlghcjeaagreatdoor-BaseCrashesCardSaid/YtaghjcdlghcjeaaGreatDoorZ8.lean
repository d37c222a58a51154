/- The program's engine: New. -/
import Derived.Test.YtaghjcdlghcjeaaGreatDoorZ1
import Derived.Test.YtaghjcdlghcjeaaGreatDoorZ2
import Derived.Test.YtaghjcdlghcjeaaGreatDoorZ7
import Derived.Laws.Bits64
import Derived.Lib.SmallJoins
import Derived.BigQuiet
import Derived.Lib.Builder
/- base.sealed: the walk. Condition: the library's table of powers of ten is laid. -/
namespace Go.Proofs.YtaghjcdlghcjeaaGreatDoor
open Go Go.RowKit Go.Sep

/-- Words, as values. -/
def sw (ws : List (List UInt8)) : List Value := ws.map fun x => .string ⟨x.toArray⟩
theorem sw_append (a b : List (List UInt8)) : sw (a ++ b) = sw a ++ sw b := by simp [sw]
theorem sw_length (a : List (List UInt8)) : (sw a).length = a.length := by simp [sw]
theorem itoa_any (i : Int) (h : 0 ≤ i ∧ i < 100) (w : World) : Calls Tryz.prog 55 #[.int .i64 i] w fun r w' => r = .returned (.string ⟨(num i).toArray⟩) ∧ w = w' := by
  have := Shs.Tryz.strconv_Itoa_small i.toNat (by omega) w
  rw [show ((i.toNat : Nat) : Int) = i by omega] at this
  exact this.mono fun e w' ⟨h1, h2⟩ => ⟨h1, h2.symm⟩
theorem Two.at {l : Vers} (h : Two l) {j : Nat} {p : Int × Int} (hp : l[j]? = some p) : (0 ≤ p.1 ∧ p.1 < 100) ∧ (0 ≤ p.2 ∧ p.2 < 100) := h p (List.mem_of_getElem? hp)

theorem fnv_cast (x : Nat) : ((x : Int) * 1099511628211) % 18446744073709551616 = ((x * 1099511628211 % 18446744073709551616 : Nat) : Int) := by
  omega
theorem fnv_next {n : Nat} (h : n < 18446744073709551616) {b : UInt8} : IntKind.u64.wrap (bits .xor .u64 (n : Int) (IntKind.u64.wrap (b.toNat : Int)) * 1099511628211) = (fnvStep n b : Int) := by
  have hb := b.toNat_lt
  generalize hB : b.toNat = B at hb
  have e1 : IntKind.u64.wrap (B : Int) = (B : Int) := by
    rw [IntKind.wrap_u64]
    exact Int.emod_eq_of_lt (Int.natCast_nonneg _) (by omega)
  have e2 := bits_xor_u64_nat n B h (by omega)
  have e3 : fnvStep n b = (n ^^^ B) * 1099511628211 % 18446744073709551616 := by unfold fnvStep; rw [hB]
  rw [e1, e2, IntKind.wrap_u64, e3]
  exact fnv_cast _
theorem foldl_take {α β : Type} (f : α → β → α) (n : α) {T : List β} {j : Nat} (h : j < T.length) : (T.take (j + 1)).foldl f n = f ((T.take j).foldl f n) T[j] := by
  rw [List.take_add_one, List.getElem?_eq_getElem h, List.foldl_append]; rfl
theorem fnv_take {T : List UInt8} {j : Nat} (h : j < T.length) (n : Nat) : fnvFrom n (T.take (j + 1)) = fnvStep (fnvFrom n (T.take j)) T[j] := foldl_take fnvStep n h
theorem dec_len {u : Nat} (h : u < 18446744073709551616) : (Lib.decDigits u).length ≤ 20 := by
  rw [Lib.decDigits_length]
  rcases Nat.eq_zero_or_pos u with rfl | h1
  · rw [← Lib.decDigits_length, Lib.decDigits, dif_pos (by decide)]; decide
  · have := Lib.numDigits_eq u h1 h
    split at this <;> omega
theorem glue (a b : List UInt8) : (⟨a.toArray⟩ : ByteArray) ++ ⟨#[32]⟩ ++ ⟨b.toArray⟩ = ⟨(a ++ 32 :: b).toArray⟩ := by
  apply ByteArray.ext
  simp [ByteArray.data_append]
theorem words_back (ws : List (List UInt8)) : (ws.map fun x => (⟨x.toArray⟩ : ByteArray)).map (·.data.toList) = ws := by
  rw [List.map_map]
  conv => rhs; rw [← List.map_id ws]
  exact List.map_congr_left fun x _ => rfl
theorem join_len_le : ∀ (ws : List (List UInt8)), (∀ x ∈ ws, x.length ≤ 2) → (Lib.join ws [32]).length ≤ 3 * ws.length
  | [], _ => by simp [Lib.join, List.intercalate]
  | [a], h => by rw [Lib.join_one]; have := h a (by simp); simp; omega
  | a :: b :: r, h => by
    rw [join_cons2, List.length_append, List.length_cons]
    have h1 := h a (by simp)
    have h2 := join_len_le (b :: r) (fun x hx => h x (by simp [hx]))
    simp only [List.length_cons] at h2 ⊢
    omega
theorem join_len {l : Vers} (h : Two l) (hl : l.length ≤ 1000) (k : Nat) (hk : k < 100) : (textL k l).length ≤ 10000 := by
  have h1 := join_len_le (swords k l) (fun x hx => by
    unfold swords pwords at hx
    rw [List.mem_cons, List.mem_flatMap] at hx
    rcases hx with rfl | ⟨p, hp, hx⟩
    · exact (num_len (by omega)).1
    · simp only [List.mem_cons, List.not_mem_nil, or_false] at hx
      rcases hx with rfl | rfl
      · exact (num_len (h p hp).1.2).1
      · exact (num_len (h p hp).2.2).1)
  rw [swords_length] at h1
  unfold textL
  omega

set_option maxRecDepth 40000 in
set_option maxHeartbeats 4000000 in
theorem sealed_any (w0 w : World) (k : Nat) (v : Value) (l : Vers) (L : List HProp) (hk : k < 100) (h2 : Two l) (hl : l.length ≤ 1000) (hp10 : Pow10 w0) (hs : S w0 w L) (hr : RdK w0 L v l.length (pcells l)) :
    Calls Tryz.prog 37 #[.int .i64 k, v] w fun r w' => r = .returned (.string (sealB k l)) ∧ S w0 w' L := by
  obtain ⟨a, cap, rfl, hcap, hcap2, _⟩ := hr w hs
  unfold maxLen at hcap2
  have hit := itoa_any k ⟨by omega, by omega⟩ w
  have hb := S.sl_blk (n := 1) (size := 1) (xs := [.string ⟨(num k).toArray⟩]) rfl (by decide) (hs.alloc #[.string ⟨(num k).toArray⟩] 9)
  have H0 := hid hb; have HR := hid hr; have HI := hid hit; have HTW := hid h2; have HL := hid hl; have HP10 := hid hp10; have HK := hid hk
  clear hs hr hb hit h2 hl hp10 hk
  go_enter Tryz.func37, Tryz.ntmps37
  go_wp2_with (go_at_call 55; with_reducible refine HI.out.mono ?_; rintro r w' ⟨rfl, rfl⟩)
  go_loopw [5, 16] (fun wv c wr => ∃ j : Nat, j ≤ l.length ∧ c = .int .i64 j ∧ S w0 wr (sl 9 1 wv (1 + 2 * j) (sw (swords k (l.take j))) :: L)) (fun _ c _ => l.length - (intOf c).toNat)
  case atStart => exact ⟨0, Nat.zero_le _, rfl, H0.out⟩
  case round =>
    rename World => wr
    obtain ⟨j, hj, rfl, hsr⟩ := hrel
    clear H0
    by_cases hlt : j < l.length
    · have hp : l[j]? = some l[j] := by simp [hlt]
      generalize l[j] = p at hp
      obtain ⟨g, og, rfl, c0, c1⟩ := HR.out.pair hsr.tail hp
      obtain ⟨aw, cw, rfl, hcw, hcw2, _⟩ := hsr.sl_val
      have htw := HTW.out.at hp
      have HI1 := hid (fun W => itoa_any p.1 htw.1 W)
      have HI2 := hid (fun W => itoa_any p.2 htw.2 W)
      have hst : swords k (l.take (j + 1)) = swords k (l.take j) ++ [num p.1, num p.2] := by unfold swords; rw [pwords_take_succ hp]; rfl
      obtain ⟨i0, hi0, hz0, hz1, hz2⟩ := info_parts (show (Tryz.prog.info? 9).map (fun i => (i.zero, i.size, i.bytes)) = some (some (.string ByteArray.empty), 1, 16) by kernel_rfl)
      have hs1 := hsr.alloc #[.int .i64 p.1, .int .i64 p.2] 51
      have q0 : (wr.alloc (.cells #[.int .i64 p.1, .int .i64 p.2] 51)).drew.cell? ⟨wr.heap.size, 0, none⟩ = some (.int .i64 p.1) ∧ (wr.alloc (.cells #[.int .i64 p.1, .int .i64 p.2] 51)).drew.cell? ⟨wr.heap.size, 1, none⟩ = some (.int .i64 p.2) := ⟨hs1.drew.blk_cell 0 rfl, hs1.drew.blk_cell 1 rfl⟩
      have es : ((wr.alloc (.cells #[.int .i64 p.1, .int .i64 p.2] 51)).drew).heap.size = wr.heap.size + 1 := by simp
      have hs2 := hs1.drew.alloc #[.string ⟨(num p.1).toArray⟩, .string ⟨(num p.2).toArray⟩] 9
      rw [es] at hs2
      have hn2 := news_blk hs2
      have hs3 : S w0 ((wr.alloc (.cells #[.int .i64 p.1, .int .i64 p.2] 51)).drew.alloc (.cells #[.string ⟨(num p.1).toArray⟩, .string ⟨(num p.2).toArray⟩] 9)) (sl 9 1 (.slice aw (1 + 2 * j) cw) (1 + 2 * j) (sw (swords k (l.take j))) :: blk wr.heap.size 51 [.int .i64 p.1, .int .i64 p.2] :: L) := hs2.tail.swap
      have hl2 := HL.out
      have H3 := hid hs3; have HN := hid hn2; have HST := hid hst
      clear hsr hs1 hst hp hs2 hn2 hs3 es
      go_upto_region 5 with fail
      go_region_held_law (fun w' => w'.cell? ⟨wr.heap.size, 0, none⟩ = some (.int .i64 p.1) ∧ w'.cell? ⟨wr.heap.size, 1, none⟩ = some (.int .i64 p.2)) (first | (with_reducible assumption) | (with_reducible exact q0) | go_keep)
        (first
          | (go_at_call 55; with_reducible refine (HI1.out _).mono ?_; rintro r w' ⟨rfl, rfl⟩)
          | (go_at_call 55; with_reducible refine (HI2.out _).mono ?_; rintro r w' ⟨rfl, rfl⟩)
          | (refine step_append rfl (.tmp 20) (.tmp 27) 100 rfl 9 i0 _ 1 16 Tryz.underlying100 hi0 hz0 hz1 hz2 rfl (by decide) H3.out rfl (some ⟨wr.heap.size + 1, 0, none⟩) 2 2 [.string ⟨(num p.1).toArray⟩, .string ⟨(num p.2).toArray⟩] rfl rfl HN.out (by simp [Value.oneCell']) (by unfold maxLen; omega) (by omega) ?_; intro v1 w5 hs5; have q1 := And.intro (hs5.tail.blk_cell 0 rfl) (hs5.tail.blk_cell 1 rfl); have H5 := hid hs5; clear hs5))
      go_wp2_with fail
      go_roundw
      case rel => exact ⟨j + 1, by omega, by go_num, by rw [HST.out, sw_append, show 1 + 2 * (j + 1) = 1 + 2 * j + 2 by omega]; exact H5.out.swap.tail⟩
      case measure => simp [intOf]; omega
    · obtain rfl : j = l.length := by omega
      rw [List.take_length] at hsr
      have hwl : (sw (swords k l)).length = 1 + 2 * l.length := by rw [sw_length, swords_length]; omega
      obtain ⟨gw, ow, cw, rfl, hcw, hcw2, hg0, hg1, hgc, _⟩ := hsr.sl_some (by rw [hwl]; omega)
      have hlen := join_len HTW.out HL.out k HK.out
      have hj := Shs.Tryz.strings_Join gw ow cw ((swords k l).map fun x => ⟨x.toArray⟩) blankB wr (fun j x hx => by
        rw [List.getElem?_map, Option.map_eq_some_iff] at hx
        obtain ⟨y, hy, rfl⟩ := hx
        exact hgc j _ (by unfold sw; rw [List.getElem?_map, hy]; rfl)) hg1 (by rw [List.length_map, swords_length]; have := HL.out; omega) (by rw [List.length_map, swords_length]; omega) (by rw [words_back]; unfold textL at hlen; exact Nat.le_trans hlen (by omega))
      rw [words_back, List.length_map, swords_length] at hj
      have hj2 : Calls Tryz.prog 56 #[.slice (some ⟨gw, ow, none⟩) (1 + 2 * l.length) cw, .string ⟨#[32]⟩] wr fun e w' => e = .returned (.string ⟨(textL k l).toArray⟩) ∧ S w0 w' L := by
        rw [show 1 + 2 * l.length = 2 * l.length + 1 by omega]
        exact hj.mono fun e w' ⟨h1, h2⟩ => ⟨h1, (hsr.tail).onto h2⟩
      obtain ⟨T, hT⟩ : ∃ T, textL k l = T := ⟨_, rfl⟩
      have hseal : sealB k l = ⟨(T ++ 32 :: Lib.decDigits (fnv T)).toArray⟩ := by unfold sealB sealL; rw [hT]
      rw [hT] at hj2 hlen
      have HJ := hid hj2; have HSL := hid hseal
      clear hsr hwl hgc hj hj2 hg0 hg1 hcw hcw2 hT hseal HR HI HTW HL
      go_wp2_with (go_at_call 56; with_reducible refine HJ.out.mono ?_; rintro r w6 ⟨rfl, hs6⟩; have H6 := hid hs6; clear hs6)
      go_loopw [9, 34] (fun nv c wr2 => ∃ j : Nat, j ≤ T.length ∧ c = .int .i64 j ∧ nv = .int .u64 (fnvFrom fnv0 (T.take j) : Nat) ∧ wr2 = w6) (fun _ c _ => T.length - (intOf c).toNat)
      case atStart => exact ⟨0, Nat.zero_le _, rfl, rfl, rfl⟩
      case round =>
        obtain ⟨j, hj, rfl, rfl, rfl⟩ := hrel
        by_cases hlt : j < T.length
        · go_wp2_with fail
          go_roundw
          case rel =>
            refine ⟨j + 1, by omega, by go_num, ?_, trivial⟩
            rw [fnv_take hlt fnv0, ← fnv_next (fnvFrom_lt _ _ (by decide))]
            rfl
          case measure => simp [intOf]; omega
        · obtain rfl : j = T.length := by omega
          have hf := fun W h => fmtu_any (fnvFrom fnv0 T) (fnvFrom_lt _ _ (by decide)) W (Pow10.on (w := w0) HP10.out h)
          have hdl := dec_len (fnvFrom_lt T fnv0 (by decide))
          have hne : ¬ (((⟨T.toArray⟩ : ByteArray) ++ ⟨#[32]⟩).size + (⟨(Lib.decDigits (fnvFrom fnv0 T)).toArray⟩ : ByteArray).size > 9223372036854775807) := by
            have e1 : ((⟨T.toArray⟩ : ByteArray) ++ ⟨#[32]⟩).size = T.length + 1 := by simp [ByteArray.size]
            have e2 : (⟨(Lib.decDigits (fnvFrom fnv0 T)).toArray⟩ : ByteArray).size = (Lib.decDigits (fnvFrom fnv0 T)).length := by simp [ByteArray.size]
            rw [e1, e2]; omega
          have HFM := hid hf
          rw [List.take_length]
          clear hf
          go_wp2_with (go_at_call 57; with_reducible refine (HFM.out _ H6.out.1).mono ?_; rintro r w7 ⟨rfl, hb⟩; have H7 := hid (H6.out.onto hb); clear hb)
          go_ret
          refine ⟨?_, H7.out⟩
          rw [HSL.out]
          show Ending.returned (Value.string ((⟨T.toArray⟩ : ByteArray) ++ ⟨#[32]⟩ ++ ⟨(Lib.decDigits (fnvFrom fnv0 T)).toArray⟩)) = _
          rw [glue]; rfl
end Go.Proofs.YtaghjcdlghcjeaaGreatDoor
/- base.opened: the walk. Conditions: the library's table of powers of ten is laid, and the variable of bytealg's greatest length holds a whole number. -/
namespace Go.Proofs.YtaghjcdlghcjeaaGreatDoor
open Go Go.RowKit Go.Sep

/-- What the library reads of its own variables. -/
def LibOk (w : World) : Prop := Pow10 w ∧ ∃ m, w.cell? ⟨4, 0, none⟩ = some (.int .i64 m)
theorem split_any (w0 w : World) (t : List UInt8) (L : List HProp) (hL : LibOk w0) (hs : S w0 w L) (ht : t.length ≤ 1000000) :
    Calls Tryz.prog 38 #[.string ⟨t.toArray⟩, .string ⟨#[32]⟩] w fun r w' => r = .returned (.slice (some ⟨w.heap.size, 0, none⟩) (cut t).length (cut t).length) ∧ S w0 w' (blk w.heap.size 9 (sw (cut t)) :: L) := by
  obtain ⟨m, hm⟩ := hL.2
  have hlt := World.block_lt_of_cell? w0 _ hm
  have hm2 : w.cell? ⟨4, 0, none⟩ = some (.int .i64 m) := by rw [hs.1.cell hlt]; exact hm
  have h := Shs.Tryz.strings_Split ⟨t.toArray⟩ blankB m w (by show t.toArray.size < _; simp; omega) hm2 (by decide)
  refine h.mono fun r w' ⟨h1, h2⟩ => ?_
  have hc := split_cut ⟨t.toArray⟩
  have hl := Lib.splitB_all blankB (by decide) 0 _ (⟨t.toArray⟩ : ByteArray) rfl
  rw [hc, List.length_map] at hl
  rw [hc] at h2
  have e1 : cut (⟨t.toArray⟩ : ByteArray).data.toList = cut t := rfl
  rw [e1] at hl h2
  refine ⟨by rw [h1, hl], ?_⟩
  rw [h2]
  have := hs.alloc (sw (cut t)).toArray 9
  unfold sw at this ⊢
  rw [List.map_map]
  exact this
theorem atoi_any (w0 w : World) (i : Int) (L : List HProp) (h : 0 ≤ i ∧ i < 100) (hs : S w0 w L) :
    Calls Tryz.prog 39 #[.string ⟨(num i).toArray⟩] w fun r w' => r = .returned (.tuple #[.int .i64 i, .nilIface]) ∧ S w0 w' L := by
  have hl := (num_len h.2).1
  refine (Shs.Tryz.strconv_Atoi ⟨(num i).toArray⟩ i (by show (num i).toArray.size ≤ 18; simp; omega) (atoi_num h.1) w).mono fun r w' ⟨h1, t, h2⟩ => ⟨h1, ?_⟩
  rw [h2]
  exact hs.onto (Joins.below_bytesWorld _ _ _ _ (Nat.le_refl _))

set_option maxRecDepth 40000 in
set_option maxHeartbeats 4000000 in
/-- Too few words, or an odd number of them: no place. -/
theorem opened_short (w0 w : World) (k : Int) (t : List UInt8) (L : List HProp) (hL : LibOk w0) (hs : S w0 w L) (ht : t.length ≤ 1000000) (hsh : (cut t).length < 4 ∨ (cut t).length % 2 ≠ 0) :
    Calls Tryz.prog 20 #[.int .i64 k, .string ⟨t.toArray⟩] w fun r w' => r = .returned (.tuple #[.slice none 0 0, .bool false]) ∧ S w0 w' L := by
  have HC := hid (split_any w0 w t L hL hs ht)
  have hlen : (cut t).length ≤ 1000001 := by
    have := cut_len t; omega
  clear hL hs ht
  generalize cut t = ws at *
  obtain ⟨n, hn⟩ : ∃ n, ws.length = n := ⟨_, rfl⟩
  rw [hn] at hsh hlen
  by_cases h4 : n < 4
  · have hb : ((n : Int) < 4) := by omega
    have HN := hid hn
    clear hn hsh
    go_enter Tryz.func20, Tryz.ntmps20
    go_wp2_with (go_at_call 38; with_reducible refine HC.out.mono ?_; rw [HN.out]; rintro r w1 ⟨rfl, hs1⟩; have H1 := hid hs1; clear hs1)
    go_ret2
    exact ⟨rfl, H1.out.tail⟩
  · have hb : ¬ ((n : Int) < 4) := by omega
    have hm : ((n : Int) % 2 != 0) = true := by
      rw [bne_iff_ne]; omega
    have HN := hid hn
    clear hn hsh
    go_enter Tryz.func20, Tryz.ntmps20
    go_wp2_with (go_at_call 38; with_reducible refine HC.out.mono ?_; rw [HN.out]; rintro r w1 ⟨rfl, hs1⟩; have H1 := hid hs1; clear hs1)
    all_goals first
      | (rename_i hx; exact absurd hx.2 (by rw [hm]; decide))
      | skip
    go_ret2
    exact ⟨rfl, H1.out.tail⟩

theorem pwords_get {l : Vers} {j : Nat} {p : Int × Int} (h : l[j]? = some p) (x y : List UInt8) : (x :: pwords l ++ [y])[1 + 2 * j]? = some (num p.1) ∧ (x :: pwords l ++ [y])[2 + 2 * j]? = some (num p.2) := by
  have hl := (List.getElem?_eq_some_iff.1 h).1
  have key : ∀ (l : Vers) (j : Nat), l[j]? = some p → (pwords l)[2 * j]? = some (num p.1) ∧ (pwords l)[2 * j + 1]? = some (num p.2) := by
    intro l
    induction l with
    | nil => intro j h; simp at h
    | cons q l ih =>
      intro j h
      cases j with
      | zero => simp at h; subst h; exact ⟨rfl, rfl⟩
      | succ j =>
        have := ih j (by simpa using h)
        unfold pwords at this ⊢
        rw [List.flatMap_cons, show 2 * (j + 1) = 2 * j + 1 + 1 by omega]
        simpa using this
  obtain ⟨k1, k2⟩ := key l j h
  have hp := pwords_length l
  rw [show 1 + 2 * j = 2 * j + 1 by omega, show 2 + 2 * j = 2 * j + 1 + 1 by omega, List.cons_append, List.getElem?_cons_succ, List.getElem?_cons_succ, List.getElem?_append_left (by omega), List.getElem?_append_left (by omega)]
  exact ⟨k1, k2⟩
theorem sw_get {ws : List (List UInt8)} {j : Nat} {x : List UInt8} (h : ws[j]? = some x) : (sw ws)[j]? = some (.string ⟨x.toArray⟩) := by
  unfold sw; rw [List.getElem?_map, h]; rfl

theorem seal_toList (k : Nat) (m : Vers) : (sealB k m).toList = sealL k m := by unfold sealB; simp
theorem beq_dec (a b : List UInt8) : (a == b) = decide (a = b) := by
  by_cases h : a = b
  · rw [decide_eq_true h, h, beq_self_eq_true]
  · rw [decide_eq_false h, beq_eq_false_iff_ne.2 h]
set_option maxRecDepth 40000 in
set_option maxHeartbeats 4000000 in
/-- Pairs, and a last word: whether their sealed text is this one. -/
theorem opened_long (w0 w : World) (k : Nat) (t : List UInt8) (m : Vers) (x y : List UInt8) (L : List HProp) (hk : k < 100) (hL : LibOk w0) (hs : S w0 w L) (ht : t.length ≤ 1000000)
    (hc : cut t = x :: pwords m ++ [y]) (hm1 : 1 ≤ m.length) (hm2 : m.length ≤ 1000) (h2 : Two m) :
    Calls Tryz.prog 20 #[.int .i64 k, .string ⟨t.toArray⟩] w fun r w' => ∃ v, r = .returned (.tuple #[v, .bool (decide (sealL k m = t))]) ∧ S w0 w' (sl 51 2 v m.length (pcells m) :: L) := by
  have hsp := split_any w0 w t L hL hs ht
  have hlen : (cut t).length = 2 * m.length + 2 := by rw [hc]; simp [pwords_length]
  have hget := fun j p (h : m[j]? = some p) => pwords_get h x y
  rw [← hc] at hget
  generalize cut t = ws at *
  obtain ⟨n, hn⟩ : ∃ n, ws.length = n := ⟨_, rfl⟩
  rw [hn] at hlen
  have hb : ¬ ((n : Int) < 4) := by omega
  have hm : ((n : Int) % 2 != 0) = false := by rw [bne_eq_false_iff_eq]; omega
  have hcl : ∀ wr M j p, m[j]? = some p → S w0 wr (blk w.heap.size 9 (sw ws) :: M) → wr.cell? ⟨w.heap.size, 1 + 2 * j, none⟩ = some (.string ⟨(num p.1).toArray⟩) ∧ wr.cell? ⟨w.heap.size, 1 + 2 * j + 1, none⟩ = some (.string ⟨(num p.2).toArray⟩) := fun wr M j p hp h => by
    obtain ⟨g1, g2⟩ := hget j p hp
    refine ⟨h.blk_cell _ (sw_get g1), ?_⟩
    rw [show 1 + 2 * j + 1 = 2 + 2 * j by omega]
    exact h.blk_cell _ (sw_get g2)
  have HC := hid hsp; have HN := hid hn; have HTW := hid h2; have HCL := hid hcl; have HLB := hid hL; have HK := hid hk
  clear hL hs ht hsp hn hc hcl hget h2 hk
  go_enter Tryz.func20, Tryz.ntmps20
  go_wp2_with (go_at_call 38; with_reducible refine HC.out.mono ?_; rw [HN.out]; rintro r w1 ⟨rfl, hs1⟩; have H1 := hid (S.sl_nil (e := 51) (size := 2) hs1); clear hs1)
  go_loopw [7, 8] (fun lv c wr => ∃ j : Nat, j ≤ m.length ∧ c = .int .i64 ((1 + 2 * j : Nat) : Int) ∧ S w0 wr (sl 51 2 lv j (pcells (m.take j)) :: blk w.heap.size 9 (sw ws) :: L)) (fun _ c _ => 2 * m.length + 10 - (intOf c).toNat)
  case atStart => exact ⟨0, Nat.zero_le _, rfl, H1.out⟩
  case round =>
    rename World => wr
    obtain ⟨j, hj, rfl, hsr⟩ := hrel
    clear H1
    by_cases hlt : j < m.length
    · have hp : m[j]? = some m[j] := by simp [hlt]
      generalize m[j] = p at hp
      obtain ⟨c0, c1⟩ := HCL.out _ _ j p hp hsr.swap
      obtain ⟨al, cl, rfl, hcl, hcl2, _⟩ := hsr.sl_val
      have htw := HTW.out.at hp
      have ha1 := atoi_any w0 wr p.1 _ htw.1 hsr
      have hcc : ∀ W, S w0 W (sl 51 2 (.slice al j cl) j (pcells (m.take j)) :: blk w.heap.size 9 (sw ws) :: L) → W.cell? ⟨w.heap.size, 1 + 2 * j + 1, none⟩ = some (.string ⟨(num p.2).toArray⟩) := fun W h => (HCL.out _ _ j p hp h.swap).2
      have hst : m.take (j + 1) = m.take j ++ [p] := take_succ_get hp
      have hpl : (pcells (m.take j)).length = j * 2 := hsr.sl_len
      generalize m.take j = O at *
      generalize hq : 1 + 2 * j = q at *
      have HA1 := hid ha1; have HCC := hid hcc; have HST := hid hst; have HPL := hid hpl
      have hw2 : (0 ≤ p.2 ∧ p.2 < 100) := htw.2
      clear hsr hp htw ha1 hcc hst hpl c1
      obtain ⟨p1, p2⟩ := p
      simp only at *
      go_wp2_with (go_at_call 39; with_reducible refine HA1.out.mono ?_; rintro r w2 ⟨rfl, hs2⟩; have c1 := HCC.out _ hs2; have H2 := hid hs2; clear hs2)
      obtain ⟨i0, hi0, hz0, hz1, hz2⟩ := info_parts Tryz.info51
      have HA2 := hid (atoi_any w0 w2 p2 _ hw2 H2.out)
      go_wp2_with (first
        | (go_at_call 39; with_reducible refine HA2.out.mono ?_; rintro r w3 ⟨rfl, hs3⟩; have hs4 := hs3.alloc #[.int .i64 p1, .int .i64 p2] 51; have HN4 := hid (news_blk hs4); have H4 := hid hs4.tail; clear hs3 hs4)
        | (at_builtin; refine wpList_append rfl (.tmp 55) (.tmp 59) 46 rfl 51 i0 _ 2 16 Tryz.underlying46 hi0 hz0 hz1 hz2 rfl (by decide) H4.out rfl (some ⟨w3.heap.size, 0, none⟩) 1 1 [.int .i64 p1, .int .i64 p2] rfl rfl HN4.out (by simp [Value.oneCell']) (by unfold maxLen; omega) (by omega) ?_; intro v1 w5 hs6; have H6 := hid hs6; clear hs6))
      go_roundw
      case rel =>
        refine ⟨j + 1, by omega, ?_, by rw [HST.out, pcells_append]; exact H6.out⟩
        rw [← hq]; go_num
      case measure => simp [intOf]; omega
    · obtain rfl : j = m.length := by omega
      rw [List.take_length] at hsr
      obtain ⟨al, cl, rfl, hcl, hcl2, _⟩ := hsr.sl_val
      have hse := sealed_any w0 wr k (.slice al m.length cl) m _ HK.out HTW.out hm2 HLB.out.1 hsr RdK.own
      have HSE := hid hse; have H5 := hid hsr
      clear hse hsr
      go_wp2_with (go_at_call 37; with_reducible refine HSE.out.mono ?_; rintro r w5 ⟨rfl, hs5⟩; have H6 := hid hs5; clear hs5)
      rw [seal_toList, beq_dec]
      go_ret2
      exact ⟨_, rfl, H6.out.swap.tail⟩
end Go.Proofs.YtaghjcdlghcjeaaGreatDoor
/- A disk and a base in memory; Disk.Cut, Disk.write. -/
namespace Go.Proofs.YtaghjcdlghcjeaaGreatDoor
open Go Go.RowKit Go.Sep

/-- A disk: its places, whether the power is to go off, and behind how many places. -/
structure Dsk where
  places : List (List UInt8)
  cut : Bool
  left : Int
def Dsk.zero : Dsk := ⟨List.replicate 250 [], false, 0⟩
def Dsk.setCut (d : Dsk) (n : Int) : Dsk := { d with cut := decide (0 ≤ n), left := max n 0 }
/-- Whether the power goes off at the next place. -/
def Dsk.off (d : Dsk) : Bool := d.cut && decide (d.left = 0)
def Dsk.put (d : Dsk) (k : Nat) (s : List UInt8) : Dsk := { d with places := d.places.set k s, left := wrap64 (d.left - 1) }
def Dsk.tear (d : Dsk) (k : Nat) (s : List UInt8) (torn : Int) : Dsk := if 0 ≤ torn then { d with places := d.places.set k (s.take (min torn.toNat (s.length - 1))) } else d
def dskV (d : Dsk) : List Value := sw d.places ++ [.bool d.cut, .int .i64 d.left]
def dskB (b : Nat) (d : Dsk) : HProp := sep (pur (d.places.length = 250)) (blk b 28 (dskV d))
variable {w0 w : World} {L : List HProp} {b : Nat} {d : Dsk}
theorem dskV_length (h : d.places.length = 250) : (dskV d).length = 252 := by unfold dskV; rw [List.length_append, sw_length, h]; rfl
theorem _root_.Go.Sep.S.dsk_open (h : S w0 w (dskB b d :: L)) : d.places.length = 250 ∧ S w0 w (blk b 28 (dskV d) :: L) := by
  have h2 := h.sep_elim.pur_elim
  exact h2
theorem _root_.Go.Sep.S.dsk_shut (hl : d.places.length = 250) (h : S w0 w (blk b 28 (dskV d) :: L)) : S w0 w (dskB b d :: L) := .sep_intro (.pur_intro hl h)
theorem dskV_place {k : Nat} {x : List UInt8} (h : d.places[k]? = some x) : (dskV d)[k]? = some (.string ⟨x.toArray⟩) := by
  have hk := (List.getElem?_eq_some_iff.1 h).1
  unfold dskV
  rw [List.getElem?_append_left (by rw [sw_length]; exact hk)]
  exact sw_get h
theorem dskV_cut (hl : d.places.length = 250) : (dskV d)[250]? = some (.bool d.cut) ∧ (dskV d)[251]? = some (.int .i64 d.left) := by
  unfold dskV
  rw [List.getElem?_append_right (by rw [sw_length]; omega), List.getElem?_append_right (by rw [sw_length]; omega), sw_length, hl]
  exact ⟨rfl, rfl⟩
theorem dskV_set {k : Nat} (hl : d.places.length = 250) (hk : k < 250) (x : List UInt8) : (dskV d).set k (.string ⟨x.toArray⟩) = dskV { d with places := d.places.set k x } := by
  unfold dskV
  rw [List.set_append_left _ _ (by rw [sw_length]; omega)]
  congr 1
  unfold sw
  rw [List.map_set]
theorem dskV_setCut (hl : d.places.length = 250) (c : Bool) : (dskV d).set 250 (.bool c) = dskV { d with cut := c } := by
  unfold dskV
  rw [List.set_append_right _ _ (by rw [sw_length]; omega), sw_length, hl]; rfl
theorem dskV_setLeft (hl : d.places.length = 250) (n : Int) : (dskV d).set 251 (.int .i64 n) = dskV { d with left := n } := by
  unfold dskV
  rw [List.set_append_right _ _ (by rw [sw_length]; omega), sw_length, hl]; rfl
theorem _root_.Go.Sep.S.dsk_place (h : S w0 w (dskB b d :: L)) {k : Nat} (hk : k < 250) (x : List UInt8) : S w0 (w.setCell ⟨b, k, none⟩ (.string ⟨x.toArray⟩)) (dskB b { d with places := d.places.set k x } :: L) := by
  obtain ⟨hl, h⟩ := h.dsk_open
  refine .dsk_shut (by rw [List.length_set]; exact hl) ?_
  rw [← dskV_set hl hk]
  exact h.blk_set k (by rw [dskV_length hl]; omega) _
theorem _root_.Go.Sep.S.dsk_cut (h : S w0 w (dskB b d :: L)) (c : Bool) : S w0 (w.setCell ⟨b, 250, none⟩ (.bool c)) (dskB b { d with cut := c } :: L) := by
  obtain ⟨hl, h⟩ := h.dsk_open
  refine .dsk_shut hl ?_
  rw [← dskV_setCut hl]
  exact h.blk_set 250 (by rw [dskV_length hl]; omega) _
theorem _root_.Go.Sep.S.dsk_left (h : S w0 w (dskB b d :: L)) (n : Int) : S w0 (w.setCell ⟨b, 251, none⟩ (.int .i64 n)) (dskB b { d with left := n } :: L) := by
  obtain ⟨hl, h⟩ := h.dsk_open
  refine .dsk_shut hl ?_
  rw [← dskV_setLeft hl]
  exact h.blk_set 251 (by rw [dskV_length hl]; omega) _
theorem _root_.Go.Sep.S.dsk_see (h : S w0 w (dskB b d :: L)) : w.cell? ⟨b, 250, none⟩ = some (.bool d.cut) ∧ w.cell? ⟨b, 251, none⟩ = some (.int .i64 d.left) ∧ ∀ j, w.frozen? ⟨b, j, none⟩ = false := by
  obtain ⟨hl, h⟩ := h.dsk_open
  exact ⟨h.blk_cell 250 (dskV_cut hl).1, h.blk_cell 251 (dskV_cut hl).2, fun j => h.blk_free j⟩
theorem _root_.Go.Sep.S.dsk_at (h : S w0 w (dskB b d :: L)) {k : Nat} {x : List UInt8} (hx : d.places[k]? = some x) : w.cell? ⟨b, k, none⟩ = some (.string ⟨x.toArray⟩) := by
  obtain ⟨_, h⟩ := h.dsk_open
  exact h.blk_cell k (dskV_place hx)

set_option maxRecDepth 40000 in
set_option maxHeartbeats 4000000 in
theorem dcut_any (w0 w : World) (b : Nat) (d : Dsk) (n : Int) (L : List HProp) (hs : S w0 w (dskB b d :: L)) :
    Calls Tryz.prog 15 #[.pointer (some ⟨b, 0, none⟩), .int .i64 n] w fun r w' => r = .returned (.tuple #[]) ∧ S w0 w' (dskB b (d.setCut n) :: L) := by
  have h1 := (hs.dsk_cut (decide (0 ≤ n))).dsk_left (max n 0)
  obtain ⟨c0, c1, f0⟩ := hs.dsk_see
  have f1 := f0 250
  have f2 := f0 251
  have H1 := hid h1
  clear hs h1 f0
  go_enter Tryz.func15, Tryz.ntmps15
  go_wp2_with fail
  go_end0
  exact ⟨rfl, H1.out⟩

set_option maxRecDepth 40000 in
set_option maxHeartbeats 4000000 in
/-- The power is on: the place is written. -/
theorem dwrite_on (w0 w : World) (b : Nat) (d : Dsk) (k : Nat) (s : List UInt8) (torn : Int) (L : List HProp) (hk : k < 250) (ho : d.off = false) (hs : S w0 w (dskB b d :: L)) :
    Calls Tryz.prog 36 #[.pointer (some ⟨b, 0, none⟩), .int .i64 k, .string ⟨s.toArray⟩, .int .i64 torn] w fun r w' => r = .returned .nilIface ∧ S w0 w' (dskB b (d.put k s) :: L) := by
  have h1 := (hs.dsk_left (wrap64 (d.left - 1))).dsk_place hk s
  obtain ⟨hl, hd⟩ := hs.dsk_open
  obtain ⟨x, hx⟩ : ∃ x, d.places[k]? = some x := ⟨_, List.getElem?_eq_getElem (by omega)⟩
  have y0 := hs.dsk_at hx
  obtain ⟨c0, c1, f0⟩ := hs.dsk_see
  have f1 := f0 k
  have f2 := f0 251
  have hkk : (k : Int) < 250 := by omega
  have hne : k ≠ 251 := by omega
  have H1 := hid h1
  clear hs h1 f0 hl hd hx
  obtain ⟨P, cu, lf⟩ := d
  simp only at *
  by_cases hc : cu = true
  · subst hc
    have h2 : ¬ lf = 0 := by intro h; subst h; simp [Dsk.off] at ho
    have hb : (lf == 0) = false := by simpa using h2
    clear ho
    go_enter Tryz.func36, Tryz.ntmps36
    go_wp2_with fail
    go_ret
    exact ⟨rfl, H1.out⟩
  · obtain rfl : cu = false := by simpa using hc
    clear ho hc
    go_enter Tryz.func36, Tryz.ntmps36
    go_wp2_with fail
    go_ret
    exact ⟨rfl, H1.out⟩
theorem take_extract (s : List UInt8) (M : Nat) : (⟨s.toArray⟩ : ByteArray).extract 0 M = ⟨(s.take M).toArray⟩ := by
  apply ByteArray.ext
  simp [ByteArray.data_extract]
set_option maxRecDepth 40000 in
set_option maxHeartbeats 4000000 in
/-- The power goes off: the place is torn, or as it was. -/
theorem dwrite_off (w0 w : World) (b : Nat) (d : Dsk) (k : Nat) (s : List UInt8) (torn : Int) (L : List HProp) (hk : k < 250) (hsl : 1 ≤ s.length ∧ s.length ≤ 1000000) (ho : d.off = true) (hs : S w0 w (dskB b d :: L)) :
    Calls Tryz.prog 36 #[.pointer (some ⟨b, 0, none⟩), .int .i64 k, .string ⟨s.toArray⟩, .int .i64 torn] w fun r w' => r = .returned (errV 14) ∧ S w0 w' (dskB b (d.tear k s torn) :: L) := by
  have h1 := hs.dsk_place hk (s.take (min torn.toNat (s.length - 1)))
  obtain ⟨hl, hd⟩ := hs.dsk_open
  obtain ⟨x, hx⟩ : ∃ x, d.places[k]? = some x := ⟨_, List.getElem?_eq_getElem (by omega)⟩
  have y0 := hs.dsk_at hx
  obtain ⟨c0, c1, f0⟩ := hs.dsk_see
  have f1 := f0 k
  have hkk : (k : Int) < 250 := by omega
  have H1 := hid h1; have H0 := hid hs
  clear hs h1 f0 hl hd hx
  unfold Dsk.off at ho
  rw [Bool.and_eq_true, decide_eq_true_eq] at ho
  obtain ⟨P, cu, lf⟩ := d
  simp only at *
  obtain ⟨rfl, rfl⟩ := ho
  unfold Dsk.tear
  by_cases ht : 0 ≤ torn
  · rw [if_pos ht]
    obtain ⟨T, rfl⟩ : ∃ T : Nat, torn = T := ⟨torn.toNat, by omega⟩
    go_enter Tryz.func36, Tryz.ntmps36
    obtain ⟨M, hM⟩ : ∃ M, min T (s.length - 1) = M := ⟨_, rfl⟩
    have hM1 : min (T : Int) ((s.length : Int) - 1) = (M : Int) := by omega
    have hM2 : M ≤ s.length := by omega
    have hM3 : (M : Int) ≤ (s.length : Int) := by omega
    rw [Int.toNat_natCast, hM] at H1 ⊢
    have HE : Hid (∀ {A : HProp}, S w0 (w.setCell ⟨b, k, none⟩ (.string ⟨(s.take M).toArray⟩)).drew (A :: L) → S w0 (w.setCell ⟨b, k, none⟩ (.string ((⟨s.toArray⟩ : ByteArray).extract 0 M))).drew (A :: L)) := hid (fun h => by rw [take_extract]; exact h)
    have hwr : IntKind.i64.wrap ((s.length : Int) - 1) = (s.length : Int) - 1 := IntWalk.i64_in _ (by omega)
    clear hM
    go_upto_region 3 with fail
    go_region_with fail
    go_wp2_with fail
    go_ret
    exact ⟨rfl, HE.out H1.out.drew⟩
  · rw [if_neg ht]
    clear H1
    go_enter Tryz.func36, Tryz.ntmps36
    go_wp2_with fail
    go_ret
    exact ⟨rfl, H0.out⟩
end Go.Proofs.YtaghjcdlghcjeaaGreatDoor
/- The program's engine: goes, and frees: one that is gone, and who comes next. -/
namespace Go.Proofs.YtaghjcdlghcjeaaGreatDoor
open Go Go.RowKit Go.Sep

theorem _root_.Go.Sep.S.eng_count {w0 w : World} {b : Nat} {bs : List Nat} {k : EngV} {e : Eng} {L : List HProp} (h : S w0 w (engO b bs k e :: L)) (c : Int) : S w0 (w.setCell ⟨b, 15, none⟩ (.int .i64 c)) (engO b bs k { e with count := c } :: L) := by
  obtain ⟨hp, h⟩ := h.sep_elim.pur_elim
  obtain ⟨h1, h2⟩ := h.engG_parts
  have h3 := h2.set 1 (by simp) (.int .i64 c)
  exact .sep_intro (.pur_intro hp (S.engG_join h1 h3))
theorem eng_blk_ne {w0 w : World} {b : Nat} {bs : List Nat} {k : EngV} {e : Eng} {i : Nat} {L : List HProp} (h : S w0 w (engO b bs k e :: L)) (hi : i < e.txs.length) : blkOf bs i ≠ b := by
  intro he
  have h1 := (h.eng_tx hi).sep_elim.blk_heap
  obtain ⟨_, h2⟩ := h.sep_elim.pur_elim
  obtain ⟨_, h3⟩ := h2.engG_parts
  have h4 : S w0 w (shp b 75 18 :: cells b 14 [k.txv, .int .i64 e.count, .map (some k.wb), k.hv] :: sl 77 1 k.txv e.txs.length (ptrs bs (List.range e.txs.length)) :: mp encI (fun _ => True) k.wb (ienc e.wr) :: sl 121 4 k.hv e.hist.length (fcells opc e.hist) :: all (txPs bs k.tv e.txs) :: L) := h3.conv (by simp only [all]; ac_rfl)
  obtain ⟨c, hc, _⟩ := holds_shape (h4.at (b := b) (i := none) (t := .shape 75 18) (by rintro _ rfl; simp)).2
  rw [he, hc] at h1
  simp at h1
theorem mark_eq (e : Eng) (i : Nat) (why : Int) : ((({ e with count := e.count + 1 } : Eng).upd i fun x => { x with state := 3 }).upd i fun x => { x with why := why }).upd i (fun x => { x with ended := e.count + 1 }) = e.mark i why := by
  unfold Eng.mark Eng.upd
  simp only [Eng.mk.injEq, and_true, true_and]
  apply List.ext_getElem?
  intro j
  simp only [List.getElem?_modify]
  by_cases h : i = j
  · subst h; cases e.txs[i]? <;> simp
  · simp [h]

def FreesAny (n : Nat) : Prop := ∀ (w0 w : World) (b : Nat) (bs : List Nat) (e : Eng) (i : Nat) (L : List HProp) (N : Nat) (U : List Task), OkT N (e.lets i) ((e.heirs i).map .hand ++ U) → (e.lets i).open_ ≤ n → N ≤ 100000000 → (∀ k, (lineAt e.t k).length ≤ 1000000) → e.t.hold.length ≤ 1000000 → (e.heirs i).length ≤ 1000000 → S w0 w (engP b bs e :: L) →
  Calls Tryz.prog 47 #[.pointer (some ⟨b, 0, none⟩), .int .i64 ((i : Int) + 1)] w fun r w' => r = .returned (.tuple #[]) ∧ S w0 w' (engP b bs (freesG (goesN n) e i) :: L)
set_option maxRecDepth 40000 in
set_option maxHeartbeats 8000000 in
theorem goes_step (n : Nat) (hf : FreesAny n) : GoesAny (n + 1) := by
  intro w0 w b bs e i why L N U hok hi ha hne ho hN hs
  obtain ⟨h1, h2⟩ := hok.left hi ha hne why
  obtain ⟨k, hs⟩ := hs.eng_open
  have hO : S w0 w (engO b bs k e :: storeP 84 b 0 e.V e.last :: tabP 3 b 11 e.t :: L) := hs.conv (by simp only [all]; ac_rfl)
  have hc := hO.eng_c.2
  have c14 := hc.txs
  have c15 := hc.count
  have f15 := hc.free 15 (by omega) (by omega)
  obtain ⟨a, cap, hv, hle, hcap, hrow⟩ := hc.row
  obtain ⟨g, o, rfl, ci⟩ := hrow i hi
  rw [hv] at c14
  unfold maxLen at hcap
  unfold ptr at ci
  have hx := (hO.eng_txc hi).2
  have x1 := hx.state
  have x11 := hx.why
  have x4 := hx.ended
  have fx := hx.free
  have hbb := eng_blk_ne hO hi
  have hcnt := hok.cnt
  have hfew := hok.few
  have hs1 := hO.eng_count (e.count + 1)
  have hi1 : i < ({ e with count := e.count + 1 } : Eng).txs.length := hi
  have hs2 := hs1.eng_set hi1 (fun x => { x with state := 3 }) (j := 1) (u := .int .i64 3) (by omega) rfl rfl rfl rfl rfl
  have hs3 := hs2.eng_set (by rw [Eng.upd_len]; exact hi1) (fun x => { x with why := why }) (j := 11) (u := .int .i64 why) (by omega) rfl rfl rfl rfl rfl
  have hs4 := hs3.eng_set (by rw [Eng.upd_len, Eng.upd_len]; exact hi1) (fun x => { x with ended := e.count + 1 }) (j := 4) (u := .int .i64 (e.count + 1)) (by omega) rfl rfl rfl rfl rfl
  rw [mark_eq] at hs4
  have hs5 := S.eng_shut (e := e.mark i why) (hs4.conv (M := storeP 84 b 0 e.V e.last :: tabP 3 b 11 e.t :: engO b bs k (e.mark i why) :: L) (by simp only [all]; ac_rfl))
  obtain ⟨Q, hQ⟩ := hok.tab
  have hlen : ∀ kk, (lineAt e.t kk).length ≤ 1000000 := by
    intro kk
    unfold lineAt
    rw [hQ.tab.line kk]
    have := few (S := (List.range e.txs.length).map fun m : Nat => (m : Int) + 1) (hQ.tab.nod kk) (fun x hx => by
      have := hQ.key kk x hx
      simp only [List.mem_map, List.mem_range]
      exact ⟨(x - 1).toNat, by omega, by omega⟩)
    simp only [List.length_map, List.length_range] at this
    rw [List.length_tail]; omega
  have hhold : e.t.hold.length ≤ 10 := by
    have := few (S := [0, 1, 2, 3, 4, 5, 6, 7, 8, 9]) hQ.hold (fun kk hk => by
      obtain ⟨p, hp, rfl⟩ := List.mem_map.1 hk
      have h1 := mget_mem hQ.hold (show (p.1, p.2) ∈ e.t.hold from hp)
      rw [hQ.tab.hold] at h1
      cases hq : Q p.1 with
      | nil => rw [hq] at h1; simp at h1
      | cons a l => have := (hQ.key p.1 a (by rw [hq]; simp)).1; unfold keyOk at this; simp; omega)
    simpa using this
  have hheirs : (e.heirs i).length ≤ 1000000 := by
    have h3 : ((e.heirs i).map (·.2)).length ≤ e.txs.length := by
      have hap := h1.apart
      rw [List.map_append, List.nodup_append] at hap
      have := few (S := (List.range e.txs.length).map fun m : Nat => (m : Int) + 1) (l := ((e.heirs i).map (·.2))) (by
        have := hap.1
        rw [List.map_map] at this
        exact List.pairwise_map.2 ((List.pairwise_map.1 this).imp fun h e1 => h (by simp only [Function.comp, Task.who]; rw [e1]))) (fun x hx => by
        obtain ⟨p, hp, rfl⟩ := List.mem_map.1 hx
        have h4 := h1.ok (.hand p) (List.mem_append_left _ (List.mem_map_of_mem hp))
        have h5 := h4.lt
        have h6 := (h4.hand p rfl).1
        simp only [Task.who] at h5
        rw [show (e.left i why).txs.length = e.txs.length from Eng.mark_len e i why] at h5
        simp only [List.mem_map, List.mem_range]
        exact ⟨p.2.toNat - 1, h5, by omega⟩)
      simpa using this
    rw [List.length_map] at h3; omega
  have hcall := hf w0 _ b bs (e.mark i why) i L N U h1 (by show (e.left i why).open_ ≤ n; omega) hN hlen (by show e.t.hold.length ≤ 1000000; omega) hheirs hs5
  have HC := hid hcall
  have hbb' := Ne.symm hbb
  clear hok h1 h2 hs hO hc hv hrow hx hs1 hs2 hs3 hs4 hs5 hQ hlen hhold hheirs hcall hf ha hne
  go_enter Tryz.func29, Tryz.ntmps29
  go_wp2_with fail
  with_reducible refine HC.out.mono ?_
  rintro r w' ⟨rfl, hs'⟩
  have H4 := hid hs'
  clear hs'
  go_wp2_with fail
  go_end0
  exact ⟨rfl, H4.out⟩

set_option linter.unusedSimpArgs false in
set_option maxRecDepth 100000 in
set_option maxHeartbeats 20000000 in
theorem frees_step (n : Nat) (hg : GoesAny n) : FreesAny n := by
  intro w0 w b bs e i L N U hok ho hN hlen hhold hheirs hs
  obtain ⟨k, hs⟩ := hs.eng_open
  have hcall := tdrop_any w0 w b 11 e.t ((i : Int) + 1) (storeP 84 b 0 e.V e.last :: engO b bs k e :: L) (hs.conv (by simp only [all]; ac_rfl)) hlen hhold
  have hfin : ∀ W v, S w0 W (sl 51 2 v (tbDrop e.t ((i : Int) + 1)).2.length (pcells (tbDrop e.t ((i : Int) + 1)).2) :: tabP 3 b 11 (tbDrop e.t ((i : Int) + 1)).1 :: storeP 84 b 0 e.V e.last :: engO b bs k e :: L) → S w0 W (sl 51 2 v (e.heirs i).length (pcells (e.heirs i)) :: engP b bs (e.lets i) :: L) := fun W v h => by
    have h1 : S w0 W (storeP 84 b 0 (e.lets i).V (e.lets i).last :: tabP 3 b 11 (e.lets i).t :: engO b bs k (e.lets i) :: sl 51 2 v (e.heirs i).length (pcells (e.heirs i)) :: L) := h.conv (by
      simp only [all]
      show sep (sl _ 2 v (tbDrop e.t ((i : Int) + 1)).2.length (pcells (tbDrop e.t ((i : Int) + 1)).2)) (sep (tabP _ b 11 (tbDrop e.t ((i : Int) + 1)).1) (sep (storeP _ b 0 e.V e.last) (sep (engO b bs k e) (all L)))) = sep (storeP _ b 0 e.V e.last) (sep (tabP _ b 11 (tbDrop e.t ((i : Int) + 1)).1) (sep (engO b bs k e) (sep (sl _ 2 v (tbDrop e.t ((i : Int) + 1)).2.length (pcells (tbDrop e.t ((i : Int) + 1)).2)) (all L))))
      ac_rfl)
    exact h1.eng_shut.swap
  have hfr : freesG (goesN n) e i = freesL (goesN n) (e.heirs i) (e.lets i) := rfl
  have HC := hid hcall; have HFI := hid hfin; have HFR := hid hfr; have HOK := hid hok; have HO := hid ho; have HG := hid hg
  clear hs hcall hfin hfr hlen hhold hok ho hg
  go_enter Tryz.func47, Tryz.ntmps47
  go_wp2_with fail
  with_reducible refine HC.out.mono ?_
  rintro r w1 ⟨v', rfl, hs1⟩
  have hs2 := HFI.out _ _ hs1
  obtain ⟨al, cl, rfl, hcl, hcl2, _⟩ := hs2.sl_val
  unfold maxLen at hcl2
  generalize e.heirs i = l at *
  generalize e.lets i = e0 at *
  have H2 := hid hs2
  clear hs1 hs2 HC HFI
  go_wp2_with fail
  go_loopw [13] (fun c wr => ∃ (m : Nat) (e1 : Eng), m ≤ l.length ∧ c = .int .i64 m ∧ Hid (OkT N e1 ((l.drop m).map .hand ++ U)) ∧ Hid (e1.open_ ≤ n) ∧ Hid (freesL (goesN n) l e0 = freesL (goesN n) (l.drop m) e1) ∧ S w0 wr (sl 51 2 (.slice al l.length cl) l.length (pcells l) :: engP b bs e1 :: L)) (fun c _ => l.length - (intOf c).toNat)
  case atStart => exact ⟨0, e0, Nat.zero_le _, rfl, HOK, HO, hid rfl, H2.out⟩
  case round =>
    rename World => wr
    obtain ⟨m, e1, hm, rfl, hok1, ho1, hf1, hsr⟩ := hrel
    clear H2 HOK HO
    by_cases hlt : m < l.length
    · have hp : l[m]? = some l[m] := by simp [hlt]
      have hd : l.drop m = l[m] :: l.drop (m + 1) := List.drop_eq_getElem_cons hlt
      generalize l[m] = p at hp hd
      have hok2 := hok1.out
      have hf2 := hf1.out
      rw [hd] at hok2 hf2
      have hk := hok2.ok (.hand p) (by simp)
      have hj := hk.lt
      obtain ⟨hp1, hst, _⟩ := hk.hand p rfl
      have hand := OkT.hand (U := (l.drop (m + 1)).map .hand ++ U) hok2
      obtain ⟨pk, pv⟩ := p
      simp only [Task.who] at hj hst hp1 hand
      obtain ⟨j, rfl⟩ : ∃ j : Nat, pv = (j : Int) + 1 := ⟨(pv - 1).toNat, by omega⟩
      have hjj : ((j : Int) + 1).toNat - 1 = j := by omega
      rw [hjj] at hj hst hand
      have hwant : ((e1.opens j).tx j).want = (e1.tx j).want := Eng.upd_keep (·.want) (fun x => { x with state := 0 }) (fun _ => rfl) j
      have hf3 : freesL (goesN n) l e0 = freesL (goesN n) (l.drop (m + 1)) (putsG (goesN n) (e1.opens j) j ((e1.tx j).want.1, (e1.tx j).want.2)) := by
        rw [hf2]
        show freesL (goesN n) (l.drop (m + 1)) (putsG (goesN n) (e1.opens (((j : Int) + 1).toNat - 1)) (((j : Int) + 1).toNat - 1) ((e1.opens (((j : Int) + 1).toNat - 1)).tx (((j : Int) + 1).toNat - 1)).want) = _
        rw [hjj, hwant]
      have hop : (e1.opens j).open_ = e1.open_ := by
        have := Eng.many_upd hj Tx.alive (fun x => { x with state := 0 })
        rw [if_pos (by simp [Tx.alive, hst]), if_pos (by simp [Tx.alive])] at this
        unfold Eng.opens Eng.open_; unfold Eng.many at this; omega
      obtain ⟨gl, ol, rfl, _, d0, d1⟩ := hsr.sl_pair hp
      obtain ⟨k1, hse⟩ := hsr.swap.eng_open
      have hsx := hse.alloc #[.int .i64 pk, .int .i64 ((j : Int) + 1)] 51
      have hO : S w0 _ (engO b bs k1 e1 :: blk wr.heap.size 51 [.int .i64 pk, .int .i64 ((j : Int) + 1)] :: storeP 84 b 0 e1.V e1.last :: tabP 3 b 11 e1.t :: sl 51 2 (.slice (some ⟨gl, ol, none⟩) l.length cl) l.length (pcells l) :: L) := hsx.conv (by simp only [all]; ac_rfl)
      have b1 := hsx.blk_cell 1 rfl
      have hc := hO.eng_c.2
      have c14 := hc.txs
      obtain ⟨a, cap, hv, hle, hcap, hrow⟩ := hc.row
      obtain ⟨g, o, rfl, ci⟩ := hrow j hj
      rw [hv] at c14
      unfold maxLen at hcap
      unfold ptr at ci
      have hx := (hO.eng_txc hj).2
      have x1 := hx.state
      have fx := hx.free
      have hset : ∀ nq, S w0 (((wr.alloc (.cells #[.int .i64 pk, .int .i64 ((j : Int) + 1)] 51)).drewN nq).setCell ⟨blkOf bs j, 1, none⟩ (.int .i64 0)) (engO b bs k1 (e1.opens j) :: blk wr.heap.size 51 [.int .i64 pk, .int .i64 ((j : Int) + 1)] :: storeP 84 b 0 e1.V e1.last :: tabP 3 b 11 e1.t :: sl 51 2 (.slice (some ⟨gl, ol, none⟩) l.length cl) l.length (pcells l) :: L) := fun nq =>
        (hO.drewN nq).eng_set hj (fun x => { x with state := 0 }) (j := 1) (u := .int .i64 0) (by omega) rfl rfl rfl rfl rfl
      have hj2 : j < (e1.opens j).txs.length := by unfold Eng.opens; rw [Eng.upd_len]; exact hj
      have hq : ∀ W, S w0 W (engO b bs k1 (e1.opens j) :: blk wr.heap.size 51 [.int .i64 pk, .int .i64 ((j : Int) + 1)] :: storeP 84 b 0 e1.V e1.last :: tabP 3 b 11 e1.t :: sl 51 2 (.slice (some ⟨gl, ol, none⟩) l.length cl) l.length (pcells l) :: L) → W.cell? ⟨wr.heap.size, 1, none⟩ = some (.int .i64 ((j : Int) + 1)) ∧ W.cell? ⟨blkOf bs j, 7, none⟩ = some (.int .i64 (e1.tx j).want.1) ∧ W.cell? ⟨blkOf bs j, 8, none⟩ = some (.int .i64 (e1.tx j).want.2) := fun W h => by
        have hx := (h.eng_txc hj2).2
        have w1 := hx.want1
        have w2 := hx.want2
        rw [hwant] at w1 w2
        exact ⟨h.tail.blk_cell 1 rfl, w1, w2⟩
      have hput := putsG_ok (goesOk n) hand (by rw [hop]; exact ho1.out)
      have hwr : ∀ W, S w0 W (engO b bs k1 (e1.opens j) :: blk wr.heap.size 51 [.int .i64 pk, .int .i64 ((j : Int) + 1)] :: storeP 84 b 0 e1.V e1.last :: tabP 3 b 11 e1.t :: sl 51 2 (.slice (some ⟨gl, ol, none⟩) l.length cl) l.length (pcells l) :: L) →
          Calls Tryz.prog 31 #[.pointer (some ⟨b, 0, none⟩), .int .i64 ((j : Int) + 1), .agg #[.int .i64 (e1.tx j).want.1, .int .i64 (e1.tx j).want.2]] W fun r w' => r = .returned (.tuple #[]) ∧ S w0 w' (sl 51 2 (.slice (some ⟨gl, ol, none⟩) l.length cl) l.length (pcells l) :: engP b bs (putsG (goesN n) (e1.opens j) j ((e1.tx j).want.1, (e1.tx j).want.2)) :: L) := fun W h => by
        have h2 : S w0 W (engP b bs (e1.opens j) :: sl 51 2 (.slice (some ⟨gl, ol, none⟩) l.length cl) l.length (pcells l) :: L) := S.eng_shut (e := e1.opens j) (S.tail (P := blk wr.heap.size 51 [.int .i64 pk, .int .i64 ((j : Int) + 1)]) (h.conv (by
          simp only [all]
          show _ = sep _ (sep (storeP _ b 0 e1.V e1.last) (sep (tabP _ b 11 e1.t) _))
          ac_rfl)))
        exact (writes_any n HG.out w0 W b bs (e1.opens j) j _ _ _ N _ hand (by rw [hop]; exact ho1.out) hN h2).mono fun r w' h => ⟨h.1, h.2.swap⟩
      have HSET := hid hset; have HQ := hid hq; have HWR := hid hwr; have HF3 := hid hf3; have HPUT := hid hput; have HOP := hid hop
      clear hp hd hok2 hf2 hk hand hf3 hop hsr hse hsx hO hc hv hrow hx hset hq hput hwr hwant hok1 hf1 hj2 hst
      go_wp2_with fail
      go_quiet (fail)
      go_wp2_with fail
      have HR0 := hid (HSET.out nq)
      refine region_U (S := fun w' => w'.cell? ⟨wr.heap.size, 1, none⟩ = some (.int .i64 ((j : Int) + 1)) ∧ w'.cell? ⟨blkOf bs j, 7, none⟩ = some (.int .i64 (e1.tx j).want.1) ∧ w'.cell? ⟨blkOf bs j, 8, none⟩ = some (.int .i64 (e1.tx j).want.2)) (u := 7) (by kernel_rfl) (HQ.out _ HR0.out.drew) (fun hHeld => ?_)
      refine anyU_take (i := 0) (v := ?_) rfl (by kernel_rfl) (fun _ _ _ h => h) (Or.inl ⟨by rfl, ?_⟩) hHeld ?_
      rotate_left
      · (intro w hSw; (try dsimp only at hSw); go_simp) <;> with_reducible rfl
      try simp only [Act.put, List.setIfInBounds_toArray, List.getElem_toArray, List.getElem_cons_zero, List.getElem_cons_succ, List.set_cons_zero, List.set_cons_succ]
      refine anyU_pure (i := 1) (v := ?_) rfl (by kernel_rfl) (fun _ _ _ h => h) (Or.inl ⟨by rfl, ?_⟩) (fun _ => hHeld) ?_
      rotate_left
      · (intro w _; go_simp) <;> with_reducible rfl
      try simp only [Act.put, List.setIfInBounds_toArray, List.getElem_toArray, List.getElem_cons_zero, List.getElem_cons_succ, List.set_cons_zero, List.set_cons_succ]
      refine anyU_take (i := 2) (v := ?_) rfl (by kernel_rfl) (fun _ _ _ h => h) (Or.inl ⟨by rfl, ?_⟩) hHeld ?_
      rotate_left
      · (intro w hSw; (try dsimp only at hSw); go_simp) <;> with_reducible rfl
      try simp only [Act.put, List.setIfInBounds_toArray, List.getElem_toArray, List.getElem_cons_zero, List.getElem_cons_succ, List.set_cons_zero, List.set_cons_succ]
      refine anyU_pure (i := 3) (v := ?_) rfl (by kernel_rfl) (fun _ _ _ h => h) (Or.inl ⟨by rfl, ?_⟩) (fun _ => hHeld) ?_
      rotate_left
      · (intro w _; go_simp) <;> with_reducible rfl
      try simp only [Act.put, List.setIfInBounds_toArray, List.getElem_toArray, List.getElem_cons_zero, List.getElem_cons_succ, List.set_cons_zero, List.set_cons_succ]
      refine anyU_pure (i := 4) (v := ?_) rfl (by kernel_rfl) (fun _ _ _ h => h) (Or.inl ⟨by rfl, ?_⟩) (fun _ => hHeld) ?_
      rotate_left
      · (intro w _; go_simp) <;> with_reducible rfl
      try simp only [Act.put, List.setIfInBounds_toArray, List.getElem_toArray, List.getElem_cons_zero, List.getElem_cons_succ, List.set_cons_zero, List.set_cons_succ]
      refine anyU_pure (i := 5) (v := ?_) rfl (by kernel_rfl) (fun _ _ _ h => h) (Or.inl ⟨by rfl, ?_⟩) (fun _ => hHeld) ?_
      rotate_left
      · (intro w _; go_simp) <;> with_reducible rfl
      try simp only [Act.put, List.setIfInBounds_toArray, List.getElem_toArray, List.getElem_cons_zero, List.getElem_cons_succ, List.set_cons_zero, List.set_cons_succ]
      refine anyU_take (i := 6) (v := ?_) rfl (by kernel_rfl) (fun _ _ _ h => h) (Or.inl ⟨by rfl, ?_⟩) hHeld ?_
      rotate_left
      · (intro w hSw; (try dsimp only at hSw); go_simp) <;> with_reducible rfl
      try simp only [Act.put, List.setIfInBounds_toArray, List.getElem_toArray, List.getElem_cons_zero, List.getElem_cons_succ, List.set_cons_zero, List.set_cons_succ]
      have HS := hid HR0.out.drew
      clear hHeld
      refine anyU_world (fun w => Hid (S w0 w _)) HS (fun w1 HS => ?_)
      refine anyU_next (rs := [7]) (by kernel_rfl) (by simp) ?_
      refine NextU.cons rfl (fun K hK => ?_) ?_
      · go_simp
        go_wp2_with (go_at_call 31; with_reducible refine (HWR.out _ HS.out).mono ?_; rintro r w5 ⟨rfl, hs5⟩; have H5 := hid hs5; clear hs5)
        refine hK.out _ _ (fun h => Bool.noConfusion (show true = false from h)) ?_
        clear hK K
        refine anyU_done (by kernel_rfl) ?_ _
        go_wp2_with fail
        go_roundw
        case rel => exact ⟨m + 1, _, by omega, by go_num, hid HPUT.out.1, hid (by have := HPUT.out.2.1; rw [HOP.out] at this; exact Nat.le_trans this ho1.out), HF3, H5.out⟩
        case measure => simp [intOf]; omega
      exact NextU.nil
    · have hd : l.drop m = [] := List.drop_eq_nil_iff.2 (by omega)
      have hf2 := hf1.out
      rw [hd] at hf2
      have HF2 := hid hf2; have HSR := hid hsr
      clear hd hf2 hsr hf1 hok1
      go_wp2_with fail
      go_end0
      exact ⟨rfl, by rw [HFR.out, HF2.out]; exact HSR.out.tail⟩
/-- Whatever is told to be gone. -/
theorem goes_any : ∀ n, GoesAny n
  | 0 => fun w0 w b bs e i why L N U hok hi ha hne ho hN hs => by
    have : 1 ≤ e.open_ := Eng.many_pos hi ha
    omega
  | n + 1 => goes_step n (frees_step n (goes_any n))
theorem frees_any (n : Nat) : FreesAny n := frees_step n (goes_any n)
end Go.Proofs.YtaghjcdlghcjeaaGreatDoor
/- The program's engine: whom a strict reader must be ahead of. -/
namespace Go.Proofs.YtaghjcdlghcjeaaGreatDoor
open Go Go.RowKit Go.Sep

theorem neqT_same (w : World) (p : Nat) : (binOp .neq 77 (.pointer (some ⟨p, 0, none⟩)) (.pointer (some ⟨p, 0, none⟩))).run Tryz.prog w = .ok (.bool false) w := by
  obtain ⟨j, hj, _⟩ := Option.map_eq_some_iff.1 tx_size
  exact Lib.run_neq_ptr_same w ⟨p, 0, none⟩ Tryz.underlying77 hj
theorem neqT_other {w0 w : World} {b : Nat} {bs : List Nat} {k : EngV} {e : Eng} {i m : Nat} {L : List HProp} (hs : S w0 w (engO b bs k e :: L)) (hi : i < e.txs.length) (hm : m < e.txs.length) (hne : blkOf bs m ≠ blkOf bs i) :
    (binOp .neq 77 (.pointer (some ⟨blkOf bs m, 0, none⟩)) (.pointer (some ⟨blkOf bs i, 0, none⟩))).run Tryz.prog w = .ok (.bool true) w := by
  obtain ⟨j, hj, hsz⟩ := Option.map_eq_some_iff.1 tx_size
  have ha := (hs.eng_tx hm).sep_elim.blk_heap
  have hb := (hs.eng_tx hi).sep_elim.blk_heap
  have hne' : (⟨blkOf bs m, 0, none⟩ : Addr) ≠ ⟨blkOf bs i, 0, none⟩ := fun e1 => hne (congrArg Addr.block e1)
  have h : ∀ d : Nat, (Op.equalIn (d + 1) 77 (.pointer (some ⟨blkOf bs m, 0, none⟩)) (.pointer (some ⟨blkOf bs i, 0, none⟩))).run Tryz.prog w = .ok false w := fun d => by
    simp [Op.equalIn, run_underlying Tryz.underlying77, sizeOf, typeInfo, hj, hsz, run_sameAddr_other w hne' ha hb]
  simp only [binOp]
  simp [Op.equal, Op.maxDepth, h 9999]
set_option maxRecDepth 100000 in
set_option maxHeartbeats 20000000 in
theorem saw_any (w0 w : World) (b : Nat) (bs : List Nat) (e : Eng) (i : Nat) (key : Int) (L : List HProp) (N : Nat) (U : List Task) (hok : OkT N e U) (hi : i < e.txs.length) (ha : (e.tx i).alive = true) (hkey : keyOk key) (hN : N ≤ 100000000) (hs : S w0 w (engP b bs e :: L)) :
    Calls Tryz.prog 28 #[.pointer (some ⟨b, 0, none⟩), ptr bs i, .int .i64 key] w fun r w' => r = .returned (.bool (e.sees i key).2) ∧ S w0 w' (engP b bs (e.sees i key).1 :: L) := by
  obtain ⟨k, hs⟩ := hs.eng_open
  have hq : ∀ W M, S w0 W (storeP 84 b 0 e.V e.last :: tabP 3 b 11 e.t :: engO b bs k e :: M) → W.cell? ⟨blkOf bs i, 2, none⟩ = some (.int .i64 (e.tx i).start) := fun W M h => (h.tail.tail.eng_txc hi).2.start
  have HS := hid hs; have HQ := hid hq; have HOK := hid hok
  have q0 := hq _ _ hs.drew
  have hrl := hok.row_le
  clear hs hq hok
  unfold ptr
  go_enter Tryz.func28, Tryz.ntmps28
  go_wp2_with fail
  go_region_held_law (fun w' => w'.cell? ⟨blkOf bs i, 2, none⟩ = some (.int .i64 (e.tx i).start)) (first | (with_reducible assumption) | (with_reducible exact q0) | (with_reducible exact q1))
    ((go_at_call 44; with_reducible refine (enewer_any w0 _ b e key _ _ N _ HOK.out hkey HS.out.drew).mono ?_; rintro r w2 ⟨an, cn, rfl, hcn, hcn2, hs2⟩; have q1 := HQ.out _ _ hs2.tail; have G2 := hid hs2; clear hs2))
  have hsees : e.sees i key = (if (sawNew i (newerL (e.row key) (e.tx i).start) e).2 = true then (sawOpen i key (List.range (sawNew i (newerL (e.row key) (e.tx i).start) e).1.txs.length) (sawNew i (newerL (e.row key) (e.tx i).start) e).1, true) else sawNew i (newerL (e.row key) (e.tx i).start) e) := rfl
  have hnl : (newerL (e.row key) (e.tx i).start).length ≤ 401 := by
    refine Nat.le_trans (m := (e.row key).length) ?_ ?_
    · unfold newerL; rw [List.length_map]; exact List.length_filter_le _ _
    · unfold Eng.row
      cases hr : e.V[key.toNat]? with
      | none => simp
      | some vs => exact hrl vs (List.mem_of_getElem? hr)
  generalize newerL (e.row key) (e.tx i).start = nl at *
  have HSE := hid hsees
  clear hsees hrl q0
  unfold maxLen at hcn2
  have H3 := hid G2.out
  clear G2 HS
  go_wp2_with fail
  go_loopw [30] (fun c wr => ∃ (m : Nat) (e1 : Eng) (k1 : EngV), m ≤ nl.length ∧ c = .int .i64 m ∧ Hid (k1.txv = k.txv) ∧ Hid (OkT (N + m) e1 U) ∧ Hid (e1.txs.length = e.txs.length ∧ e1.wr = e.wr ∧ (e1.tx i).alive = true) ∧ Hid (sawNew i nl e = sawNew i (nl.drop m) e1) ∧ S w0 wr (sl 3 1 (.slice an nl.length cn) nl.length (icells nl) :: storeP 84 b 0 e1.V e1.last :: tabP 3 b 11 e1.t :: engO b bs k1 e1 :: L)) (fun c _ => nl.length - (intOf c).toNat)
  case atStart => exact ⟨0, e, k, Nat.zero_le _, rfl, hid rfl, HOK, hid ⟨rfl, rfl, ha⟩, hid rfl, H3.out⟩
  case round =>
    rename World => wr
    obtain ⟨m, e1, k1, hm, rfl, hk1, hok1, hsm1, hf1, hsr⟩ := hrel
    clear H3
    by_cases hlt : m < nl.length
    · have hp : nl[m]? = some nl[m] := by simp [hlt]
      have hd : nl.drop m = nl[m] :: nl.drop (m + 1) := List.drop_eq_getElem_cons hlt
      generalize nl[m] = t at hp hd
      have hf2 := hf1.out
      rw [hd] at hf2
      obtain ⟨gn, on, rfl, _, c1⟩ := hsr.sl_int hp
      have hO : S w0 wr (engO b bs k1 e1 :: storeP 84 b 0 e1.V e1.last :: tabP 3 b 11 e1.t :: sl 3 1 (.slice (some ⟨gn, on, none⟩) nl.length cn) nl.length (icells nl) :: L) := hsr.conv (by simp only [all]; ac_rfl)
      have hc := hO.eng_c.2
      have c16 := hc.wr
      have lk := Tryz.look1 hc.map t
      have hi1 : i < e1.txs.length := by rw [hsm1.out.1]; exact hi
      by_cases hkk : 0 < (mget e1.wr t).getD 0
      · obtain ⟨kk, hkv⟩ : ∃ kk, mget e1.wr t = some kk := by
          cases hx : mget e1.wr t with
          | none => rw [hx] at hkk; simp at hkk
          | some kk => exact ⟨kk, rfl⟩
        obtain ⟨g1, g2, g3⟩ := hok1.out.wr t kk hkv
        obtain ⟨j, rfl⟩ : ∃ j : Nat, kk = (j : Int) + 1 := ⟨(kk - 1).toNat, by omega⟩
        have hjj : ((j : Int) + 1).toNat - 1 = j := by omega
        rw [hjj] at g3
        have hj : j < e1.txs.length := by omega
        have hij : i ≠ j := by
          intro h; subst h
          have := hsm1.out.2.2
          simp [Tx.alive, g3] at this
        rw [hkv] at lk
        simp only [Option.getD_some] at lk
        have c14 := hc.txs
        obtain ⟨a, cap, hv, hle, hcap, hrow⟩ := hc.row
        obtain ⟨g, o, rfl, ci⟩ := hrow j hj
        rw [hv] at c14
        unfold maxLen at hcap
        unfold ptr at ci
        have hstr := strict_eng w0 wr b bs k1 e1 j _ hO hj
        have hbnd : ∀ j, j < e1.txs.length → (e1.tx j).aft.length + 1 ≤ 1000000000000 ∧ (e1.tx j).fore.length + 1 ≤ 1000000000000 := fun j hj => by have := hok1.out.fits _ (Eng.tx_mem hj); omega
        have hcall := noted_any w0 wr b bs k1 e1 i j _ hO hi1 hj hij (hbnd i hi1).1 (hbnd j hj).2 (fun x hx => (hok1.out.txs x hx).refs)
        unfold ptr at hcall
        have hnext : sawNew i (t :: nl.drop (m + 1)) e1 = if (e1.tx j).strict = true then (if (e1.note i j).bad i j = true then (e1.note i j, false) else sawNew i (nl.drop (m + 1)) (e1.note i j)) else sawNew i (nl.drop (m + 1)) e1 := by
          rw [sawNew]
          simp only [hkv, Option.getD_some, hjj]
          by_cases hst : (e1.tx j).strict = true
          · rw [if_pos ⟨by omega, hst⟩, if_pos hst]
          · rw [if_neg (fun h => hst h.2), if_neg hst]
        rw [hnext] at hf2
        have hkp : (0 : Int) < (j : Int) + 1 := by omega
        have HC := hid hcall; have HSTR := hid hstr; have HF2 := hid hf2; have HSR := hid hsr
        have hok2 := hok1.out.note1 hi1 hj
        have HOK2 := hid hok2
        have hsm2 : (e1.note i j).txs.length = e.txs.length ∧ (e1.note i j).wr = e.wr ∧ ((e1.note i j).tx i).alive = true := ⟨by rw [Eng.note_len]; exact hsm1.out.1, hsm1.out.2.1, by rw [Eng.note_keep Tx.alive (fun _ _ => rfl) (fun _ _ => rfl)]; exact hsm1.out.2.2⟩
        have HSM2 := hid hsm2
        have hk1' := hk1
        clear hp hd hf2 hO hc hi1 hkk hkv g1 g2 g3 hjj hij hv hrow hstr hbnd hcall hnext hsr hf1 hok2 hsm2
        cases hst : (e1.tx j).strict with
        | false =>
          rw [hst] at HSTR HF2
          have hf3 : sawNew i nl e = sawNew i (nl.drop (m + 1)) e1 := by rw [HF2.out]; rfl
          have HF3 := hid hf3
          clear hf3 hst HC HOK2 HSM2 HF2
          go_wp2_with (go_at_call 45; with_reducible refine HSTR.out.mono ?_; rintro r w' ⟨rfl, rfl⟩)
          go_roundw
          case rel => exact ⟨m + 1, e1, k1, by omega, by go_num, hk1, hid (hok1.out.mono (by omega)), hsm1, HF3, HSR.out⟩
          case measure => simp [intOf]; omega
        | true =>
          rw [hst] at HSTR HF2
          cases hbad : (e1.note i j).bad i j with
          | true =>
            rw [hbad] at HC
            have hf3 : sawNew i nl e = (e1.note i j, false) := by rw [HF2.out]; simp [hbad]
            have hse : e.sees i key = (e1.note i j, false) := by rw [HSE.out, hf3]; rfl
            have HSF := hid hse
            clear hf3 hse hst hbad HOK2 HSM2 HF2
            go_wp2_with (first | (go_at_call 45; with_reducible refine HSTR.out.mono ?_; rintro r w' ⟨rfl, rfl⟩) | (go_at_call 46; with_reducible refine HC.out.mono ?_; rintro r w' ⟨k2, hk2, rfl, hs2⟩; have H5 := hid hs2; clear hs2 hk2))
            go_ret
            exact ⟨by rw [HSF.out]; rfl, by rw [HSF.out]; exact S.eng_shut (k := k2) (S.tail (P := sl 3 1 (.slice (some ⟨gn, on, none⟩) nl.length cn) nl.length (icells nl)) (H5.out.conv (by simp only [all]; show _ = sep _ (sep (storeP _ b 0 e1.V e1.last) (sep (tabP _ b 11 e1.t) _)); ac_rfl)))⟩
          | false =>
            rw [hbad] at HC
            have hf3 : sawNew i nl e = sawNew i (nl.drop (m + 1)) (e1.note i j) := by rw [HF2.out]; simp [hbad]
            have HF3 := hid hf3
            clear hf3 hst hbad HF2
            go_wp2_with (first | (go_at_call 45; with_reducible refine HSTR.out.mono ?_; rintro r w' ⟨rfl, rfl⟩) | (go_at_call 46; with_reducible refine HC.out.mono ?_; rintro r w' ⟨k2, hk2, rfl, hs2⟩; have H5 := hid hs2; have HK2 := hid hk2; clear hs2 hk2))
            go_roundw
            case rel => exact ⟨m + 1, e1.note i j, k2, by omega, by go_num, hid (HK2.out.trans hk1'.out), hid (HOK2.out.mono (by omega)), HSM2, HF3, H5.out.conv (by simp only [all]; show _ = sep _ (sep (storeP _ b 0 e1.V e1.last) (sep (tabP _ b 11 e1.t) _)); ac_rfl)⟩
            case measure => simp [intOf]; omega
      · have hf3 : sawNew i nl e = sawNew i (nl.drop (m + 1)) e1 := by
          rw [hf2, sawNew]
          simp only
          rw [if_neg (fun h => hkk h.1)]
        generalize (mget e1.wr t).getD 0 = kk at lk hkk
        have hkn : kk ≤ 0 := by omega
        have HF3 := hid hf3; have HSR := hid hsr
        clear hp hd hf2 hf3 hO hc hi1 hkk hsr hf1
        go_wp2_with fail
        go_roundw
        case rel => exact ⟨m + 1, e1, k1, by omega, by go_num, hk1, hid (hok1.out.mono (by omega)), hsm1, HF3, HSR.out⟩
        case measure => simp [intOf]; omega
    · have hd : nl.drop m = [] := List.drop_eq_nil_iff.2 (by omega)
      have hf2 := hf1.out
      rw [hd] at hf2
      have hse : e.sees i key = (sawOpen i key (List.range e.txs.length) e1, true) := by
        rw [HSE.out, hf2]
        show ((sawOpen i key (List.range e1.txs.length) e1, true) : Eng × Bool) = _
        rw [hsm1.out.1]
      have hc := hsr.tail.tail.tail.eng_c.2
      have c14 := hc.txs
      obtain ⟨a, cap, hv, hle, hcap, hrow⟩ := hc.row
      rw [hv, hsm1.out.1] at c14
      unfold maxLen at hcap
      have hle2 : e.txs.length ≤ cap := by rw [← hsm1.out.1]; exact hle
      have hrw : ∀ (W : World) (k2 : EngV) (e2 : Eng) (M : List HProp), k2.txv = k.txv → e2.txs.length = e.txs.length → S w0 W (engO b bs k2 e2 :: M) → ∀ j, j < e.txs.length → ∃ g o, a = some ⟨g, o, none⟩ ∧ W.cell? ⟨g, o + j, none⟩ = some (ptr bs j) := by
        intro W k2 e2 M h1 h2 h3 j hj
        obtain ⟨a', cap', h4, _, _, h5⟩ := h3.eng_c.2.row
        obtain ⟨g', o', h6, h7⟩ := h5 j (by omega)
        rw [h1, ← hk1.out, hv] at h4
        simp only [Value.slice.injEq] at h4
        exact ⟨g', o', by rw [h4.1, h6], h7⟩
      have hokm := hok1.out.mono (M := N + 401 + 0) (by omega)
      have HRW := hid hrw; have HSF := hid hse; have HSR1 := hid hsr.tail; have HOKM := hid hokm; have HLN1 := hid hsm1.out.1
      have hfew := HOK.out.few
      clear hd hf2 hse hc hv hle hrow hrw hsr hf1 hok1 hsm1 hokm HSE
      go_wp2_with fail
      go_loopw [73] (fun c wr => ∃ (m : Nat) (e2 : Eng) (k2 : EngV), m ≤ e.txs.length ∧ c = .int .i64 m ∧ Hid (k2.txv = k.txv) ∧ Hid (OkT (N + 401 + m) e2 U) ∧ Hid (e2.txs.length = e.txs.length) ∧ Hid (sawOpen i key (List.range e.txs.length) e1 = sawOpen i key ((List.range e.txs.length).drop m) e2) ∧ S w0 wr (storeP 84 b 0 e2.V e2.last :: tabP 3 b 11 e2.t :: engO b bs k2 e2 :: L)) (fun c _ => e.txs.length - (intOf c).toNat)
      case atStart => exact ⟨0, e1, k1, Nat.zero_le _, rfl, hk1, HOKM, HLN1, hid rfl, HSR1.out⟩
      case round =>
        rename World => wq
        obtain ⟨m, e2, k2, hm, rfl, hk2, hok2, hln2, hf1, hsr⟩ := hrel
        clear HSR1 HOKM HLN1
        by_cases hlt : m < e.txs.length
        · have hd : (List.range e.txs.length).drop m = m :: (List.range e.txs.length).drop (m + 1) := by rw [List.drop_eq_getElem_cons (by simpa using hlt)]; simp
          have hf2 := hf1.out
          rw [hd] at hf2
          have hj : m < e2.txs.length := by rw [hln2.out]; exact hlt
          have hi2 : i < e2.txs.length := by rw [hln2.out]; exact hi
          have hO : S w0 wq (engO b bs k2 e2 :: storeP 84 b 0 e2.V e2.last :: tabP 3 b 11 e2.t :: L) := hsr.conv (by simp only [all]; ac_rfl)
          obtain ⟨g, o, rfl, ci⟩ := HRW.out wq k2 e2 _ hk2.out hln2.out hO m hlt
          unfold ptr at ci
          have hx := (hO.eng_txc hj).2
          have x1 := hx.state
          have x6 := hx.writes
          have lk := Tryz.look2 hx.map key
          have hwr : (e2.tx m).wrote key = (mget (e2.tx m).writes key).isSome := rfl
          have hal : (e2.tx m).alive = decide ((e2.tx m).state ≤ 1) := rfl
          have hstr := strict_eng w0 wq b bs k2 e2 m _ hO hj
          have hbnd : ∀ j, j < e2.txs.length → (e2.tx j).aft.length + 1 ≤ 1000000000000 ∧ (e2.tx j).fore.length + 1 ≤ 1000000000000 := fun j hj => by have := hok2.out.fits _ (Eng.tx_mem hj); omega
          have hcall := fun hij => noted_any w0 wq b bs k2 e2 i m _ hO hi2 hj hij (hbnd i hi2).1 (hbnd m hj).2 (fun x hx => (hok2.out.txs x hx).refs)
          unfold ptr at hcall
          have hoth := fun hne => neqT_other (hs := hO) hi2 hj hne
          have hbn := fun hij : m ≠ i => blk_ne hO.eng_c.2 hj hi2 hij
          have HC := hid hcall; have HSTR := hid hstr; have HSR := hid hsr
          have hokn := hok2.out.note1 hi2 hj
          have HOK2 := hid hokn
          have hlnn := Eng.note_len e2 i m
          have HLN2 := hid hlnn
          rw [← hwr] at lk
          generalize (mget (e2.tx m).writes key).getD 0 = vv at lk
          generalize hst : (e2.tx m).strict = st at *
          generalize hws : (e2.tx m).wrote key = ws at *
          generalize hsta : (e2.tx m).state = sta at *
          have HST := hid hst; have HWS := hid hws; have HAL := hid hal; have HOTH := hid hoth; have HBN := hid hbn
          have HSTR2 := hid hstr
          clear hd hj hi2 hO hx hwr hal hstr hbnd hcall hoth hbn hsr hf1 hokn hlnn hst hws hsta
          cases ws with
          | false =>
            have hf3 : sawOpen i key (List.range e.txs.length) e1 = sawOpen i key ((List.range e.txs.length).drop (m + 1)) e2 := by rw [hf2, sawOpen, if_neg (by simp [HWS.out])]
            have HF3 := hid hf3
            clear hf2 hf3 HC HSTR HOK2 HLN2 HST HWS HAL HOTH HBN
            go_wp2_with (go_at_call 45; with_reducible refine HSTR2.out.mono ?_; rintro r w' ⟨rfl, rfl⟩)
            go_roundw
            case rel => exact ⟨m + 1, e2, k2, by omega, by go_num, hk2, hid (hok2.out.mono (by omega)), hln2, HF3, HSR.out⟩
            case measure => simp [intOf]; omega
          | true =>
            by_cases hmi : m = i
            · subst hmi
              have hnq := fun w => neqT_same w (blkOf bs m)
              have hf3 : sawOpen m key (List.range e.txs.length) e1 = sawOpen m key ((List.range e.txs.length).drop (m + 1)) e2 := by rw [hf2, sawOpen, if_neg (by simp [])]
              have HF3 := hid hf3
              clear hf2 hf3 HC HSTR HOK2 HLN2 HST HWS HAL HOTH HBN
              go_wp2_with (go_at_call 45; with_reducible refine HSTR2.out.mono ?_; rintro r w' ⟨rfl, rfl⟩)
              go_roundw
              case rel => exact ⟨m + 1, e2, k2, by omega, by go_num, hk2, hid (hok2.out.mono (by omega)), hln2, HF3, HSR.out⟩
              case measure => simp [intOf]; omega
            · have hnq := HOTH.out (HBN.out hmi)
              cases st with
              | false =>
                have hf3 : sawOpen i key (List.range e.txs.length) e1 = sawOpen i key ((List.range e.txs.length).drop (m + 1)) e2 := by rw [hf2, sawOpen, if_neg (by simp [HST.out])]
                have HF3 := hid hf3
                clear hf2 hf3 HC HSTR HOK2 HLN2 HST HWS HAL HOTH HBN hmi
                go_wp2_with (go_at_call 45; with_reducible refine HSTR2.out.mono ?_; rintro r w' ⟨rfl, rfl⟩)
                go_roundw
                case rel => exact ⟨m + 1, e2, k2, by omega, by go_num, hk2, hid (hok2.out.mono (by omega)), hln2, HF3, HSR.out⟩
                case measure => simp [intOf]; omega
              | true =>
                by_cases h1 : sta ≤ 1
                · have hb1 : decide (sta ≤ 1) = true := decide_eq_true h1
                  have hf3 : sawOpen i key (List.range e.txs.length) e1 = sawOpen i key ((List.range e.txs.length).drop (m + 1)) (e2.note i m) := by rw [hf2, sawOpen, if_pos (by simp [HWS.out, HST.out, HAL.out, hb1, hmi])]
                  have HF3 := hid hf3; have HC2 := hid (HC.out (Ne.symm hmi))
                  clear hf2 hf3 HC HSTR HST HWS HAL HOTH HBN hmi h1
                  go_wp2_with (first | (go_at_call 45; with_reducible refine HSTR2.out.mono ?_; rintro r w' ⟨rfl, rfl⟩) | (go_at_call 46; with_reducible refine HC2.out.mono ?_; rintro r w' ⟨k3, hk3, rfl, hs3⟩; have H5 := hid hs3; have HK3 := hid hk3; clear hs3 hk3))
                  go_roundw
                  case rel => exact ⟨m + 1, e2.note i m, k3, by omega, by go_num, hid (HK3.out.trans hk2.out), hid (HOK2.out.mono (by omega)), hid (HLN2.out.trans hln2.out), HF3, H5.out.conv (by simp only [all]; show _ = sep (storeP _ b 0 e2.V e2.last) (sep (tabP _ b 11 e2.t) _); ac_rfl)⟩
                  case measure => simp [intOf]; omega
                · have hb1 : decide (sta ≤ 1) = false := decide_eq_false h1
                  have hf3 : sawOpen i key (List.range e.txs.length) e1 = sawOpen i key ((List.range e.txs.length).drop (m + 1)) e2 := by rw [hf2, sawOpen, if_neg (by simp [HAL.out, hb1])]
                  have HF3 := hid hf3
                  clear hf2 hf3 HC HSTR HOK2 HLN2 HST HWS HAL HOTH HBN hmi h1
                  go_wp2_with (go_at_call 45; with_reducible refine HSTR2.out.mono ?_; rintro r w' ⟨rfl, rfl⟩)
                  go_roundw
                  case rel => exact ⟨m + 1, e2, k2, by omega, by go_num, hk2, hid (hok2.out.mono (by omega)), hln2, HF3, HSR.out⟩
                  case measure => simp [intOf]; omega
        · have hd : (List.range e.txs.length).drop m = [] := List.drop_eq_nil_iff.2 (by simp; omega)
          have hf2 := hf1.out
          rw [hd, sawOpen] at hf2
          have HF2 := hid hf2; have HSR := hid hsr
          clear hd hf2 hsr hf1
          go_wp2_with fail
          go_ret
          exact ⟨by rw [HSF.out]; rfl, by rw [HSF.out]; show S w0 wq (engP b bs (sawOpen i key (List.range e.txs.length) e1) :: L); rw [HF2.out]; exact HSR.out.eng_shut⟩
end Go.Proofs.YtaghjcdlghcjeaaGreatDoor
/- The program's engine: Ready, Abort. -/
namespace Go.Proofs.YtaghjcdlghcjeaaGreatDoor
open Go Go.RowKit Go.Sep

theorem ready_any (w0 w : World) (b : Nat) (bs : List Nat) (k : EngV) (e : Eng) (n : Int) (L : List HProp) (N : Nat) (U : List Task) (hok : OkT N e U) (hs : S w0 w (engO b bs k e :: L)) :
    Calls Tryz.prog 34 #[.pointer (some ⟨b, 0, none⟩), .int .i64 n] w fun r w' => r = .returned (errV (e.ready n)) ∧ w = w' := by
  rcases e.err_cases n true with ⟨h1, h2⟩ | ⟨i, rfl, hi, ⟨h1, h2, h3⟩ | ⟨h1, h2⟩⟩
  · have hf : e.ready n = 7 := by unfold Eng.ready; rw [if_pos (by rw [h1]; decide), h1]
    have HF := hid hf; have HC := hid (of_miss w0 w b bs k e n true L hs h2)
    clear hs h1 h2 hf hok
    go_enter Tryz.func34, Tryz.ntmps34
    go_wp2_with fail
    with_reducible refine HC.out.mono ?_
    rintro r w' ⟨rfl, rfl⟩
    go_wp2_with fail
    go_ret
    exact ⟨by rw [HF.out]; rfl, rfl⟩
  · have hf : e.ready ((i : Int) + 1) = 6 := by unfold Eng.ready; rw [if_pos (by rw [h1]; decide), h1]
    have HF := hid hf; have HC := hid (of_shut w0 w b bs k e i L hs hi h3)
    clear hs h1 h2 h3 hf hok
    go_enter Tryz.func34, Tryz.ntmps34
    go_wp2_with fail
    with_reducible refine HC.out.mono ?_
    rintro r w' ⟨rfl, rfl⟩
    go_wp2_with fail
    go_ret
    exact ⟨by rw [HF.out]; rfl, rfl⟩
  · have hi2 : ((i : Int) + 1).toNat - 1 = i := by omega
    have hf : e.ready ((i : Int) + 1) = if (e.tx i).level = 2 ∧ e.middle i = true then 13 else 0 := by unfold Eng.ready; rw [if_neg (by rw [h1]; decide), hi2]
    have hc := of_ok w0 w b bs k e i true L hs hi h2
    unfold ptr at hc
    have c0 := (hs.eng_txc hi).2.level
    have hm := middle_eng w0 w b bs k e i L hs hi (hok.at hi).refs
    have HF := hid hf; have HC := hid hc; have HM := hid hm
    clear hs h1 h2 hf hc hm hok hi2
    by_cases hl : (e.tx i).level = 2
    · have hb : ((e.tx i).level == 2) = true := by simpa using hl
      cases hmm : e.middle i with
      | true =>
        have hf : e.ready ((i : Int) + 1) = 13 := by rw [HF.out, if_pos ⟨hl, hmm⟩]
        rw [hmm] at HM
        have HF2 := hid hf
        rw [hl] at c0
        clear hf hmm hl HF hb
        go_enter Tryz.func34, Tryz.ntmps34
        go_wp2_with fail
        with_reducible refine HC.out.mono ?_
        rintro r w' ⟨rfl, rfl⟩
        go_wp2_with (go_at_call 54; with_reducible refine HM.out.mono ?_; rintro r w' ⟨rfl, rfl⟩)
        go_ret
        exact ⟨by rw [HF2.out]; rfl, rfl⟩
      | false =>
        have hf : e.ready ((i : Int) + 1) = 0 := by rw [HF.out, if_neg (by simp [hmm])]
        rw [hmm] at HM
        have HF2 := hid hf
        rw [hl] at c0
        clear hf hmm hl HF hb
        go_enter Tryz.func34, Tryz.ntmps34
        go_wp2_with fail
        with_reducible refine HC.out.mono ?_
        rintro r w' ⟨rfl, rfl⟩
        go_wp2_with (go_at_call 54; with_reducible refine HM.out.mono ?_; rintro r w' ⟨rfl, rfl⟩)
        go_ret
        exact ⟨by rw [HF2.out]; rfl, rfl⟩
    · have hb : ((e.tx i).level == 2) = false := by simpa using hl
      have hf : e.ready ((i : Int) + 1) = 0 := by rw [HF.out, if_neg (fun h => hl h.1)]
      have HF2 := hid hf
      clear hf hl HF HM
      go_enter Tryz.func34, Tryz.ntmps34
      go_wp2_with fail
      with_reducible refine HC.out.mono ?_
      rintro r w' ⟨rfl, rfl⟩
      go_wp2_with fail
      go_ret
      exact ⟨by rw [HF2.out]; rfl, rfl⟩
theorem abort_any (w0 w : World) (b : Nat) (bs : List Nat) (e : Eng) (n : Int) (L : List HProp) (N : Nat) (hok : OkT N e []) (hN : N ≤ 100000000) (hs : S w0 w (engP b bs e :: L)) :
    Calls Tryz.prog 14 #[.pointer (some ⟨b, 0, none⟩), .int .i64 n] w fun r w' => r = .returned (errV (e.abort n).2) ∧ S w0 w' (engP b bs (e.abort n).1 :: L) := by
  have HS := hid hs
  obtain ⟨k, hs⟩ := hs.eng_open
  have hO : S w0 w (engO b bs k e :: storeP 84 b 0 e.V e.last :: tabP 3 b 11 e.t :: L) := hs.conv (by simp only [all]; ac_rfl)
  rcases e.err_cases n false with ⟨h1, h2⟩ | ⟨i, rfl, hi, ⟨h1, h2, h3⟩ | ⟨h1, h2⟩⟩
  · have hf : e.abort n = (e, 7) := by unfold Eng.abort; rw [if_pos (by rw [h1]; decide), h1]
    have HF := hid hf; have HC := hid (of_miss w0 w b bs k e n false _ hO h2)
    clear hs hO h1 h2 hf hok
    go_enter Tryz.func14, Tryz.ntmps14
    go_wp2_with fail
    with_reducible refine HC.out.mono ?_
    rintro r w' ⟨rfl, rfl⟩
    go_wp2_with fail
    go_ret
    exact ⟨by rw [HF.out]; rfl, by rw [HF.out]; exact HS.out⟩
  · cases h2
  · have hi2 : ((i : Int) + 1).toNat - 1 = i := by omega
    have hf : e.abort ((i : Int) + 1) = if 1 < (e.tx i).state then (e, 6) else (e.goes i 0, 0) := by unfold Eng.abort; rw [if_neg (by rw [h1]; decide), hi2]
    have hc := of_ok w0 w b bs k e i false _ hO hi h2
    unfold ptr at hc
    have c1 := (hO.eng_txc hi).2.state
    have HF := hid hf; have HC := hid hc
    by_cases hst : 1 < (e.tx i).state
    · have hf2 : e.abort ((i : Int) + 1) = (e, 6) := by rw [hf, if_pos hst]
      have HF2 := hid hf2
      clear hs hO h1 h2 hf hf2 hc hok hi2 HF
      go_enter Tryz.func14, Tryz.ntmps14
      go_wp2_with fail
      with_reducible refine HC.out.mono ?_
      rintro r w' ⟨rfl, rfl⟩
      go_wp2_with fail
      go_ret
      exact ⟨by rw [HF2.out]; rfl, by rw [HF2.out]; exact HS.out⟩
    · have hf2 : e.abort ((i : Int) + 1) = (e.goes i 0, 0) := by rw [hf, if_neg hst]
      have hcall := goes_any e.open_ w0 w b bs e i 0 L N [] hok hi (by simp only [Tx.alive, decide_eq_true_eq]; omega) (by simp) (Nat.le_refl _) hN HS.out
      have HF2 := hid hf2; have HG := hid hcall
      clear hs hO h1 h2 hf hf2 hc hok hi2 HF hcall
      go_enter Tryz.func14, Tryz.ntmps14
      go_wp2_with fail
      with_reducible refine HC.out.mono ?_
      rintro r w' ⟨rfl, rfl⟩
      go_wp2_with fail
      with_reducible refine HG.out.mono ?_
      rintro r w' ⟨rfl, hs'⟩
      have H5 := hid hs'
      clear hs'
      go_wp2_with fail
      go_ret
      exact ⟨by rw [HF2.out]; rfl, by rw [HF2.out]; exact H5.out⟩
end Go.Proofs.YtaghjcdlghcjeaaGreatDoor
/- The program's engine: Sweep. -/
namespace Go.Proofs.YtaghjcdlghcjeaaGreatDoor
open Go Go.RowKit Go.Sep

def floorStep (a : Int) (x : Tx) : Int := if x.alive = true ∧ x.level ≠ 0 then min a x.start else a
theorem floor_eq (e : Eng) : e.floor = e.txs.foldl floorStep e.last := rfl
theorem floor_take {e : Eng} {m : Nat} (h : m < e.txs.length) : (e.txs.take (m + 1)).foldl floorStep e.last = floorStep ((e.txs.take m).foldl floorStep e.last) (e.tx m) := by
  rw [take_succ_get (Eng.tx_some h), List.foldl_append]; rfl
end Go.Proofs.YtaghjcdlghcjeaaGreatDoor
namespace Go.Proofs.YtaghjcdlghcjeaaGreatDoor
open Go Go.RowKit Go.Sep

theorem store_cells {w0 w : World} {L : List HProp} {b T : Nat} (h : S w0 w (cells b 0 (List.replicate 10 (.slice none 0 0) ++ [.int .i64 0]) :: L)) : S w0 w (storeP T b 0 (List.replicate 10 []) 0 :: L) := by
  refine .ex_intro (List.replicate 10 (.slice none 0 0)) (.sep_intro (.pur_intro ⟨rfl, rfl⟩ (.sep_intro ?_)))
  have h2 : ∀ n, S w0 w (cells b 0 (List.replicate 10 (.slice none 0 0) ++ [.int .i64 0]) :: all (List.replicate n (sl T 2 (.slice none 0 0) 0 [])) :: L) := by
    intro n
    induction n with
    | zero => exact h.conv (by simp [all, emp_sep])
    | succ n ih => exact (S.sl_nil (e := T) (size := 2) ih).conv (by simp only [all, List.replicate_succ]; rw [sep_left_comm]; simp only [sep_assoc])
  exact h2 10
def engVals (m : Nat) : List Value := (List.replicate 10 (.slice none 0 0) ++ [.int .i64 0]) ++ ([.map none, .map none, .map none] ++ [.slice none 0 0, .int .i64 0, .map (some m), .slice none 0 0])
theorem eng_new {w0 w : World} {L : List HProp} {b m : Nat} (h : S w0 w (blk b 75 (engVals m) :: mp encI (fun _ => True) m [] :: L)) : S w0 w (engP b [] Eng.zero :: L) := by
  have h1 : S w0 w (cells b 0 (List.replicate 10 (.slice none 0 0) ++ [.int .i64 0]) :: cells b 11 [.map none, .map none, .map none] :: cells b 14 [.slice none 0 0, .int .i64 0, .map (some m), .slice none 0 0] :: shp b 75 18 :: mp encI (fun _ => True) m [] :: L) := by
    have e1 : cells b 0 (engVals m) = sep (cells b 0 (List.replicate 10 (.slice none 0 0) ++ [.int .i64 0])) (sep (cells b 11 [.map none, .map none, .map none]) (cells b 14 [.slice none 0 0, .int .i64 0, .map (some m), .slice none 0 0])) := by
      have a1 : ∀ A B C : List Value, A.length = 11 → B.length = 3 → cells b 0 (A ++ (B ++ C)) = sep (cells b 0 A) (sep (cells b 11 B) (cells b 14 C)) := by
        intro A B C hA hB
        rw [cells_append, cells_append, hA, hB]
      exact a1 _ _ _ rfl rfl
    have e2 : blk b 75 (engVals m) = sep (shp b 75 18) (cells b 0 (engVals m)) := rfl
    refine h.conv ?_
    simp only [all]
    rw [e2, e1]
    ac_rfl
  have h2 := store_cells (T := 84) h1
  have h3 := S.tab_zero (T := 3) h2.swap
  have h4 : S w0 w (engG b [] (.slice none 0 0) (.slice none 0 0) m 0 0 [] [] [] :: storeP 84 b 0 (List.replicate 10 []) 0 :: tabP 3 b 11 ⟨[], [], []⟩ :: L) := by
    refine S.engG_join ⟨rfl, rfl, List.nodup_nil⟩ ?_
    have h5 := (S.sl_nil (e := 121) (size := 4) (S.sl_nil (e := 77) (size := 1) h3))
    refine h5.conv ?_
    simp only [all, List.length_nil, fcells_nil, ptrs, List.range_zero, List.map_nil, ienc, emp_sep]
    ac_rfl
  refine .ex_intro ⟨[], .slice none 0 0, .slice none 0 0, m⟩ ?_
  refine S.mono (P := sep (storeP 84 b 0 (List.replicate 10 []) 0) (sep (tabP 3 b 11 ⟨[], [], []⟩) (sep (pur (0 = 0)) (engG b [] (.slice none 0 0) (.slice none 0 0) m 0 0 [] [] [])))) ?_ (fun _ p => p)
  exact (S.pur_intro (p := 0 = 0) rfl h4).conv (by simp only [all]; ac_rfl)
set_option maxRecDepth 40000 in
theorem new_any (w0 w : World) (L : List HProp) (hs : S w0 w L) :
    Calls Tryz.prog 41 #[] w fun r w' => r = .returned (.pointer (some ⟨w.heap.size + 1, 0, none⟩)) ∧ S w0 w' (engP (w.heap.size + 1) [] Eng.zero :: L) := by
  have hmm := @run_makeMap Tryz.prog
  have h1 := (hs.made (κ := Int) (enc := encI) (ok := fun _ => True)).alloc (engVals w.heap.size).toArray 75
  rw [World.size_alloc] at h1
  have H1 := hid (eng_new h1)
  clear h1 hs
  go_enter Tryz.func41, Tryz.ntmps41
  go_wp2
  go_ret
  exact ⟨rfl, H1.out⟩
end Go.Proofs.YtaghjcdlghcjeaaGreatDoor
