/- The reference's store: Newer, All; the program's All. -/
import Derived.Test.YtbcoddibdipjkaaDoorRefE
import Derived.Test.YtbcoddibdipjkaaDoorStoreR
import Derived.Test.YtbcoddibdipjkaaDoorArgs
namespace Go.Sep
open Go Go.RowKit Go.Proofs.YtbcoddibdipjkaaDoor
def ransV (r : Option (Int × Int)) : Value := match r with | some p => .tuple #[.agg #[.int .i64 p.1, .int .i64 p.2], .int .i64 0] | none => .tuple #[.agg #[.int .i64 0, .int .i64 0], .int .i64 8]
theorem rreadAns_in {k : Int} (h : 0 ≤ k ∧ k ≤ 9) (r : Option (Int × Int)) : rreadAns k r = ransV r := by unfold rreadAns ransV; rw [if_pos h]; cases r <;> rfl
theorem rreadAns_out {k : Int} (h : ¬ (0 ≤ k ∧ k ≤ 9)) (r : Option (Int × Int)) : rreadAns k r = .tuple #[.agg #[.int .i64 0, .int .i64 0], .int .i64 2] := by unfold rreadAns; rw [if_neg h]
def allK (f : Int → Option (Int × Int)) (k : Nat) : List (Int × Int) := match f k with | some p => [((k : Int), p.2)] | none => []
/-- What each key has: of the keys below 'n' those that have something. -/
def allL (f : Int → Option (Int × Int)) (n : Nat) : List (Int × Int) := (List.range n).flatMap (allK f)
theorem allL_succ (f : Int → Option (Int × Int)) (n : Nat) : allL f (n + 1) = allL f n ++ allK f n := by simp [allL, List.range_succ, List.flatMap_append]
theorem allK_some {f : Int → Option (Int × Int)} {k : Nat} {p : Int × Int} (h : f k = some p) : allK f k = [((k : Int), p.2)] := by unfold allK; rw [h]
theorem allK_none {f : Int → Option (Int × Int)} {k : Nat} (h : f k = none) : allK f k = [] := by unfold allK; rw [h]
theorem allL_le (f : Int → Option (Int × Int)) : ∀ n, (allL f n).length ≤ n
  | 0 => by simp [allL]
  | n + 1 => by
    rw [allL_succ, List.length_append]
    have := allL_le f n
    have : (allK f n).length ≤ 1 := by unfold allK; split <;> simp
    omega
theorem allL_congr {f g : Int → Option (Int × Int)} {n : Nat} (h : ∀ k < n, f (k : Nat) = g (k : Nat)) : allL f n = allL g n := by
  induction n with
  | zero => rfl
  | succ n ih =>
    rw [allL_succ, allL_succ, ih (fun k hk => h k (by omega))]
    unfold allK
    rw [h n (by omega)]
theorem rnewer_le (K : List Kep) (k at_ : Int) : (rnewer K k at_).length ≤ K.length := by
  unfold rnewer; rw [List.length_map]; exact List.length_filter_le _ _
end Go.Sep
namespace Go.Proofs.YtbcoddibdipjkaaDoor
open Go Go.RowKit Go.Sep

def RNewPost (w0 : World) (b : Nat) (K : List Kep) (last k at_ : Int) (L : List HProp) (e : Ending) (w' : World) : Prop :=
  if 0 ≤ k ∧ k ≤ 9 then ∃ v, e = .returned (.tuple #[v, .int .i64 0]) ∧ S w0 w' (sl 3 1 v (rnewer K k at_).length (icells (sortI (rnewer K k at_))) :: refP 74 129 b K last :: L)
  else e = .returned (.tuple #[.slice none 0 0, .int .i64 2]) ∧ S w0 w' (refP 74 129 b K last :: L)

set_option maxRecDepth 40000 in
set_option maxHeartbeats 4000000 in
theorem rnewer_any (w0 w : World) (b : Nat) (K : List Kep) (last k at_ : Int) (L : List HProp) (hs : S w0 w (refP 74 129 b K last :: L)) (hb : K.length ≤ 1000000) :
    Calls Tryd.prog 33 #[.pointer (some ⟨b, 0, none⟩), .int .i64 k, .int .i64 at_] w (RNewPost w0 b K last k at_ L) := by
  by_cases hk : 0 ≤ k ∧ k ≤ 9
  · have hkb : decide ((0 : Int) ≤ k ∧ k ≤ 9) = true := decide_eq_true hk
    obtain ⟨v, h1⟩ := hs.ref_elim
    obtain ⟨a, c, rfl, hc1, hc2, _⟩ := h1.swap.sl_val
    unfold maxLen at hc2
    have c0 := h1.blk_cell 0 rfl
    have hpost : ∀ e w', (∃ v, e = Ending.returned (.tuple #[v, .int .i64 0]) ∧ S w0 w' (sl 3 1 v (rnewer K k at_).length (icells (sortI (rnewer K k at_))) :: refP 74 129 b K last :: L)) → RNewPost w0 b K last k at_ L e w' := fun e w' h => by
      unfold RNewPost; rw [if_pos hk]; exact h
    have HPO := hid hpost; have H2 := hid (h1.sl_nil (e := 3) (size := 1))
    clear hs h1 hk hpost
    go_enter Tryd.func33, Tryd.ntmps33
    go_wp2_with (go_at_call 65; with_reducible refine (in_any _ _ _ _).mono ?_; rw [hkb]; rintro e w' ⟨rfl, rfl⟩)
    go_loopw [8, 19] (fun u cn wr => ∃ i : Nat, i ≤ K.length ∧ cn = .int .i64 i ∧ S w0 wr (sl 3 1 u (rnewer (K.take i) k at_).length (icells (rnewer (K.take i) k at_)) :: blk b 74 [.slice a K.length c, .int .i64 last] :: sl 129 3 (.slice a K.length c) K.length (fcells kcells K) :: L)) (fun _ cn _ => K.length - (intOf cn).toNat)
    case atStart => exact ⟨0, Nat.zero_le _, rfl, H2.out⟩
    case round =>
      rename World => wr
      obtain ⟨i, hi, rfl, hsr⟩ := hrel
      clear H2
      by_cases hlt : i < K.length
      · have hp : K[i]? = some K[i] := by simp [hlt]
        generalize K[i] = x at hp
        obtain ⟨g, og, rfl, _, d0, d1, d2⟩ := hsr.rot3.ref_at hp
        have hsn := rnewer_snoc (K.take i) x k at_
        rw [← take_succ_get hp] at hsn
        have hle := rnewer_le (K.take i) k at_
        rw [List.length_take] at hle
        have hsx := (hsr.alloc #[.int .i64 x.1, .int .i64 x.2.1, .int .i64 x.2.2] 129).tail
        have HSN := hid hsn
        obtain ⟨x1, x2, x3⟩ := x
        simp only at d0 d1 d2 hsx
        by_cases hx : x1 = k
        · subst hx
          by_cases ha : at_ < x2
          · obtain ⟨ao, co, rfl, hco, hco2, _⟩ := hsx.sl_val
            unfold maxLen at hco2
            have hn := HSN.out
            simp only [true_and] at hn
            rw [if_pos ha] at hn
            obtain ⟨i0, hi0, hz0, hz1, hz2⟩ := info_parts Tryd.info3
            have hs1 := hsx.alloc #[.int .i64 x2] 3
            have hn1 := news_blk hs1
            rw [World.size_alloc] at hn1
            have hs2 := hs1.tail
            have HX := hid hn; have HN1 := hid hn1; have H9 := hid hs2
            clear hs1 hs2 hn1 hsx hsr hn hsn hp HSN
            go_wp2_with (at_builtin; refine wpList_append rfl (.tmp 34) (.tmp 38) 41 rfl 3 i0 _ 1 8 Tryd.underlying41 hi0 hz0 hz1 hz2 rfl (by decide) H9.out rfl (some ⟨wr.heap.size + 1, 0, none⟩) 1 1 [.int .i64 x2] rfl rfl HN1.out (by simp [Value.oneCell']) (by unfold maxLen; omega) (by omega) ?_; intro v1 w5 hs1; have HS := hid hs1; clear hs1)
            go_roundw
            case rel => exact ⟨i + 1, by omega, by go_num, by rw [HX.out, List.length_append, List.length_singleton, icells_append]; exact HS.out⟩
            case measure => simp [intOf]; omega
          · have hn : rnewer (K.take (i + 1)) x1 at_ = rnewer (K.take i) x1 at_ := by rw [HSN.out, if_neg (fun h => ha h.2), List.append_nil]
            have HX := hid hn; have HF := hid hsx
            clear hsx hsr hn hsn hp HSN
            go_wp2_with fail
            go_roundw
            case rel => exact ⟨i + 1, by omega, by go_num, by rw [HX.out]; exact HF.out⟩
            case measure => simp [intOf]; omega
        · have hxb : (x1 == k) = false := by simpa using hx
          have hn : rnewer (K.take (i + 1)) k at_ = rnewer (K.take i) k at_ := by rw [HSN.out, if_neg (fun h => hx h.1), List.append_nil]
          have HX := hid hn; have HF := hid hsx
          clear hsx hsr hn hsn hp HSN hx
          go_wp2_with fail
          go_roundw
          case rel => exact ⟨i + 1, by omega, by go_num, by rw [HX.out]; exact HF.out⟩
          case measure => simp [intOf]; omega
      · obtain rfl : i = K.length := by omega
        rw [List.take_length] at hsr
        have hle := rnewer_le K k at_
        have H4 := hid hsr
        clear hsr
        go_wp2_with (go_at_call 66; with_reducible refine (sort_ints2 w0 _ _ (rnewer K k at_) _ H4.out (by omega)).mono ?_; rintro e w2 ⟨rfl, hs2⟩; have H5 := hid hs2; clear hs2)
        go_ret2
        exact HPO.out _ _ ⟨_, rfl, (S.swap (S.ref_intro (H5.out.conv (M := blk b 74 [.slice a K.length c, .int .i64 last] :: sl 129 3 (.slice a K.length c) K.length (fcells kcells K) :: sl 3 1 _ (rnewer K k at_).length (icells (sortI (rnewer K k at_))) :: L) (by simp only [all]; ac_rfl))))⟩
  · have hkb : decide ((0 : Int) ≤ k ∧ k ≤ 9) = false := decide_eq_false hk
    have hpost : ∀ e w', (e = Ending.returned (.tuple #[.slice none 0 0, .int .i64 2]) ∧ S w0 w' (refP 74 129 b K last :: L)) → RNewPost w0 b K last k at_ L e w' := fun e w' h => by
      unfold RNewPost; rw [if_neg hk]; exact h
    have HPO := hid hpost; have H2 := hid hs
    clear hs hk hpost
    go_enter Tryd.func33, Tryd.ntmps33
    go_wp2_with (go_at_call 65; with_reducible refine (in_any _ _ _ _).mono ?_; rw [hkb]; rintro e w' ⟨rfl, rfl⟩)
    go_ret2
    exact HPO.out _ _ ⟨rfl, H2.out⟩

set_option maxRecDepth 40000 in
set_option maxHeartbeats 4000000 in
theorem rallK_any (w0 w : World) (b : Nat) (kv : Value) (K : List Kep) (last at_ : Int) (L : List HProp) (hs : S w0 w (refK 74 129 b kv K last :: L)) :
    Calls Tryd.prog 39 #[.pointer (some ⟨b, 0, none⟩), .int .i64 at_] w fun e w' => ∃ v, e = .returned v ∧ S w0 w' (sl 31 2 v (allL (fun k => rread K k at_) 10).length (pcells (allL (fun k => rread K k at_) 10)) :: refK 74 129 b kv K last :: L) := by
  have H2 := hid (hs.sl_nil (e := 31) (size := 2))
  clear hs
  go_enter Tryd.func39, Tryd.ntmps39
  go_wp2_with fail
  go_loopw [5, 9] (fun u cn wr => ∃ n : Nat, n ≤ 10 ∧ cn = .int .i64 n ∧ S w0 wr (sl 31 2 u (allL (fun k => rread K k at_) n).length (pcells (allL (fun k => rread K k at_) n)) :: refK 74 129 b kv K last :: L)) (fun _ cn _ => 10 - (intOf cn).toNat)
  case atStart => exact ⟨0, Nat.zero_le _, rfl, H2.out⟩
  case round =>
    rename World => wr
    obtain ⟨n, hn, rfl, hsr⟩ := hrel
    clear H2
    by_cases hlt : n < 10
    · obtain ⟨ao, co, rfl, hco, hco2, _⟩ := hsr.sl_val
      unfold maxLen at hco2
      have hle := allL_le (fun k => rread K k at_) n
      have hsc := allL_succ (fun k => rread K k at_) n
      have hcall := rreadK_any w0 wr b kv K last n at_ _ hsr.swap
      obtain ⟨r, hr⟩ : ∃ r, rread K n at_ = r := ⟨_, rfl⟩
      rw [hr] at hcall
      rw [rreadAns_in (by omega)] at hcall
      have HC := hid hcall; have HSC := hid hsc; have HR := hid hr
      clear hcall hsc hr hsr
      go_wp2_with fail
      with_reducible refine HC.out.mono ?_
      rintro e w2 ⟨rfl, hs2⟩
      unfold ransV
      cases r with
      | none =>
        have H3 := hid hs2.swap
        have hx := allK_none (f := fun k => rread K k at_) HR.out
        have HX := hid hx
        clear hs2 hx HC
        go_wp2_with fail
        go_roundw
        case rel => exact ⟨n + 1, by omega, by go_num, by rw [HSC.out, HX.out, List.append_nil]; exact (H3.out.alloc _ _).tail⟩
        case measure => simp [intOf]; omega
      | some p =>
        have hx := allK_some (f := fun k => rread K k at_) HR.out
        obtain ⟨i0, hi0, hz0, hz1, hz2⟩ := info_parts Tryd.info31
        have hs3 := (hs2.swap.alloc #[.int .i64 p.1, .int .i64 p.2] 38).tail.alloc #[.int .i64 (n : Int), .int .i64 p.2] 31
        have hn1 := news_blk hs3
        rw [World.size_alloc] at hn1
        have HX := hid hx; have HN1 := hid hn1; have H9 := hid hs3.tail
        clear hs2 hs3 hn1 hx HC
        go_wp2_with (at_builtin; refine wpList_append rfl (.tmp 21) (.tmp 26) 29 rfl 31 i0 _ 2 16 Tryd.underlying29 hi0 hz0 hz1 hz2 rfl (by decide) H9.out rfl (some ⟨w2.heap.size + 1, 0, none⟩) 1 1 [.int .i64 (n : Int), .int .i64 p.2] rfl rfl HN1.out (by simp [Value.oneCell']) (by unfold maxLen; omega) (by omega) ?_; intro v1 w5 hs1; have HS := hid hs1; clear hs1)
        go_roundw
        case rel => exact ⟨n + 1, by omega, by go_num, by rw [HSC.out, HX.out, pcells_append, List.length_append, List.length_singleton]; exact HS.out⟩
        case measure => simp [intOf]; omega
    · obtain rfl : n = 10 := by omega
      have H4 := hid hsr
      clear hsr
      go_wp2_with fail
      go_ret
      exact ⟨_, rfl, H4.out⟩

theorem rall_any (w0 w : World) (b : Nat) (K : List Kep) (last at_ : Int) (L : List HProp) (hs : S w0 w (refP 74 129 b K last :: L)) :
    Calls Tryd.prog 39 #[.pointer (some ⟨b, 0, none⟩), .int .i64 at_] w fun e w' => ∃ v, e = .returned v ∧ S w0 w' (sl 31 2 v (allL (fun k => rread K k at_) 10).length (pcells (allL (fun k => rread K k at_) 10)) :: refP 74 129 b K last :: L) := by
  obtain ⟨kv, hk⟩ := hs.ex_elim
  exact (rallK_any w0 w b kv K last at_ L hk).mono fun e w' ⟨v, h1, h2⟩ => ⟨v, h1, S.swap (.ex_intro kv h2.swap)⟩

set_option maxRecDepth 40000 in
set_option maxHeartbeats 4000000 in
theorem sall_any (w0 w : World) (b : Nat) (V : List Vers) (last at_ : Int) (L : List HProp) (hs : S w0 w (storeP 38 b 0 V last :: L)) (hb : ∀ vs ∈ V, vs.length ≤ 2000000) :
    Calls Tryd.prog 38 #[.pointer (some ⟨b, 0, none⟩), .int .i64 at_] w fun e w' => ∃ v, e = .returned v ∧ S w0 w' (sl 31 2 v (allL (fun k => readV ((V[k.toNat]?).getD []) at_) 10).length (pcells (allL (fun k => readV ((V[k.toNat]?).getD []) at_) 10)) :: storeP 38 b 0 V last :: L) := by
  have hlen := hs.store_len
  have H2 := hid (hs.sl_nil (e := 31) (size := 2)); have HL := hid hlen; have HB := hid hb
  clear hs hlen hb
  go_enter Tryd.func38, Tryd.ntmps38
  go_wp2_with fail
  go_loopw [5, 9] (fun u cn wr => ∃ n : Nat, n ≤ 10 ∧ cn = .int .i64 n ∧ S w0 wr (sl 31 2 u (allL (fun k => readV ((V[k.toNat]?).getD []) at_) n).length (pcells (allL (fun k => readV ((V[k.toNat]?).getD []) at_) n)) :: storeP 38 b 0 V last :: L)) (fun _ cn _ => 10 - (intOf cn).toNat)
  case atStart => exact ⟨0, Nat.zero_le _, rfl, H2.out⟩
  case round =>
    rename World => wr
    obtain ⟨n, hn, rfl, hsr⟩ := hrel
    clear H2
    by_cases hlt : n < 10
    · obtain ⟨ao, co, rfl, hco, hco2, _⟩ := hsr.sl_val
      unfold maxLen at hco2
      have hle := allL_le (fun k => readV ((V[k.toNat]?).getD []) at_) n
      have hsc := allL_succ (fun k => readV ((V[k.toNat]?).getD []) at_) n
      obtain ⟨vs, hvs⟩ : ∃ vs, V[n]? = some vs := ⟨V[n]'(by rw [HL.out]; exact hlt), by simp⟩
      have hcall := read_any b 0 V last at_ n vs w0 wr _ hlt hsr.swap hvs (HB.out vs (List.mem_of_getElem? hvs))
      obtain ⟨r, hr⟩ : ∃ r, readV vs at_ = r := ⟨_, rfl⟩
      have hr2 : (fun k : Int => readV ((V[k.toNat]?).getD []) at_) (n : Nat) = r := by simp only [Int.toNat_natCast]; rw [hvs]; exact hr
      rw [hr] at hcall
      have HC := hid hcall; have HSC := hid hsc; have HR := hid hr2
      clear hcall hsc hr hr2 hsr hvs
      go_wp2_with fail
      with_reducible refine HC.out.mono ?_
      rintro e w2 ⟨rfl, hs2⟩
      unfold readAns
      cases r with
      | none =>
        have H3 := hid hs2.swap
        have hx := allK_none (f := fun k : Int => readV ((V[k.toNat]?).getD []) at_) (k := n) HR.out
        have HX := hid hx
        clear hs2 hx HC
        go_wp2_with fail
        go_roundw
        case rel => exact ⟨n + 1, by omega, by go_num, by rw [HSC.out, HX.out, List.append_nil]; exact (H3.out.alloc _ _).tail⟩
        case measure => simp [intOf]; omega
      | some p =>
        have hx := allK_some (f := fun k : Int => readV ((V[k.toNat]?).getD []) at_) (k := n) HR.out
        obtain ⟨i0, hi0, hz0, hz1, hz2⟩ := info_parts Tryd.info31
        have hs3 := (hs2.swap.alloc #[.int .i64 p.1, .int .i64 p.2] 38).tail.alloc #[.int .i64 (n : Int), .int .i64 p.2] 31
        have hn1 := news_blk hs3
        rw [World.size_alloc] at hn1
        have HX := hid hx; have HN1 := hid hn1; have H9 := hid hs3.tail
        clear hs2 hs3 hn1 hx HC
        go_wp2_with (at_builtin; refine wpList_append rfl (.tmp 21) (.tmp 26) 29 rfl 31 i0 _ 2 16 Tryd.underlying29 hi0 hz0 hz1 hz2 rfl (by decide) H9.out rfl (some ⟨w2.heap.size + 1, 0, none⟩) 1 1 [.int .i64 (n : Int), .int .i64 p.2] rfl rfl HN1.out (by simp [Value.oneCell']) (by unfold maxLen; omega) (by omega) ?_; intro v1 w5 hs1; have HS := hid hs1; clear hs1)
        go_roundw
        case rel => exact ⟨n + 1, by omega, by go_num, by rw [HSC.out, HX.out, pcells_append, List.length_append, List.length_singleton]; exact HS.out⟩
        case measure => simp [intOf]; omega
    · obtain rfl : n = 10 := by omega
      have H4 := hid hsr
      clear hsr
      go_wp2_with fail
      go_ret
      exact ⟨_, rfl, H4.out⟩
end Go.Proofs.YtbcoddibdipjkaaDoor
