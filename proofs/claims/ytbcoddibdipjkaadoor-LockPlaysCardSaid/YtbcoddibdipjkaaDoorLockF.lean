/- The program's table of locks: who lets go. -/
import Derived.Test.YtbcoddibdipjkaaDoorLockE
import Derived.Test.YtbcoddibdipjkaaDoorAc
import Derived.Test.YtbcoddibdipjkaaDoorArgs
import Derived.Deep.RegionHeld3
import Derived.Deep.DeepCutAuto
import Derived.Deep.LoopGhost
namespace Go.Proofs.YtbcoddibdipjkaaDoor
open Go Go.RowKit Go.Sep

theorem strikeT_none {t : Tbl} {tx : Int} (h : mget t.wait tx = none) : strikeT t tx = t := by unfold strikeT; rw [h]
theorem strikeT_some {t : Tbl} {tx k : Int} (h : mget t.wait tx = some k) : strikeT t tx = { t with wait := mdel t.wait tx, line := mput t.line k (strike (lineAt t k) tx) } := by unfold strikeT; rw [h]

def hk (tx : Int) (dn : List (Int × Int)) : List Int := (dn.filter fun p => decide (p.2 = tx)).map (·.1)
theorem hk_snoc (tx : Int) (dn : List (Int × Int)) (p : Int × Int) : hk tx (dn ++ [p]) = if p.2 = tx then hk tx dn ++ [p.1] else hk tx dn := by
  unfold hk; rw [List.filter_append, List.map_append]; by_cases h : p.2 = tx <;> simp [h]
theorem ienc_perm {a b : List (Int × Int)} (h : (ienc a).Perm (ienc b)) : a.Perm b := by
  have := h.map fun p : Int × Value => (p.1, match p.2 with | .int _ n => n | _ => 0)
  simpa [ienc, List.map_map, Function.comp_def, Sep.encI] using this
theorem ienc_snoc (a : List (Int × Int)) (p : Int × Int) : ienc a ++ [(p.1, Sep.encI p.2)] = ienc (a ++ [p]) := by simp [ienc]
theorem ienc_mem {D : List (Int × Int)} {d : Int × Value} (h : d ∈ ienc D) : ∃ p ∈ D, d = (p.1, Sep.encI p.2) := by
  obtain ⟨p, hp, rfl⟩ := List.mem_map.1 h; exact ⟨p, hp, rfl⟩

theorem nodup_le {α : Type} : ∀ {l m : List α}, l.Nodup → (∀ x ∈ l, x ∈ m) → l.length ≤ m.length
  | [], _, _, _ => Nat.zero_le _
  | a :: l, m, hn, hs => by
    obtain ⟨m1, m2, rfl⟩ := List.append_of_mem (hs a (by simp))
    rw [List.nodup_cons] at hn
    have := nodup_le (l := l) (m := m1 ++ m2) hn.2 (fun x hx => by
      have h1 := hs x (by simp [hx])
      have hne : x ≠ a := fun e => hn.1 (by rw [← e]; exact hx)
      simp only [List.mem_append, List.mem_cons] at h1 ⊢
      rcases h1 with h | h | h
      · exact .inl h
      · exact absurd h hne
      · exact .inr h)
    simp only [List.length_append, List.length_cons] at this ⊢; omega

set_option maxRecDepth 40000 in
set_option maxHeartbeats 8000000 in
theorem tdrop_made (w0 w : World) (b o bh bl bb : Nat) (E : List (Int × (Value × List Int))) (t : Tbl) (tx : Int) (L : List HProp) (hs : S w0 w (tabM 3 b o bh bl bb E t :: L))
    (hb : ∀ k, (lineAt t k).length ≤ 1000000) (hh : t.hold.length ≤ 1000000) :
    Calls Tryd.prog 20 #[.pointer (some ⟨b, o, none⟩), .int .i64 tx] w fun e w' => ∃ v', e = .returned v' ∧
      S w0 w' (sl 31 2 v' (tbDrop t tx).2.length (pcells (tbDrop t tx).2) :: tabP 3 b o (tbDrop t tx).1 :: L) := by
  have hs1 := hs.alloc #[.int .i64 tx] 3
  obtain ⟨c0, c1, c2, m0, m2, m1⟩ := hs1.tail.tab_see
  have ct := hs1.blk_cell 0 rfl
  obtain ⟨_, _, _, _, m2d, _⟩ := hs1.drew.tail.tab_see
  have l2 := Tryd.look2 m2d tx
  clear m2d
  have hw : mget t.wait tx = if (mget t.wait tx).isSome then some ((mget t.wait tx).getD 0) else none := by cases mget t.wait tx <;> rfl
  generalize (mget t.wait tx).isSome = okb at l2 hw
  generalize (mget t.wait tx).getD 0 = k0 at l2 hw
  have H1 := hid hs1; have HB := hid hb; have HH := hid hh; have HW := hid hw
  clear hs hs1 hb hh hw m0 m1 m2
  go_enter Tryd.func20, Tryd.ntmps20
  go_wp2_with fail
  go_region
  go_upto_if 23 with fail
  go_cut [] (fun wx => ∃ E', S w0 wx (blk w.heap.size 3 [.int .i64 tx] :: tabM 3 b o bh bl bb E' (strikeT t tx) :: L))
  case first =>
    cases okb with
    | false =>
      have hw := HW.out
      rw [if_neg (by simp)] at hw
      go_wp2_with fail
      go_meet
      exact ⟨E, by rw [strikeT_none hw]; exact H1.out.drew⟩
    | true =>
      have hw := HW.out
      rw [if_pos rfl] at hw
      obtain ⟨w2, u2, hs2⟩ := H1.out.drew.drew.swap.tab_wait_del Tryd.keyInt (ty := 0) Tryd.underlying48 tx
      simp only [Sep.encI] at u2
      obtain ⟨hp, _⟩ := hs2.tab_parts
      have hx3 := line_of hp k0
      have hk := hs2.drew.tab_line k0
      have hbl := HB.out k0
      have hsee := hk.swap.tabX_see
      have lL := Tryd.lookL hsee.2.2.2.2.2 k0
      have d1 := hsee.2.1
      have ct2 := hk.rot3.blk_cell 0 rfl
      obtain ⟨al, cl, hvl, _, _, _⟩ := hk.sl_val
      have hk2 := hk.rot3.swap
      have hxl : (lineOf E k0).2 = lineAt t k0 := hx3
      rw [hvl] at lL hk2
      rw [hxl] at lL hk2
      have hst := strikeT_some hw
      have H2 := hid hk2; have HS := hid hst
      clear hs2 hk hk2 hsee hx3 hvl hxl hp hst hw HW
      go_wp2_with fail
      go_region
      go_wp2_with fail
      go_region_with (go_at_call 52; refine (delete1_any w0 _ al cl (lineAt t k0) tx w.heap.size _ H2.out hbl).mono ?_; rintro e w3 ⟨v3, rfl, hs3⟩; obtain ⟨_, e1, _⟩ := hs3.rot3.tabX_see; obtain ⟨w4, u4, hs4⟩ := S.tabX_put Tryd.keyInt Tryd.underlying49 (k := k0) (v := v3) (l := strike (lineAt t k0) tx) (hs3.rot3.swap); simp only [Sep.encI] at u4; have H4 := hid hs4; clear hs3 hs4)
      all_goals
        go_wp2_with fail
        go_meet
        exact ⟨_, by rw [HS.out]; exact H4.out.swap⟩
  case rest =>
    obtain ⟨E1, hsx⟩ := hcut
    have hth : (strikeT t tx).hold = t.hold := strikeT_hold t tx
    have hhd : holders (strikeT t tx) tx = holders t tx := by unfold holders; rw [hth]
    have hlb : ∀ k, (lineAt (strikeT t tx) k).length ≤ 1000000 := by
      intro k
      unfold strikeT
      cases mget t.wait tx with
      | none => exact HB.out k
      | some k1 =>
        unfold lineAt
        show ((mget (mput t.line k1 _) k).getD []).length ≤ _
        rw [mget_put]
        split
        · exact Nat.le_trans (strike_le _ _) (HB.out k1)
        · exact HB.out k
    have hd : tbDrop t tx = (sortI (holders t tx)).foldl dropStep (strikeT t tx, []) := by unfold tbDrop; rw [hhd]
    clear c0 c1 c2 ct l2 H1 HW HB
    have HLB := hid hlb
    clear hlb
    have hh2 : (strikeT t tx).hold.length ≤ 1000000 := by rw [hth]; exact HH.out
    clear hth HH hhd
    have hhd2 : holders (strikeT t tx) tx = holders t tx := by unfold holders; rw [strikeT_hold]
    generalize holders t tx = ks at hd hhd2
    have HHD := hid hhd2; have HH2 := hid hh2; have HD := hid hd
    clear hh2 hhd2 hd
    generalize strikeT t tx = t1 at hsx HHD HLB HH2 HD
    obtain ⟨hp, hq⟩ := hsx.swap.tab_parts
    obtain ⟨c0, _, _, _, _, _⟩ := hsx.swap.tab_see
    have ct := hsx.blk_cell 0 rfl
    obtain ⟨w3, ur, hs3⟩ := hq.swap.range (P := Tryd.prog) Tryd.underlying48
    have H3 := hid hs3; have HP := hid hp
    clear hsx hp hq hs3
    go_wp2_with fail
    go_loopg [7] (t1.hold.length) (fun n kv wr => ∃ dn : List (Int × Int), t1.hold.length ≤ dn.length + n ∧ S w0 wr (sl 3 1 kv (hk tx dn).length (icells (hk tx dn)) :: ranging Sep.encI (fun _ => True) bh wc.heap.size (ienc t1.hold) (ienc dn) :: cells b o [.map (some bh), .map (some bl), .map (some bb)] :: mp Sep.encI (fun _ => True) bb (ienc t1.wait) :: mp Sep.encI (fun _ => True) bl (E1.map fun p => (p.1, p.2.1)) :: all (E1.map (lrow 3)) :: blk w.heap.size 3 [.int .i64 tx] :: L))
    case atStart => exact ⟨[], by simp, H3.out.sl_nil⟩
    case round =>
      obtain ⟨dn, hn, hsr⟩ := hrel
      rcases hsr.swap.next Tryd.keyInt (ty := 0) with ⟨d, w4, hd1, hd2, hr, hs4⟩ | ⟨hall, hr⟩
      · obtain ⟨p, hp, rfl⟩ := ienc_mem hd1
        have hent := hs4.entry (P := Tryd.prog)
        rw [ienc_snoc] at hs4
        simp only [Sep.encI] at hr hent
        have hlen : (dn ++ [p]).length ≤ t1.hold.length := by
          have h1 := hs4.ranging_sub
          have h2 := nodup_le h1.1 h1.2.1
          simpa [ienc] using h2
        have ct4 := (hs4.of_mem (A := blk w.heap.size 3 [.int .i64 tx]) (by simp)).blk_cell 0 rfl
        rw [List.length_append, List.length_singleton] at hlen
        have hh2 := HH2.out
        have hkl : (hk tx dn).length ≤ dn.length := by unfold hk; rw [List.length_map]; exact List.length_filter_le _ _
        by_cases hpx : p.2 = tx
        · have hbe : (p.2 == tx) = true := by simp [hpx]
          obtain ⟨al, cl, rfl, _, _, _⟩ := hs4.swap.sl_val
          have hs5 := (hs4.swap.alloc #[.int .i64 p.1] 3)
          have hn5 := news_blk hs5
          have hkk : hk tx (dn ++ [p]) = hk tx dn ++ [p.1] := by rw [hk_snoc, if_pos hpx]
          have H5 := hid hs5.tail; have HN := hid hn5; have HK := hid hkk
          obtain ⟨i0, hi0, hz0, hz1, hz2⟩ := info_parts Tryd.info3
          have hil := icells_length (hk tx dn)
          have HL := hid hil
          clear hsr hs4 hs5 hn5 hkk hp hd1 hd2 hil hpx
          go_wp2_with (at_builtin; refine wpList_append rfl (.tmp 55) (.tmp 57) 41 rfl 3 i0 _ 1 8 Tryd.underlying41 hi0 hz0 hz1 hz2 rfl (by decide) H5.out rfl (some ⟨w4.heap.size, 0, none⟩) 1 1 [.int .i64 p.1] rfl rfl HN.out (by simp [Value.oneCell']) (by unfold maxLen; omega) (by omega) ?_; intro v1 w5 hs6; have H6 := hid hs6; clear hs6)
          go_roundg (gk - 1)
          case measure => omega
          case rel => exact ⟨dn ++ [p], by rw [List.length_append, List.length_singleton]; omega, by rw [HK.out, List.length_append, icells_append]; exact H6.out⟩
        · have hbe : (p.2 == tx) = false := by simp [hpx]
          have hkk : hk tx (dn ++ [p]) = hk tx dn := by rw [hk_snoc, if_neg hpx]
          have H5 := hid hs4.swap; have HK := hid hkk
          clear hsr hs4 hkk hp hd1 hd2 hpx
          go_wp2_with fail
          go_roundg (gk - 1)
          case measure => omega
          case rel => exact ⟨dn ++ [p], by rw [List.length_append, List.length_singleton]; omega, by rw [HK.out]; exact H5.out⟩
      · obtain ⟨hpd, hs4⟩ := hsr.swap.range_over hall
        have hpk : (hk tx dn).Perm ks := by rw [← HHD.out]; exact ((ienc_perm hpd).filter _).map _
        have hkl : (hk tx dn).length ≤ t1.hold.length := by
          have h1 := (ienc_perm hpd).length_eq
          have h2 : (hk tx dn).length ≤ dn.length := by unfold hk; rw [List.length_map]; exact List.length_filter_le _ _
          omega
        have hh2 := HH2.out
        generalize hk tx dn = kl at hpk hkl hs4
        have hse : sortI kl = sortI ks := sortI_of ((sortI_perm kl).trans hpk) (sortI_sorted kl)
        have hs5 := hs4.conv (M := cells b o [.map (some bh), .map (some bl), .map (some bb)] :: mp Sep.encI (fun _ => True) bh (ienc t1.hold) :: mp Sep.encI (fun _ => True) bb (ienc t1.wait) :: mp Sep.encI (fun _ => True) bl (E1.map fun p => (p.1, p.2.1)) :: all (E1.map (lrow 3)) :: sl 3 1 u7 kl.length (icells kl) :: blk w.heap.size 3 [.int .i64 tx] :: L) (by simp only [all]; ac_rfl)
        have hT := (S.tab_join (t := t1) HP.out hs5).swap
        have hkb : kl.length ≤ 4000000 := by omega
        have hkq : kl.length = (sortI ks).length := by rw [← hse, sortI_len]
        obtain ⟨ak, ck, rfl, hcap, hcap2, _⟩ := hT.sl_val
        unfold maxLen at hcap2
        have HT := hid hT; have HSE := hid hse; have HKQ := hid hkq
        clear hsr hs4 hs5 hT hse hpk hpd hall hkq
        go_wp2_with fail
        with_reducible refine (sort_ints w0 wr _ kl _ HT.out hkb).mono ?_
        rintro e w5 ⟨rfl, hs6⟩
        rw [HSE.out] at hs6
        have hkq := HKQ.out
        rw [hkq] at hs6 hkl hcap ⊢
        generalize sortI ks = ss at hs6 hkl HD hcap
        clear hkq HKQ HSE HT hkb
        have H6 := hid hs6
        clear hs6
        go_wp2_with fail
        have hss : ss.length ≤ 1000000 := by omega
        clear hkl hh2 hr
        have hs7 : S w0 w5 (sl 31 2 (.slice none 0 0) ([] : List (Int × Int)).length (pcells []) :: tabM 3 b o bh bl bb E1 t1 :: sl 3 1 (.slice ak ss.length ck) ss.length (icells ss) :: L) :=
          (H6.out.conv (M := blk w.heap.size 3 [.int .i64 tx] :: tabM 3 b o bh bl bb E1 t1 :: sl 3 1 (.slice ak ss.length ck) ss.length (icells ss) :: L) (by simp only [all]; ac_rfl)).tail.sl_nil
        have H7 := hid hs7
        clear hs7 H6
        go_loopw [10, 63] (fun ov iv wr => ∃ (i : Nat) (E2 : List (Int × (Value × List Int))), i ≤ ss.length ∧ iv = .int .i64 i ∧ ((ss.take i).foldl dropStep (t1, [])).2.length ≤ i ∧ S w0 wr (sl 31 2 ov ((ss.take i).foldl dropStep (t1, [])).2.length (pcells ((ss.take i).foldl dropStep (t1, [])).2) :: tabM 3 b o bh bl bb E2 ((ss.take i).foldl dropStep (t1, [])).1 :: sl 3 1 (.slice ak ss.length ck) ss.length (icells ss) :: L)) (fun _ iv _ => ss.length - (intOf iv).toNat)
        case atStart => exact ⟨0, E1, Nat.zero_le _, rfl, Nat.le_refl _, H7.out⟩
        case round =>
          obtain ⟨i, E2, hi, rfl, hol, hsr⟩ := hrel
          by_cases hlt : i < ss.length
          · have hp : ss[i]? = some ss[i] := by simp [hlt]
            generalize ss[i] = k at hp
            have hst : (ss.take (i + 1)).foldl dropStep (t1, []) = dropStep ((ss.take i).foldl dropStep (t1, [])) k := by rw [take_succ_get hp, List.foldl_append]; rfl
            have HST := hid hst
            clear hst
            generalize (ss.take i).foldl dropStep (t1, []) = st at hol hsr HST
            obtain ⟨T2, out⟩ := st
            simp only at hol hsr
            obtain ⟨gk, ok, rfl, _, ck0⟩ := hsr.rot3.sl_int hp
            obtain ⟨hp2, _⟩ := hsr.swap.tab_parts
            have hln := line_of hp2 k
            have hsee := hsr.swap.tab_see
            have lL := Tryd.lookL hsee.2.2.2.2.2 k
            have c1 := hsee.2.1
            have hkl := hsr.swap.tab_line k
            obtain ⟨al, cl, hvl, hcl, hcl2, _⟩ := hkl.sl_val
            unfold maxLen at hcl2
            have hlk : (lineOf E2 k).2 = lineAt T2 k := hln
            rw [hvl] at lL hkl
            rw [hlk] at lL hkl hcl
            clear hp hsee hln hvl hlk hp2
            cases hq : lineAt T2 k with
            | nil =>
              rw [hq] at lL hcl
              simp only [List.length_nil] at lL
              obtain ⟨w6, u6, hs6⟩ := hsr.swap.tab_hold_del Tryd.keyInt (ty := 0) Tryd.underlying48 k
              simp only [Sep.encI] at u6
              have c0 := hsr.swap.tab_see.1
              have hds : dropStep (T2, out) k = ({ T2 with hold := mdel T2.hold k }, out) := by unfold dropStep; rw [hq]
              have H8 := hid hs6.swap; have HDS := hid hds
              clear hsr hkl hs6 hq hds
              go_wp2_with fail
              go_roundw
              case rel => exact ⟨i + 1, E2, by omega, by go_num, by rw [HST.out, HDS.out]; exact Nat.le_succ_of_le hol, by rw [HST.out, HDS.out]; exact H8.out⟩
              case measure => simp [intOf]; omega
            | cons x l =>
              rw [hq] at lL hcl hkl
              simp only [List.length_cons] at lL hcl hkl
              have hds : dropStep (T2, out) k = ({ hold := mput T2.hold k x, line := mput T2.line k l, wait := mdel T2.wait x }, out ++ [(k, x)]) := by unfold dropStep; rw [hq]
              obtain ⟨gx, ox, rfl, _, dx⟩ := hkl.sl_int (l := x :: l) (i := 0) (x := x) rfl
              rw [Nat.add_zero] at dx
              obtain ⟨av, hav⟩ : ∃ av : Option Addr, av = (if cl = 1 then some ⟨gx, ox, none⟩ else some ⟨gx, ox + 1, none⟩) := ⟨_, rfl⟩
              obtain ⟨u0, u1, s0, s1, x1, x2, x3, x4, r1, r2, r3, r4, keep, hx4⟩ := hkl.drew.swap.tab_assign2 Tryd.keyInt Tryd.underlying48 Tryd.underlying49 Tryd.zero_int Tryd.zero_ints x (.slice av l.length (cl - 1))
              simp only [Sep.encI] at r1 r2 r3
              have hs0 := hkl.drew.swap.tabX_see
              obtain ⟨a1, a2, a3, a4⟩ := keep _ _ hs0.1
              obtain ⟨b1, b2, b3, b4⟩ := keep _ _ hs0.2.1
              obtain ⟨d1, d2, d3, d4⟩ := keep _ _ (show (wr.drew).cell? ⟨gx, ox, none⟩ = _ from dx)
              have c0 := hsr.swap.tab_see.1
              have H8 := hid hx4; have HDS := hid hds
              clear hsr hkl keep hs0 hx4 hq hds
              obtain ⟨x5, r5, hx5⟩ := H8.out.drew.tabY_wait_del Tryd.keyInt (ty := 0) Tryd.underlying48 x
              simp only [Sep.encI] at r5
              have c2 := H8.out.drew.tabY_see.2.2
              have d5 := (hx5.swap.sl_int (l := x :: l) (i := 0) (x := x) rfl)
              obtain ⟨_, _, hge, _, d5⟩ := d5
              simp only [Option.some.injEq, Addr.mk.injEq] at hge
              obtain ⟨rfl, rfl, -⟩ := hge
              rw [Nat.add_zero] at d5
              have hx9 := S.sl_tail1 hx5.swap
              rw [← hav] at hx9
              have hx6 := S.tabY_back (l := l) hx9
              obtain ⟨ao, co, rfl, _, _, _⟩ := hx6.swap.sl_val
              have hx7 := hx6.swap.alloc #[.int .i64 k, .int .i64 x] 31
              have hn7 := news_blk hx7
              have hx8 := hx7.tail
              have H9 := hid hx8; have HN := hid hn7
              obtain ⟨i0, hi0, hz0, hz1, hz2⟩ := info_parts Tryd.info31
              clear hx5 hx6 hx7 hx8 hx9 hn7 H8
              by_cases hc1 : cl = 1
              case' pos =>
                subst hc1
                obtain rfl : l = [] := List.eq_nil_of_length_eq_zero (by omega)
                rw [if_pos rfl] at hav
                subst hav
                simp only [List.length_nil, Nat.zero_add, Nat.sub_self] at lL r4
              case' neg => rw [if_neg hc1] at hav; subst hav
              all_goals
                go_wp2_with fail
                go_region
                go_wp2_with fail
                go_region
                go_wp2_with (at_builtin; refine wpList_append rfl (.tmp 107) (.tmp 113) 29 rfl 31 i0 (.agg #[.int .i64 0, .int .i64 0]) 2 16 Tryd.underlying29 hi0 hz0 hz1 hz2 rfl (by decide) H9.out rfl (some ⟨x5.heap.size, 0, none⟩) 1 1 [.int .i64 k, .int .i64 x] rfl rfl HN.out (by simp [Value.oneCell']) (by unfold maxLen; omega) (by omega) ?_; intro v1 w5 hs6; have H6 := hid hs6; clear hs6)
                go_roundw
                case rel =>
                  refine ⟨i + 1, ?_, by omega, by go_num, ?_, ?_⟩
                  rotate_left
                  · rw [HST.out, HDS.out, List.length_append]; exact Nat.succ_le_succ hol
                  · rw [HST.out, HDS.out, List.length_append, pcells_append]; exact H6.out
                case measure => simp [intOf]; omega
          · obtain rfl : i = ss.length := by omega
            rw [List.take_length, ← HD.out] at hsr
            have H9 := hid hsr
            clear hsr hol H7
            go_wp2_with fail
            go_ret
            exact ⟨_, rfl, (H9.out.rot3.tail.conv (M := sl 31 2 u10 (tbDrop t tx).2.length (pcells (tbDrop t tx).2) :: tabM 3 b o bh bl bb E2 (tbDrop t tx).1 :: L) (by simp only [all])).swap.tab_made.swap⟩
end Go.Proofs.YtbcoddibdipjkaaDoor
