/- The reference's writers of a key. -/
import Derived.Test.YthdiphfbjlooaaaDoorOrdB
import Derived.Test.YthdiphfbjlooaaaDoorAc
import Derived.BigQuiet
namespace Go.Proofs.YthdiphfbjlooaaaDoor
open Go Go.RowKit Go.Sep

theorem writers_step {l : List Op1} {i : Nat} {o : Op1} (hp : l[i]? = some o) (k : Int) : writers (l.take (i + 1)) k = wstep k (writers (l.take i) k) o := by
  rw [take_succ_get hp, writers_snoc]

set_option maxRecDepth 40000 in
set_option maxHeartbeats 8000000 in
theorem rwriters_any (w0 w : World) (bx : Nat) (v : Value) (l : List Op1) (key : Int) (L : List HProp) (hs : S w0 w (blk bx 59 [v] :: L)) (hr : RdK w0 L v l.length (fcells ocells l)) (hb : l.length ≤ 1000) :
    Calls Tryd.prog 67 #[.int .i64 key, .pointer (some ⟨bx, 0, none⟩)] w fun e w' => ∃ u, e = .returned u ∧ S w0 w' (sl 3 1 u (writers l key).length (icells (writers l key)) :: blk bx 59 [v] :: L) := by
  obtain ⟨a, cap, rfl, hcap, hcap2, _⟩ := hr w hs.tail
  unfold maxLen at hcap2
  have b0 := hs.blk_cell 0 rfl
  have H0 := hid (hs.sl_nil (e := 3) (size := 1)); have HR := hid hr
  clear hs hr
  go_enter Tryd.func67, Tryd.ntmps67
  go_wp2_with fail
  clear b0
  go_loopw [4, 9] (fun u c wr => ∃ i : Nat, i ≤ l.length ∧ c = .int .i64 i ∧ S w0 wr (sl 3 1 u (writers (l.take i) key).length (icells (writers (l.take i) key)) :: blk bx 59 [.slice a l.length cap] :: L)) (fun _ c _ => l.length - (intOf c).toNat)
  case atStart => exact ⟨0, Nat.zero_le _, rfl, H0.out⟩
  case round =>
    rename World => wr
    obtain ⟨i, hi, rfl, hsr⟩ := hrel
    clear H0
    by_cases hlt : i < l.length
    · have hp : l[i]? = some l[i] := by simp [hlt]
      generalize l[i] = p at hp
      obtain ⟨ob, oo, rfl, hcell⟩ := HR.out.fc ocells_length hsr.tail.tail hp (by omega)
      have hst := writers_step hp key
      obtain ⟨tx, ky, wr', fr⟩ := p
      have d0 := hcell _ hsr.tail.tail 0 _ rfl
      have d1 := hcell _ hsr.tail.tail 1 _ rfl
      have d2 := hcell _ hsr.tail.tail 2 _ rfl
      have d3 := hcell _ hsr.tail.tail 3 _ rfl
      simp only [Nat.add_zero] at d0 d1 d2 d3
      have hs3 := hsr.alloc #[.int .i64 tx, .int .i64 ky, .bool wr', .int .i64 fr] 65
      have b0 := hs3.blk_cell 0 rfl
      have b1 := hs3.blk_cell 1 rfl
      have b2 := hs3.blk_cell 2 rfl
      have hwl := writers_le (l.take i) key
      rw [List.length_take] at hwl
      obtain ⟨au, cu, rfl, hcu, hcu2, _⟩ := hsr.sl_val
      unfold maxLen at hcu2
      generalize writers (l.take i) key = ws at *
      have H3 := hid hs3; have HST := hid hst
      clear hcell hsr hs3 hst hp
      cases wr' with
      | false =>
        have e : writers (l.take (i + 1)) key = ws := by rw [HST.out]; simp [wstep]
        have HE := hid e
        clear e HST
        go_wp2_with fail
        go_quiet (fail)
        go_wp2_with fail
        go_roundw
        case rel => exact ⟨i + 1, by omega, by go_num, by rw [HE.out]; exact (H3.out.drewN nq).tail⟩
        case measure => simp [intOf]; omega
      | true =>
        obtain ⟨i0, hi0, hz0, hz1, hz2⟩ := info_parts Tryd.info3
        by_cases hk : ky = key
        · subst hk
          rcases List.eq_nil_or_concat ws with rfl | ⟨ini, q, hq⟩
          · have e : writers (l.take (i + 1)) ky = [tx] := by rw [HST.out]; simp [wstep, wput]
            have HE := hid e
            have hs5 : ∀ nq, S w0 (((wr.alloc (.cells #[.int .i64 tx, .int .i64 ky, .bool true, .int .i64 fr] 65)).drewN nq).alloc (.cells #[.int .i64 tx] 3)) (blk (wr.heap.size + 1) 3 [.int .i64 tx] :: blk wr.heap.size 65 [.int .i64 tx, .int .i64 ky, .bool true, .int .i64 fr] :: sl 3 1 (.slice au 0 cu) 0 [] :: blk bx 59 [.slice (some ⟨ob, oo, none⟩) l.length cap] :: L) := fun nq => by
              have h := ((H3.out.drewN nq).alloc #[.int .i64 tx] 3)
              simpa [icells] using h
            have hn5 := fun nq => news_blk (hs5 nq)
            have hs6 := fun nq => (hs5 nq).tail.swap
            have H6 := hid hs6; have HN := hid hn5
            clear e HST hs5 hn5 hs6 H3
            simp only [List.length_nil] at hcu
            go_wp2_with fail
            go_quiet (fail)
            go_wp2_with (at_builtin; refine wpList_append rfl (.tmp 37) (.tmp 40) 41 rfl 3 i0 _ 1 8 Tryd.underlying41 hi0 hz0 hz1 hz2 rfl (by decide) (H6.out _) rfl (some ⟨wr.heap.size + 1, 0, none⟩) 1 1 [.int .i64 tx] rfl rfl (HN.out _) (by simp [Value.oneCell']) (by unfold maxLen; omega) (by omega) ?_; intro v1 w5 hs6; have HS := hid hs6; clear hs6)
            go_roundw
            case rel => exact ⟨i + 1, by omega, by go_num, by rw [HE.out]; exact HS.out.swap.tail⟩
            case measure => simp [intOf]; omega
          · have hwn : ws.length = ini.length + 1 := by rw [hq]; simp
            have hqg : ws[ini.length]? = some q := by rw [hq]; simp
            have hlast : ws.getLast? = some q := by rw [hq]; simp
            clear hq
            generalize ini.length = n at hwn hqg
            obtain ⟨gw, ow, rfl, _, d9⟩ := H3.out.swap.sl_int hqg
            have hj1 : ((n : Int) + 1) - 1 = n := by omega
            have hn0 : ((n : Int) + 1 == 0) = false := by rw [beq_eq_false_iff_ne]; omega
            have HW := hid hwn
            by_cases hqt : q = tx
            · subst hqt
              have hne : (q != q) = false := by simp
              have e : writers (l.take (i + 1)) ky = ws := by rw [HST.out]; simp [wstep, wput, hlast]
              have HE := hid e
              rw [hwn] at hcu
              clear e HST hlast hqg
              generalize hwe : ws.length = m at *
              subst hwn
              go_wp2_with fail
              go_quiet (fail)
              go_wp2_with fail
              go_roundw
              case rel => exact ⟨i + 1, by omega, by go_num, by rw [HE.out, hwe]; exact (H3.out.drewN nq).tail⟩
              case measure => simp [intOf]; omega
            · have hne : (q != tx) = true := by simpa using hqt
              have e : writers (l.take (i + 1)) ky = ws ++ [tx] := by rw [HST.out]; simp [wstep, wput, hlast, hqt]
              have HE := hid e
              have hs5 : ∀ nq, S w0 (((wr.alloc (.cells #[.int .i64 tx, .int .i64 ky, .bool true, .int .i64 fr] 65)).drewN nq).alloc (.cells #[.int .i64 tx] 3)) (blk (wr.heap.size + 1) 3 [.int .i64 tx] :: blk wr.heap.size 65 [.int .i64 tx, .int .i64 ky, .bool true, .int .i64 fr] :: sl 3 1 (.slice (some ⟨gw, ow, none⟩) ws.length cu) ws.length (icells ws) :: blk bx 59 [.slice (some ⟨ob, oo, none⟩) l.length cap] :: L) := fun nq => by
                have h := ((H3.out.drewN nq).alloc #[.int .i64 tx] 3)
                simpa using h
              have hn5 := fun nq => news_blk (hs5 nq)
              have hs6 := fun nq => (hs5 nq).tail.swap
              have hil := icells_length ws
              have H6 := hid hs6; have HN := hid hn5; have HL := hid hil
              rw [hwn] at hcu
              clear e HST hs5 hn5 hs6 H3 hlast hqg hqt hil
              generalize hwe : ws.length = m at *
              subst hwn
              go_wp2_with fail
              go_quiet (fail)
              go_wp2_with (at_builtin; refine wpList_append rfl (.tmp 37) (.tmp 40) 41 rfl 3 i0 _ 1 8 Tryd.underlying41 hi0 hz0 hz1 hz2 rfl (by decide) (H6.out _) rfl (some ⟨wr.heap.size + 1, 0, none⟩) 1 1 [.int .i64 tx] rfl rfl (HN.out _) (by simp [Value.oneCell']) (by unfold maxLen; omega) (by omega) ?_; intro v1 w5 hs6; have HS := hid hs6; clear hs6)
              go_roundw
              case rel => exact ⟨i + 1, by omega, by go_num, by rw [HE.out, List.length_append, hwe, icells_append]; exact HS.out.swap.tail⟩
              case measure => simp [intOf]; omega
        · have hkb : (ky == key) = false := by simpa using hk
          have e : writers (l.take (i + 1)) key = ws := by rw [HST.out]; simp [wstep, hk]
          have HE := hid e
          clear e HST hk
          go_wp2_with fail
          go_quiet (fail)
          go_wp2_with fail
          go_roundw
          case rel => exact ⟨i + 1, by omega, by go_num, by rw [HE.out]; exact (H3.out.drewN nq).tail⟩
          case measure => simp [intOf]; omega
    · obtain rfl : i = l.length := by omega
      rw [List.take_length] at hsr
      have H3 := hid hsr
      clear hsr
      go_wp2_with fail
      go_ret
      exact ⟨_, rfl, H3.out⟩
end Go.Proofs.YthdiphfbjlooaaaDoor
