/- interleafkeep.OrderFair: the walk. -/
import Derived.Test.YtbcoddibdipjkaaDoorFairT0
import Derived.Test.YtbcoddibdipjkaaDoorFairB
import Derived.Test.YtbcoddibdipjkaaDoorFairL
import Derived.Laws.EntriesVeiled
namespace Go.Sep
open Go Go.RowKit
/-- A line, if there is one. -/
def lineP (T : Nat) (r : Option (List Int)) (v : Value) : HProp := match r with | some out => sl T 1 v out.length (icells out) | none => emp
end Go.Sep
namespace Go.Proofs.YtbcoddibdipjkaaDoor
open Go Go.RowKit Go.Sep

theorem Tryd.lookB {w : World} {b : Nat} {D : List (Int × Value)} (h : Go.Sep.MapAt Sep.encI (fun _ => True) w b D) (k : Int) :
    (Instr.lookup 67 (.map (some b)) (.int .i64 k) false).run Tryd.prog w = .ok ((mget D k).getD (.bool false)) w := by
  have hz : (zeroValue 4).run Tryd.prog w = .ok (.bool false) w := by kernel_rfl
  have := run_lookup_at (P := Tryd.prog) Tryd.keyInt Tryd.underlying67 hz h k trivial false
  simpa [Sep.encI] using this
/-- Those that were had. -/
def bmap (l : List Int) : List (Int × Value) := l.map fun x => (x, Value.bool true)
theorem bmap_keys (l : List Int) : (bmap l).map (·.1) = l := by simp [bmap, Function.comp_def]
theorem bmap_get {l : List Int} {x : Int} (h : x ∉ l) : mget (bmap l) x = none := by
  apply mget_none.2
  rw [bmap_keys]; exact h
theorem bmap_put {l : List Int} {x : Int} (h : x ∉ l) : mput (bmap l) x (.bool true) = bmap (l ++ [x]) := by
  unfold mput
  rw [bmap_get h]
  simp [bmap]
theorem allOf_le (l : List Op1) : ∀ n, (allOf l n).length ≤ n
  | 0 => by simp [allOf]
  | n + 1 => by
    have := allOf_le l n
    simp only [allOf, List.length_append]
    split <;> simp <;> omega
theorem allOf_yes {l : List Op1} {n : Nat} (h : ∃ o ∈ l, o.tx = (n : Int) + 1) : allOf l (n + 1) = allOf l n ++ [(n : Int) + 1] := by
  simp only [allOf]
  rw [if_pos (by simpa using h)]; simp
theorem allOf_no {l : List Op1} {n : Nat} (h : ¬ ∃ o ∈ l, o.tx = (n : Int) + 1) : allOf l (n + 1) = allOf l n := by
  simp only [allOf]
  rw [if_neg (by simpa using h)]; simp

theorem take_not_mem {l : List Int} (hn : l.Nodup) {i : Nat} {x : Int} (hx : l[i]? = some x) : x ∉ l.take i := by
  intro h
  obtain ⟨j, hj⟩ := List.getElem?_of_mem h
  have hjl := (List.getElem?_eq_some_iff.1 hj).1
  rw [List.length_take] at hjl
  rw [List.getElem?_take, if_pos (by omega)] at hj
  have := nodup_ix hn hj hx
  omega

set_option maxRecDepth 40000 in
set_option maxHeartbeats 8000000 in
theorem fair_of (hT : TrySpec) (w0 : World) (v : Value) (ls : List Op1) (hE : ErrT w0) (hv : ArgF ocells 4 w0 v ls) :
    Calls Tryd.prog 5 #[v] w0 fun e w' => e = .returned (.bool true) ∧ Below w0.heap.size w0 w' := by
  have HT := hid hT
  clear hT
  have hv' := hv
  obtain ⟨a, cap, rfl, hcap, hcap2, hrow⟩ := hv
  unfold maxLen at hcap2
  have hs0 := S.start w0
  by_cases h40 : 40 < ls.length
  · clear hv' hrow hs0
    go_enter Tryd.func5, Tryd.ntmps5
    go_wp2_with fail
    go_ret
    exact ⟨rfl, Below.refl _ _⟩
  have hb : ls.length ≤ 40 := by omega
  have HV := hid hv'
  clear hrow hv' h40
  go_enter Tryd.func5, Tryd.ntmps5
  go_wp2_with fail
  with_reducible refine (lined_any w0 _ [] hE hs0).mono ?_
  rintro e w1 ⟨rfl, hs1⟩
  have H1 := hid hs1
  clear hs0 hs1
  go_wp2_with fail
  with_reducible refine (ops_any w0 _ _ ls [] H1.out HV.out hb).mono ?_
  rintro e w2 ⟨v2, xs, rfl, hxl, hsm, hs2⟩
  obtain ⟨a2, c2, rfl, hc2, hc2b, _⟩ := hs2.sl_val
  unfold maxLen at hc2b
  have hx40 : xs.length ≤ 40 := by omega
  have hbad : ¬ 0 ≤ badIx xs := okIx fun o ho => by
    have := hsm o ho
    simp only [badOp, decide_eq_false_iff_not]; omega
  have hbd : ∀ o ∈ xs, o.tx ≤ 9223372036854775807 ∧ o.fr ≤ 9223372036854775807 := fun o ho => by have := hsm o ho; omega
  have hperm : (allOf xs 5).Perm (txsOf xs) := allOf_perm fun o ho => by have := hsm o ho; exact ⟨by omega, by simpa using this.2.1⟩
  have hcall := edges_any w0 w2 _ xs _ hs2 RdK.own (by omega) hbd
  have HC := hid hcall; have HBD := hid hbd; have HBAD := hid hbad; have HPM := hid hperm
  clear hs2 hcall hbd hbad hperm hsm H1 HV hxl
  go_wp2_with fail
  with_reducible refine HC.out.mono ?_
  intro e w3 h
  clear HC
  unfold EdgesPost at h
  rw [if_neg (show ¬ 0 ≤ badIx xs by have := HBAD.out; omega)] at h
  cases hfi : xs.findIdx? (lostRead xs) with
  | some k =>
    rw [hfi] at h
    obtain ⟨v1, rfl, hs3⟩ := h
    obtain ⟨g, hs4⟩ := hs3.ex_elim
    obtain ⟨rfl, _⟩ := hs4.sep_elim.pur_elim
    have hs5 := hs3.alloc #[.slice none 0 0] 29
    have hcall := line_any w0 _ (.slice a2 xs.length c2) xs _ hs5 (RdK.own.mono fun w h => h.tail.tail) (by omega) HBD.out
    have HC := hid hcall
    have HFI := hid hfi
    clear hs3 hs4 hs5 hcall hfi
    go_wp2_with fail
    with_reducible refine HC.out.mono ?_
    intro e w4 h
    clear HC
    unfold LinePost at h
    rw [if_neg (show ¬ 0 ≤ badIx xs by have := HBAD.out; omega), HFI.out] at h
    obtain ⟨v2, rfl, hs6⟩ := h
    have hcall1 := tell_any (.at_ 1 k) _ w0 w4 _ hE (hs6.conv (M := errP 44 106 105 (.iface 105 (.pointer (some ⟨g, 0, none⟩))) (.at_ 1 k) :: errP 44 106 105 v2 (.at_ 1 k) :: blk w3.heap.size 29 [.slice none 0 0] :: sl 65 4 (.slice a2 xs.length c2) xs.length (fcells ocells xs) :: []) (by simp only [all]; ac_rfl))
    have HT1 := hid hcall1
    clear hs6 hcall1
    go_wp2_with (go_at_call 16; first | (with_reducible refine HT1.out.mono ?_; rintro e w5 ⟨rfl, hs7⟩; have H7 := hid hs7; clear hs7 HT1) | (with_reducible refine (tell_any (.at_ 1 k) v2 w0 _ _ hE H7.out.swap).mono ?_; rintro e w6 ⟨rfl, hs8⟩; have H8 := hid hs8; clear hs8 H7))
    go_ret
    exact ⟨rfl, H8.out.1⟩
  | none =>
    rw [hfi] at h
    obtain ⟨v1, es, rfl, hES, hel, hs3⟩ := h
    have hlost : ∀ o ∈ xs, lostRead xs o = false := by
      rw [List.findIdx?_eq_none_iff] at hfi
      intro o ho; simpa using hfi o ho
    obtain ⟨a1, c1, rfl, _, hc1, _⟩ := hs3.sl_val
    have hs5 := (hs3.alloc #[.slice a1 es.length c1] 29).out_intro (te := 31)
    have hcall := line_any w0 _ (.slice a2 xs.length c2) xs _ hs5 (RdK.own.mono fun w h => h.tail) (by omega) HBD.out
    have HC := hid hcall
    have HFI := hid hfi; have HES := hid hES; have HL := hid hlost
    clear hs3 hs5 hcall hfi hES hlost
    go_wp2_with fail
    with_reducible refine HC.out.mono ?_
    intro e w4 h
    clear HC
    unfold LinePost at h
    rw [if_neg (show ¬ 0 ≤ badIx xs by have := HBAD.out; omega), HFI.out] at h
    obtain ⟨es', hES', h⟩ := h
    obtain rfl := HES.out.unique hES'
    obtain ⟨r, hr⟩ : ∃ r, lineL es (txsOf xs).length (txsOf xs) = r := ⟨_, rfl⟩
    rw [hr] at h
    obtain ⟨vl, vo, rfl, hcs, hs6⟩ : ∃ vl vo, e = .returned (.tuple #[vl, vo]) ∧ ((∃ out, r = some out ∧ vo = .nilIface) ∨ (r = none ∧ vo = .iface 44 (.int .i64 11))) ∧
        S w0 w4 (lineP 3 r vl :: outP 29 31 w3.heap.size es :: sl 65 4 (.slice a2 xs.length c2) xs.length (fcells ocells xs) :: []) := by
      cases r with
      | some out =>
        obtain ⟨v, rfl, _, hs⟩ := h
        exact ⟨v, _, rfl, .inl ⟨out, rfl, rfl⟩, hs⟩
      | none =>
        obtain ⟨rfl, hs⟩ := h
        exact ⟨_, _, rfl, .inr ⟨rfl, rfl⟩, hs.conv (by simp only [all, lineP, emp_sep])⟩
    have H6 := hid (hs6.sl_nil (e := 3) (size := 1))
    have HCS := hid hcs; have HRL := hid hr
    clear hs6 hES' hcs hr h
    go_wp2_with fail
    go_loopw [8, 9] (fun va nv wr => ∃ n : Nat, n ≤ 5 ∧ nv = .int .i64 ((n : Int) + 1) ∧ S w0 wr (sl 3 1 va (allOf xs n).length (icells (allOf xs n)) :: lineP 3 r vl :: outP 29 31 w3.heap.size es :: sl 65 4 (.slice a2 xs.length c2) xs.length (fcells ocells xs) :: [])) (fun _ nv _ => 6 - (intOf nv).toNat)
    case atStart => exact ⟨0, by omega, rfl, H6.out⟩
    case round =>
      rename World => wr
      obtain ⟨n, hn, rfl, hsr⟩ := hrel
      clear H6
      by_cases hn5 : n < 5
      · have hall := allOf_le xs n
        have H8 := hid hsr
        clear hsr
        go_wp2_with fail
        go_loopw [8, 10] (fun vb iv wx => ∃ i : Nat, i ≤ xs.length ∧ iv = .int .i64 i ∧ Hid (∀ j < i, ∀ o, xs[j]? = some o → o.tx ≠ (n : Int) + 1) ∧ S w0 wx (sl 3 1 vb (allOf xs n).length (icells (allOf xs n)) :: lineP 3 r vl :: outP 29 31 w3.heap.size es :: sl 65 4 (.slice a2 xs.length c2) xs.length (fcells ocells xs) :: [])) (fun _ iv _ => xs.length - (intOf iv).toNat)
        case atStart => exact ⟨0, Nat.zero_le _, rfl, hid (fun j hj => by omega), H8.out⟩
        case round =>
          rename World => wx
          obtain ⟨i, hi, rfl, hnone, hsi⟩ := hrel
          clear H8
          by_cases hlt : i < xs.length
          · have hp : xs[i]? = some xs[i] := by simp [hlt]
            generalize xs[i] = p at hp
            obtain ⟨gx, ox, rfl, hgx, hcx⟩ := (hsi.of_mem (A := sl 65 4 (.slice a2 xs.length c2) xs.length (fcells ocells xs)) (by simp)).sl_f ocells_length hp (by omega)
            have d0 := hcx 0 _ rfl
            simp only [Nat.add_zero] at d0
            by_cases htx : p.tx = (n : Int) + 1
            · obtain ⟨aa, ca, rfl, hca, hca2, _⟩ := hsi.sl_val
              unfold maxLen at hca2
              rw [htx] at d0
              have hyes := allOf_yes (l := xs) (n := n) ⟨p, List.mem_of_getElem? hp, htx⟩
              obtain ⟨i0, hi0, hz0, hz1, hz2⟩ := info_parts Tryd.info3
              have hs1 := hsi.alloc #[.int .i64 ((n : Int) + 1)] 3
              have hn1 := news_blk hs1
              have hs2 := hs1.tail
              have HN := hid hn1; have H9 := hid hs2; have HY := hid hyes
              clear hs1 hs2 hn1 hsi hcx hp htx hyes hnone
              go_wp2_with (at_builtin; refine wpList_append rfl (.tmp 56) (.tmp 58) 41 rfl 3 i0 _ 1 8 Tryd.underlying41 hi0 hz0 hz1 hz2 rfl (by decide) H9.out rfl (some ⟨wx.heap.size, 0, none⟩) 1 1 [.int .i64 ((n : Int) + 1)] rfl rfl HN.out (by simp [Value.oneCell']) (by unfold maxLen; omega) (by omega) ?_; intro v1 w5 hs1; have HS := hid hs1; clear hs1)
              go_roundw
              case rel => exact ⟨n + 1, by omega, by go_num, by
                have h := HS.out
                rw [HY.out, List.length_append, List.length_singleton, icells_append]; exact h⟩
              case measure => simp [intOf]; omega
            · have htb : (p.tx == (n : Int) + 1) = false := by simpa using htx
              have hnx : ∀ j < i + 1, ∀ o, xs[j]? = some o → o.tx ≠ (n : Int) + 1 := by
                intro j hj o ho
                by_cases e : j = i
                · subst e; rw [hp] at ho; cases ho; exact htx
                · exact hnone.out j (by omega) o ho
              have HN := hid hnx; have H9 := hid hsi
              clear hsi hcx hp htx hnone hnx
              go_wp2_with fail
              go_roundw
              case rel => exact ⟨i + 1, by omega, by go_num, HN, H9.out⟩
              case measure => simp [intOf]; omega
          · obtain rfl : i = xs.length := by omega
            have hno := allOf_no (l := xs) (n := n) (by
              rintro ⟨o, ho, e⟩
              obtain ⟨j, hj⟩ := List.getElem?_of_mem ho
              exact hnone.out j (List.getElem?_eq_some_iff.1 hj).1 o hj e)
            have HN := hid hno; have H9 := hid hsi
            clear hsi hnone hno
            go_wp2_with fail
            go_roundw
            case rel => exact ⟨n + 1, by omega, by go_num, by rw [HN.out]; exact H9.out⟩
            case measure => simp [intOf]; omega
      · obtain rfl : n = 5 := by omega
        have hall := allOf_le xs 5
        rcases HCS.out with ⟨out, rfl, rfl⟩ | ⟨rfl, rfl⟩
        · obtain ⟨hpo, hno, hfo⟩ := fair_some HES.out HL.out HRL.out
          have hlen : (allOf xs 5).length = out.length := (HPM.out.trans hpo.symm).length_eq
          rw [hlen] at hsr
          have hsr' := hsr
          simp only [lineP] at hsr'
          obtain ⟨aa, ca, rfl, _, hca2, _⟩ := hsr'.sl_val
          obtain ⟨al, cl, rfl, hcl, hcl2, _⟩ := hsr'.swap.sl_val
          unfold maxLen at hca2 hcl2
          have hol : out.length ≤ 5 := by omega
          have hs7 := (hsr'.alloc #[fitsF w3.heap.size] 66).made (enc := Sep.encI) (ok := fun _ => True)
          rw [World.size_alloc] at hs7
          have hbm0 : bmap (out.take 0) = [] := rfl
          rw [← hbm0] at hs7
          have H7 := hid hs7; have HNO := hid hno; have HFO := hid hfo
          have hmm := @run_makeMap Tryd.prog
          clear hsr hsr' hs7 hpo hno hfo hbm0 HCS
          go_wp2_with fail
          clear hmm
          go_loopw [13] (fun iv wx => ∃ i : Nat, i ≤ out.length ∧ iv = .int .i64 i ∧ S w0 wx (mp Sep.encI (fun _ => True) (wr.heap.size + 1) (bmap (out.take i)) :: blk wr.heap.size 66 [fitsF w3.heap.size] :: sl 3 1 (.slice aa out.length ca) out.length (icells (allOf xs 5)) :: sl 3 1 (.slice al out.length cl) out.length (icells out) :: outP 29 31 w3.heap.size es :: sl 65 4 (.slice a2 xs.length c2) xs.length (fcells ocells xs) :: [])) (fun iv _ => out.length - (intOf iv).toNat)
          case atStart => exact ⟨0, Nat.zero_le _, rfl, H7.out⟩
          case round =>
            rename World => wx
            obtain ⟨i, hi, rfl, hsi⟩ := hrel
            clear H7
            by_cases hlt : i < out.length
            · have hp : out[i]? = some out[i] := by simp [hlt]
              generalize out[i] = x at hp
              obtain ⟨gl, ol, rfl, hgl, d0⟩ := (hsi.of_mem (A := sl 3 1 (.slice al out.length cl) out.length (icells out)) (by simp)).sl_int hp
              have hnx := take_not_mem HNO.out hp
              have l1 := Tryd.lookB hsi.mapAt x
              rw [bmap_get hnx] at l1
              simp only [Option.getD_none] at l1
              obtain ⟨w2, u2, hs4⟩ := hsi.put Tryd.keyInt Tryd.underlying67 x trivial (.bool true)
              rw [bmap_put hnx, ← take_succ_get hp] at hs4
              simp only [Sep.encI] at u2
              have H4 := hid hs4
              clear hsi hs4 hnx hp
              go_wp2_with fail
              go_roundw
              case rel => exact ⟨i + 1, by omega, by go_num, H4.out⟩
              case measure => simp [intOf]; omega
            · have hcf := (hsi.of_mem (A := blk wr.heap.size 66 [fitsF w3.heap.size]) (by simp)).blk_cell 0 rfl
              have hcv := hsi.conv (M := outP 29 31 w3.heap.size es :: sl 3 1 (.slice al out.length cl) out.length (icells out) :: mp Sep.encI (fun _ => True) (wr.heap.size + 1) (bmap (out.take i)) :: blk wr.heap.size 66 [fitsF w3.heap.size] :: sl 3 1 (.slice aa out.length ca) out.length (icells (allOf xs 5)) :: sl 65 4 (.slice a2 xs.length c2) xs.length (fcells ocells xs) :: []) (by simp only [all]; ac_rfl)
              have hcall := fits_any w0 wx (.slice al out.length cl) out w3.heap.size es _ hcv (RdK.own.mono fun w h => h.tail) (by omega) hel
              have HC := hid hcall
              clear hsi hcv hcall
              go_wp2_with (go_at_call 27; with_reducible refine HC.out.mono ?_; rintro e w6 ⟨rfl, hs8⟩; have H8 := hid hs8; clear hs8)
              go_ret
              exact ⟨by rw [HFO.out]; rfl, H8.out.1⟩
        · obtain ⟨aa, ca, rfl, _, hca2, _⟩ := hsr.sl_val
          unfold maxLen at hca2
          have hsr' := hsr.conv (M := outP 29 31 w3.heap.size es :: sl 3 1 (.slice aa (allOf xs 5).length ca) (allOf xs 5).length (icells (allOf xs 5)) :: sl 65 4 (.slice a2 xs.length c2) xs.length (fcells ocells xs) :: []) (by simp only [all, lineP, emp_sep]; ac_rfl)
          have hs7 := hsr'.alloc #[fitsF w3.heap.size] 66
          have hcall := tell_no 11 w0 _ _ hE hs7
          have HC := hid hcall
          clear hsr hsr' hs7 hcall HCS
          go_wp2_with (go_at_call 16; with_reducible refine HC.out.mono ?_; rintro e w5 ⟨rfl, hs8⟩; have H8 := hid (hs8.alloc #[tryF wr.heap.size w5.heap.size] 68); have H9 := hid ((((H8.out.conv (M := outP 29 31 w3.heap.size es :: blk wr.heap.size 66 [fitsF w3.heap.size] :: blk w5.heap.size 68 [tryF wr.heap.size w5.heap.size] :: sl 3 1 (.slice aa (allOf xs 5).length ca) (allOf xs 5).length (icells (allOf xs 5)) :: sl 65 4 (.slice a2 xs.length c2) xs.length (fcells ocells xs) :: []) (by simp only [all]; ac_rfl)).try_join).sl_nil (e := 3) (size := 1)).swap); clear hs8)
          have hfc : (w5.alloc (.cells #[tryF wr.heap.size w5.heap.size] 68)).cell? ⟨w5.heap.size, 0, none⟩ = some (tryF wr.heap.size w5.heap.size) := H8.out.blk_cell 0 rfl
          have hcall := HT.out w3.heap.size wr.heap.size w5.heap.size _ _ es hel w0 _ _ (.slice none 0 0) (.slice aa (allOf xs 5).length ca) [] (allOf xs 5) _ (Nat.le_refl _) (by simp only [List.length_nil]; omega) H9.out
          have HC := hid hcall
          clear hcall
          go_wp2_with (go_at_call 28; with_reducible refine HC.out.mono ?_; rintro e w6 ⟨b, rfl, himp, hs10⟩; have hbf : b = false := (by cases b with | false => rfl | true => (obtain ⟨p, hp, hf⟩ := himp rfl; rw [List.nil_append, fair_none HRL.out (hp.trans HPM.out)] at hf; cases hf)); subst hbf; have H10 := hid hs10; clear hs10 himp)
          go_ret
          exact ⟨rfl, H10.out.1⟩
end Go.Proofs.YtbcoddibdipjkaaDoor
