/- The law EngineStrict returns true for every input, and its argument reads afterwards as before; condition: the package variable errors.errorType holds the handle of the type error, as the row lists it. -/
import Derived.Test.YtcbokjocahnlcaaGreatDoorSt0
import Derived.Test.YtcbokjocahnlcaaGreatDoorSt10
import Derived.Test.YtcbokjocahnlcaaGreatDoorSt15
import Derived.Test.YtcbokjocahnlcaaGreatDoorSt17
import Derived.Test.YtcbokjocahnlcaaGreatDoorSt18
import Derived.Test.YtcbokjocahnlcaaGreatDoorSt1
import Derived.Deep.DeepCutAuto
import Derived.Deep.CutBlock
/- interleafkeep.EngineStrict: the walk. Condition: the package variable errors.errorType holds the handle of the type error. -/
namespace Go.Proofs.YtcbokjocahnlcaaGreatDoor
open Go Go.RowKit Go.Sep
theorem Tryz.lenJ {w : World} {b : Nat} {D : List (Int × Int)} (h : Sep.MapAt encI (fun _ => True) w b (ienc D)) (ty : TypeId) : (Builtin.len_ #[57] ty #[.map (some b)]).run Tryz.prog w = .ok (.int .i64 (D.length : Nat)) w := by
 obtain ⟨es, clock, hobj, hm⟩ := h
 rw [run_len_map (P := Tryz.prog) w 57 ty b es clock (by kernel_rfl) hobj]
 have h1 := congrArg List.length hm.1
 have h2 : es.size = D.length := by simpa [ienc] using h1
 rw [h2]; rfl
theorem at_any (w0 w : World) (bn mb : Nat) (D : List (Int × Int)) (key : Int) (L : List HProp) (hs : S w0 w (blk bn 57 [.map (some mb)] :: mp encI (fun _ => True) mb (ienc D) :: L)) :
  Calls Tryz.prog 22 #[.int .i64 key, .pointer (some ⟨bn, 0, none⟩)] w fun r w' => r = .returned (.int .i64 ((mget D key).getD (-1))) ∧ w = w' := by
 have c0 := hs.blk_cell 0 rfl
 have lk := Tryz.look2 hs.tail.mapAt key
 clear hs
 cases hm : mget D key with
 | some v =>
  rw [hm] at lk
  simp only [Option.getD_some, Option.isSome_some] at lk
  clear hm
  go_enter Tryz.func22, Tryz.ntmps22
  go_wp2_with fail
  go_ret
  exact ⟨rfl, rfl⟩
 | none =>
  rw [hm] at lk
  simp only [Option.getD_none, Option.isSome_none] at lk
  clear hm
  go_enter Tryz.func22, Tryz.ntmps22
  go_wp2_with fail
  go_ret
  exact ⟨rfl, rfl⟩
theorem rec_read {w0 : World} {L : List HProp} {k : TaleV} {t : Tale} {i : Nat} (hi : i < t.recs.length) : RdK w0 (all (recPs k.vs t.recs) :: L) (k.v i).rv (t.one i).reads.length (pcells (t.one i).reads) := by
 intro W h
 exact RdK.own _ ((h.rec_out hi).sep_elim.tail.sep_elim).tail
theorem line_good {t : Tale} {C : List Nat} {N : Nat} (hD : Done t.e C) (hok : OkT N t.e []) : ¬ 0 ≤ badIx t.e.hist ∧ t.e.hist.findIdx? (lostRead t.e.hist) = none ∧ ∀ o ∈ t.e.hist, o.tx ≤ 9223372036854775807 ∧ o.fr ≤ 9223372036854775807 := by
 have hg := hist_good hD
 have hf := hok.few
 refine ⟨?_, ?_, fun o ho => ?_⟩
 ·rcases badIx_cases t.e.hist with ⟨h1, _⟩ | ⟨k, _, _, o, h2, h3, _⟩
  ·omega
  ·rw [(hg o (List.mem_of_getElem? h2)).1] at h3; cases h3
 ·rw [List.findIdx?_eq_none_iff]
  intro o ho
  exact (hg o ho).2.1
 ·obtain ⟨_, _, h1, h2, _⟩ := hg o ho
  omega
set_option linter.unusedSimpArgs false in
set_option maxRecDepth 100000 in
set_option maxHeartbeats 16000000 in
theorem strict2_any (w0 : World) (v : Value) (ls : List Act1) (hE : ErrT w0) (hv : ArgF acells 4 w0 v ls) :
  Calls Tryz.prog 5 #[v] w0 fun e w' => e = .returned (.bool true) ∧ Below w0.heap.size w0 w' := by
 obtain ⟨a, cap, rfl, hcap, hcap2, hrow⟩ := hv
 unfold maxLen at hcap2
 have hs0 := S.start w0
 by_cases h90 : 90 < ls.length
 ·go_enter Tryz.func5, Tryz.ntmps5
  go_wp2_with fail
  go_ret
  exact ⟨rfl, Below.refl _ _⟩
 have h90' : ls.length ≤ 90 := by omega
 have HR := hid hrow
 clear hrow h90
 go_enter Tryz.func5, Tryz.ntmps5
 go_wp2_with fail
 with_reducible refine (ran_any w0 _ [] hE hs0).mono ?_
 rintro e w1 ⟨rfl, hs1⟩
 have HT := hid (tells_any w0 w1 [] hs1)
 clear hs0 hs1
 go_wp2_with fail
 with_reducible refine HT.out.mono ?_
 rintro e w2 ⟨b, be, rfl, hs2⟩
 have H2 := hid hs2
 clear hs2 HT
 go_wp2_with fail
 go_loopw [4] (fun c wr => ∃ i : Nat, i ≤ ls.length ∧ c = .int .i64 i ∧ ∃ t : Tale, Hid (TaleB i t ∧ StrictT i t) ∧ Hid (S w0 wr (tale2 b be t :: []))) (fun c _ => ls.length - (intOf c).toNat)
 case atStart => exact ⟨0, Nat.zero_le _, rfl, _, hid ⟨TaleB.start, StrictT.start⟩, H2⟩
 case round =>
  obtain ⟨i, hi, rfl, t, hB, hsr⟩ := hrel
  by_cases hlt : i < ls.length
  ·have hp : ls[i]? = some ls[i] := by simp [hlt]
   generalize ls[i] = p at hp
   obtain ⟨bb, oo, rfl, hbb, hcc⟩ := HR.out i p hp
   have c0 := (hsr.out.1.cell (p := ⟨bb, oo + i * 4 + 0, none⟩) hbb).trans (hcc 0 _ rfl)
   have c1 := (hsr.out.1.cell (p := ⟨bb, oo + i * 4 + 1, none⟩) hbb).trans (hcc 1 _ rfl)
   have c2 := (hsr.out.1.cell (p := ⟨bb, oo + i * 4 + 2, none⟩) hbb).trans (hcc 2 _ rfl)
   have c3 := (hsr.out.1.cell (p := ⟨bb, oo + i * 4 + 3, none⟩) hbb).trans (hcc 3 _ rfl)
   rw [Nat.add_zero] at c0
   have hd := does_any w0 _ b be t p 2 [] i hE hB.out.1 (by omega) hsr.out
   unfold actV at hd
   have HD := hid hd
   have HB := hid (And.intro (hB.out.1.does p 2) (hB.out.2.does hB.out.1.ok p))
   clear hcc hd hsr hB hp
   go_wp2_with fail
   with_reducible refine HD.out.mono ?_
   rintro e w3 ⟨rfl, hs3⟩
   have hc9 : w3.cell? ⟨b, 9, none⟩ = some (.bool false) := by
    obtain ⟨bs, k, h⟩ := hs3.t2_open
    have := h.tale_see.1.broken
    rw [HB.out.1.law.broken] at this; exact this
   have H3 := hid hs3
   clear hs3 HD c0 c1 c2 c3
   go_wp2_with fail
   go_roundw
   case rel => exact ⟨i + 1, by omega, by go_num, _, HB, H3⟩
   case measure => simp [intOf]; omega
  ·obtain ⟨bs, k, hk⟩ := hsr.out.t2_open
   have hok := hB.out.1.ok
   obtain ⟨N, hN⟩ : ∃ N, N = i * 1000 + 10 := ⟨_, rfl⟩
   rw [← hN] at hok
   have hNle : N ≤ 90000000 := by omega
   obtain ⟨C, hD⟩ := hB.out.2.done hok
   have hlaw := hB.out.1.law
   have hST := hB.out.2
   obtain ⟨n, hn⟩ : ∃ n, n = t.e.txs.length := ⟨_, rfl⟩
   have hn200 : n ≤ 200 := by rw [hn]; exact hok.few
   have hln : t.recs.length = n := by rw [hn]; exact hlaw.len
   obtain ⟨g1, g2, g3⟩ := line_good hD hok
   have hhl : t.e.hist.length ≤ 900 := by
    have h1 := hist_load hD
    have h2 := hST.load
    omega
   have hser : ∀ es out, EdgesOf t.e.hist es → lineL es (txsOf t.e.hist).length (txsOf t.e.hist) = some out → Serial t out := fun es out he hl => hST.serial hok hD (lineOf_of hD he hl)
   have hsome : ∀ es, EdgesOf t.e.hist es → ∃ out, lineL es (txsOf t.e.hist).length (txsOf t.e.hist) = some out := fun es he => line_some hD he
   have heh := ehist_any w0 _ be bs t.e _ N [] hok hNle hk.rot3
   have c0 := hk.tale_see.1.e
   have HOK := hid hok; have HSER := hid hser; have HSOME := hid hsome; have HLN := hid hln; have HN := hid hn; have HEH := hid heh; have HG := hid (And.intro g1 (And.intro g2 g3)); have HHL := hid hhl
   clear H2 hok hsr hB hN hD hlaw hST hn hln g1 g2 g3 hhl hser hsome heh hk HR
   go_wp2_with fail
   with_reducible refine HEH.out.mono ?_
   rintro r w6 ⟨v6, rfl, hs6⟩
   have hln2 := line_any w0 w6 v6 t.e.hist _ hs6 RdK.own HHL.out HG.out.2.2
   unfold LinePost at hln2
   simp only [if_neg (show ¬ 0 ≤ badIx t.e.hist by have h := HG.out.1; omega), HG.out.2.1] at hln2
   have HLINE := hid hln2
   clear hs6 hln2 HEH c0
   go_wp2_with fail
   with_reducible refine HLINE.out.mono ?_
   rintro r w7 ⟨es, hes, hres⟩
   obtain ⟨out, hout⟩ := HSOME.out es hes
   have hserial := HSER.out es out hes hout
   rw [hout] at hres
   obtain ⟨v7, rfl, hol, hs7⟩ := hres
   obtain ⟨al, cl, rfl, dl, el, _⟩ := hs7.sl_val
   unfold maxLen at el
   obtain ⟨X, hX⟩ : ∃ X, X = sl 59 4 v6 t.e.hist.length (fcells opc t.e.hist) := ⟨_, rfl⟩
   have hmm := @run_makeMap Tryz.prog
   have hs8 := (hs7.made (enc := encI) (ok := fun _ => True)).alloc #[.map (some w7.heap.size)] 57
   obtain ⟨mb, hmb⟩ : ∃ m, m = w7.heap.size := ⟨_, rfl⟩
   obtain ⟨bn, hbn⟩ : ∃ m, m = (w7.alloc (.map #[] 0)).heap.size := ⟨_, rfl⟩
   have hbn' : bn = w7.heap.size + 1 := by rw [hbn]; simp
   have H8 := hid (hs8.conv (M := blk bn 57 [.map (some mb)] :: mp encI (fun _ => True) mb (ienc (nowL t.e (out.take 0))) :: sl 3 1 (.slice al out.length cl) out.length (icells out) :: engP be bs t.e :: taleB b be k t :: all (recPs k.vs t.recs) :: X :: []) (by rw [hX, hmb, hbn]; simp only [all, List.take_zero, nowL, List.foldl_nil, ienc, List.map_nil]; ac_rfl))
   have HSE := hid hserial
   clear hs7 hs8 hes hout hserial HSER HSOME HLINE HG HHL
   go_wp2_with fail
   clear hmm
   rw [← hbn', ← hmb]
   rw [← hmb] at H8
   clear hmb hbn hbn'
   go_loopw [57] (fun c wq => ∃ p : Nat, p ≤ out.length ∧ c = .int .i64 p ∧ Hid (S w0 wq (blk bn 57 [.map (some mb)] :: mp encI (fun _ => True) mb (ienc (nowL t.e (out.take p))) :: sl 3 1 (.slice al out.length cl) out.length (icells out) :: engP be bs t.e :: taleB b be k t :: all (recPs k.vs t.recs) :: X :: []))) (fun c _ => out.length - (intOf c).toNat)
   case atStart => exact ⟨0, Nat.zero_le _, rfl, H8⟩
   case round =>
    clear H8
    obtain ⟨p, hp, rfl, H8⟩ := hrel
    by_cases hpl : p < out.length
    ·have hpp : out[p]? = some out[p] := by simp [hpl]
     have htk : out.take (p + 1) = out.take p ++ [out[p]] := by rw [List.take_add_one, hpp]; rfl
     obtain ⟨x, hx, hxe, hxs, hxr⟩ := HSE.out.each p _ hpp
     rw [hx] at hpp htk
     have hDn : nowL t.e (out.take (p + 1)) = put2 (nowL t.e (out.take p)) (t.e.tx x).written := by rw [htk, nowL_snoc, show ((x : Int) + 1).toNat - 1 = x by omega]
     obtain ⟨D, hD⟩ : ∃ D, D = nowL t.e (out.take p) := ⟨_, rfl⟩
     rw [← hD] at hDn hxr H8
     obtain ⟨g6, o6, rfl, _, d6⟩ := (H8.out.conv (M := sl 3 1 (.slice al out.length cl) out.length (icells out) :: blk bn 57 [.map (some mb)] :: mp encI (fun _ => True) mb (ienc D) :: engP be bs t.e :: taleB b be k t :: all (recPs k.vs t.recs) :: X :: []) (by simp only [all]; ac_rfl)).sl_int hpp
     have hxn : x < n := by rw [HN.out]; exact hxe
     obtain ⟨gl, ol, cl', gs, os, cs, go, oo, co, gr, or_, cr, b1, b2, b3, b4, b5, b6, b7, b8, hkr, hsee⟩ := read_see HLN.out hxn (H8.out.rot5)
     unfold maxLen at b2 b4 b6 b8
     have hsT : ∀ W, S w0 W (blk bn 57 [.map (some mb)] :: mp encI (fun _ => True) mb (ienc (D)) :: sl 3 1 (.slice (some ⟨g6, o6, none⟩) out.length cl) out.length (icells out) :: engP be bs t.e :: taleB b be k t :: all (recPs k.vs t.recs) :: X :: []) → ReadC W b be n x gl ol cl' gs os cs go oo co gr or_ cr k t := fun W h => hsee W _ t HLN.out h.rot5
     have hrr := rec_read (w0 := w0) (L := blk bn 57 [.map (some mb)] :: mp encI (fun _ => True) mb (ienc D) :: sl 3 1 (.slice (some ⟨g6, o6, none⟩) out.length cl) out.length (icells out) :: engP be bs t.e :: taleB b be k t :: X :: []) (k := k) (t := t) (i := x) (by rw [HLN.out]; exact hxn)
     have hrot : ∀ W, S w0 W (blk bn 57 [.map (some mb)] :: mp encI (fun _ => True) mb (ienc (D)) :: sl 3 1 (.slice (some ⟨g6, o6, none⟩) out.length cl) out.length (icells out) :: engP be bs t.e :: taleB b be k t :: all (recPs k.vs t.recs) :: X :: []) → S w0 W (all (recPs k.vs t.recs) :: blk bn 57 [.map (some mb)] :: mp encI (fun _ => True) mb (ienc D) :: sl 3 1 (.slice (some ⟨g6, o6, none⟩) out.length cl) out.length (icells out) :: engP be bs t.e :: taleB b be k t :: X :: []) := fun W h => h.conv (by simp only [all]; ac_rfl)
     obtain ⟨ax, cx, hrv, hcx, hcx2, _⟩ := hrr _ (hrot _ H8.out)
     unfold maxLen at hcx2
     obtain ⟨rl, hrl⟩ : ∃ l, l = (t.one x).reads := ⟨_, rfl⟩
     rw [hrv, ← hrl] at hrr
     rw [← hrl] at hrv hxr hcx
     have hco := fun W (h : S w0 W (blk bn 57 [.map (some mb)] :: mp encI (fun _ => True) mb (ienc (D)) :: sl 3 1 (.slice (some ⟨g6, o6, none⟩) out.length cl) out.length (icells out) :: engP be bs t.e :: taleB b be k t :: all (recPs k.vs t.recs) :: X :: [])) => (committedK_any w0 W b be bs k t x (blk bn 57 [.map (some mb)] :: mp encI (fun _ => True) mb (ienc D) :: sl 3 1 (.slice (some ⟨g6, o6, none⟩) out.length cl) out.length (icells out) :: X :: []) hxe (by rw [← HN.out]; omega) (h.conv (by simp only [all]; ac_rfl))).mono fun r w' ⟨h1, h2⟩ => (⟨h1, h2.conv (by simp only [all]; ac_rfl)⟩ : _ ∧ S w0 w' (blk bn 57 [.map (some mb)] :: mp encI (fun _ => True) mb (ienc (D)) :: sl 3 1 (.slice (some ⟨g6, o6, none⟩) out.length cl) out.length (icells out) :: engP be bs t.e :: taleB b be k t :: all (recPs k.vs t.recs) :: X :: []))
     have hd2 : decide ((t.e.tx x).state = 2) = true := by simpa using hxs
     rw [hd2] at hco
     have hpair : ∀ W, S w0 W (blk bn 57 [.map (some mb)] :: mp encI (fun _ => True) mb (ienc (D)) :: sl 3 1 (.slice (some ⟨g6, o6, none⟩) out.length cl) out.length (icells out) :: engP be bs t.e :: taleB b be k t :: all (recPs k.vs t.recs) :: X :: []) → ∀ j p, rl[j]? = some p → ∃ g o, ax = some ⟨g, o, none⟩ ∧ W.cell? ⟨g, o + j * 2, none⟩ = some (.int .i64 p.1) ∧ W.cell? ⟨g, o + j * 2 + 1, none⟩ = some (.int .i64 p.2) := fun W h j p hj => hrr.pair (hrot W h) hj
     have c0 := (hsT _ H8.out).e
     have c1 := (hsT _ H8.out).level
     have HCO := hid hco; have HST2 := hid hsT; have HPAIR := hid hpair; have HDN := hid hDn; have HXR := hid hxr; have HRV := hid hrv
     have HXE := hid hxe
     have n1 : decide ((x : Int) + 1 < 1) = false := by simp; omega
     have n2 : decide ((x : Int) + 1 > (n : Int)) = false := by simp; omega
     have hw1 : (x : Int) + 1 - 1 = x := by omega
     have hw2 : IntKind.i64.wrap (x : Int) = (x : Int) := IntWalk.i64_in _ (by omega)
     clear hco hsT hpair hDn hxr hx hxs htk hpp hD hkr hsee hrr hrot hrv hd2 hrl hxe
     go_wp2_with (go_at_call 9; with_reducible refine (HCO.out _ H8.out).mono ?_; rintro r w9 ⟨rfl, hs9⟩; have H9 := hid hs9; have c4 := (HST2.out _ hs9).reads; have q4 := (HST2.out _ hs9).xreads; rw [HRV.out] at q4; clear hs9)
     clear c0 c1 HCO
     go_loopw [88] (fun c wq => ∃ q : Nat, q ≤ rl.length ∧ c = .int .i64 q ∧ Hid (S w0 wq (blk bn 57 [.map (some mb)] :: mp encI (fun _ => True) mb (ienc (D)) :: sl 3 1 (.slice (some ⟨g6, o6, none⟩) out.length cl) out.length (icells out) :: engP be bs t.e :: taleB b be k t :: all (recPs k.vs t.recs) :: X :: []))) (fun c _ => rl.length - (intOf c).toNat)
     case atStart => exact ⟨0, Nat.zero_le _, rfl, H9⟩
     case round =>
      clear H9
      obtain ⟨q, hq, rfl, H9⟩ := hrel
      by_cases hql : q < rl.length
      ·have hqp : rl[q]? = some rl[q] := by simp [hql]
       generalize rl[q] = p at hqp
       obtain ⟨g5, o5, rfl, d0, d1⟩ := HPAIR.out _ H9.out q p hqp
       have hval := HXR.out p (List.mem_of_getElem? hqp)
       have hs10 := H9.out.alloc #[.int .i64 p.1, .int .i64 p.2] 67
       have H10 := hid hs10
       have HVAL := hid hval
       clear hs10 hqp hval
       go_upto_region 27 with fail
       generalize hbr : wr.heap.size = br at H10 ⊢
       clear hbr
       have hq1 : ∀ W (M : List HProp), S w0 W (blk br 67 [.int .i64 p.1, .int .i64 p.2] :: M) → W.cell? ⟨br, 0, none⟩ = some (.int .i64 p.1) ∧ W.cell? ⟨br, 1, none⟩ = some (.int .i64 p.2) := fun W M h => ⟨h.blk_cell 0 rfl, h.blk_cell 1 rfl⟩
       have hat : ∀ W, S w0 W (blk br 67 [.int .i64 p.1, .int .i64 p.2] :: blk bn 57 [.map (some mb)] :: mp encI (fun _ => True) mb (ienc (D)) :: sl 3 1 (.slice (some ⟨g6, o6, none⟩) out.length cl) out.length (icells out) :: engP be bs t.e :: taleB b be k t :: all (recPs k.vs t.recs) :: X :: []) → Calls Tryz.prog 22 #[.int .i64 p.1, .pointer (some ⟨bn, 0, none⟩)] W fun r w' => r = .returned (.int .i64 p.2) ∧ W = w' := fun W h => by
        have hc := at_any w0 W bn mb D p.1 _ h.tail
        rw [HVAL.out] at hc
        exact hc
       have HQ := hid hq1; have HAT := hid hat; have HS0 := H10
       clear hq1 hat H10
       refine wp_region_held_drew (S := fun w' => w'.cell? ⟨br, 0, none⟩ = some (.int .i64 p.1) ∧ w'.cell? ⟨br, 1, none⟩ = some (.int .i64 p.2)) (by kernel_rfl) (HQ.out _ _ HS0.out.drew) (fun hHeld => ?_)
       refine wpAnyH_take (i := 0) (v := ?_) rfl (by kernel_rfl) (by kernel_rfl) (by kernel_rfl) (fun _ _ _ h => h) (Or.inl ⟨by rfl, ?_⟩) hHeld ?_
       rotate_left
       ·(intro w hSw; (try dsimp only at hSw); go_simp) <;> with_reducible rfl
       try simp only [putU]
       refine wpAnyH_take (i := 1) (v := ?_) rfl (by kernel_rfl) (by kernel_rfl) (by kernel_rfl) (fun _ _ _ h => h) (Or.inl ⟨by rfl, ?_⟩) hHeld ?_
       rotate_left
       ·(intro w hSw; (try dsimp only at hSw); go_simp) <;> with_reducible rfl
       try simp only [putU]
       refine wpAnyH_take (i := 2) (v := ?_) rfl (by kernel_rfl) (by kernel_rfl) (by kernel_rfl) (fun _ _ _ h => h) (Or.inl ⟨by rfl, ?_⟩) hHeld ?_
       rotate_left
       ·(intro w hSw; (try dsimp only at hSw); go_simp) <;> with_reducible rfl
       try simp only [putU]
       refine wpAnyH_take (i := 4) (v := ?_) rfl (by kernel_rfl) (by kernel_rfl) (by kernel_rfl) (fun _ _ _ h => h) (Or.inl ⟨by rfl, ?_⟩) hHeld ?_
       rotate_left
       ·(intro w hSw; (try dsimp only at hSw); go_simp) <;> with_reducible rfl
       try simp only [putU]
       refine wpAnyH_take (i := 5) (v := ?_) rfl (by kernel_rfl) (by kernel_rfl) (by kernel_rfl) (fun _ _ _ h => h) (Or.inl ⟨by rfl, ?_⟩) hHeld ?_
       rotate_left
       ·(intro w hSw; (try dsimp only at hSw); go_simp) <;> with_reducible rfl
       try simp only [putU]
       have HS := hid HS0.out.drew
       clear hHeld
       refine anyH_world (fun w => Hid (S w0 w _)) HS (fun w1 HS => ?_)
       clear HS0
       refine wpAnyH_ready (rs := [3]) (by kernel_rfl) (by simp) ?_
       refine AllReadyH.cons rfl (fun K hK => ?_) AllReadyH.nil
       go_simp
       go_at_call 22
       with_reducible refine (HAT.out _ HS.out).mono ?_
       rintro r w9 ⟨rfl, rfl⟩
       refine hK.out _ _ (HQ.out _ _ HS.out) (fun _ => ?_)
       clear hK K
       refine wpAnyH_take (i := 6) (v := ?_) rfl (by kernel_rfl) (by kernel_rfl) (by kernel_rfl) (fun _ _ _ h => h) (Or.inl ⟨by rfl, ?_⟩) (HQ.out _ _ HS.out) ?_
       rotate_left
       ·(intro w hSw; (try dsimp only at hSw); go_simp) <;> with_reducible rfl
       try simp only [putU]
       refine wpAnyH_done (by kernel_rfl) ?_ _
       have H11 := hid HS.out.tail
       clear HS HAT HQ
       go_wp2_with fail
       go_roundw
       case rel => exact ⟨q + 1, by omega, by go_num, H11⟩
       case measure => simp [intOf]; omega
      ·have c0 := (HST2.out _ H9.out).e
       have hwr := ewrites_any w0 wr be bs t.e ((x : Int) + 1) (blk bn 57 [.map (some mb)] :: mp encI (fun _ => True) mb (ienc D) :: sl 3 1 (.slice (some ⟨g6, o6, none⟩) out.length cl) out.length (icells out) :: taleB b be k t :: all (recPs k.vs t.recs) :: X :: []) N [] HOK.out (H9.out.conv (by simp only [all]; ac_rfl))
       rw [writes_at HXE.out] at hwr
       dsimp only at hwr
       rw [errV_0] at hwr
       have HW := hid hwr
       clear hwr HPAIR HXR H9
       go_wp2_with fail
       with_reducible refine HW.out.mono ?_
       rintro r w12 ⟨vw, rfl, hs12⟩
       obtain ⟨wl, hwl⟩ : ∃ l, l = (t.e.tx x).written := ⟨_, rfl⟩
       have hdn := HDN.out
       rw [← hwl] at hs12 hdn
       obtain ⟨aw, cw, rfl, dw, ew, _⟩ := hs12.sl_val
       unfold maxLen at ew
       have H12 := hid (hs12.conv (M := blk bn 57 [.map (some mb)] :: mp encI (fun _ => True) mb (ienc (put2 D (wl.take 0))) :: sl 3 1 (.slice (some ⟨g6, o6, none⟩) out.length cl) out.length (icells out) :: engP be bs t.e :: taleB b be k t :: all (recPs k.vs t.recs) :: sl 44 2 (.slice aw wl.length cw) wl.length (pcells wl) :: X :: []) (by simp only [all, put2, List.take_zero, List.foldl_nil]; ac_rfl))
       have HDN2 := hid hdn
       clear hs12 HW c0 hwl hdn HDN HST2
       go_wp2_with fail
       go_loopw [15] (fun c wq => ∃ q : Nat, q ≤ wl.length ∧ c = .int .i64 q ∧ Hid (S w0 wq (blk bn 57 [.map (some mb)] :: mp encI (fun _ => True) mb (ienc (put2 D (wl.take q))) :: sl 3 1 (.slice (some ⟨g6, o6, none⟩) out.length cl) out.length (icells out) :: engP be bs t.e :: taleB b be k t :: all (recPs k.vs t.recs) :: sl 44 2 (.slice aw wl.length cw) wl.length (pcells wl) :: X :: []))) (fun c _ => wl.length - (intOf c).toNat)
       case atStart => exact ⟨0, Nat.zero_le _, rfl, H12⟩
       case round =>
        clear H12
        obtain ⟨q, hq, rfl, H12⟩ := hrel
        by_cases hql : q < wl.length
        ·have hqp : wl[q]? = some wl[q] := by simp [hql]
         have htq : put2 D (wl.take (q + 1)) = mput (put2 D (wl.take q)) (wl[q]).1 (wl[q]).2 := by rw [List.take_add_one, hqp]; exact put2_snoc _ _ _
         generalize wl[q] = p at hqp htq
         have hswf : ∀ W, S w0 W (blk bn 57 [.map (some mb)] :: mp encI (fun _ => True) mb (ienc (put2 D (wl.take q))) :: sl 3 1 (.slice (some ⟨g6, o6, none⟩) out.length cl) out.length (icells out) :: engP be bs t.e :: taleB b be k t :: all (recPs k.vs t.recs) :: sl 44 2 (.slice aw wl.length cw) wl.length (pcells wl) :: X :: []) → S w0 W (sl 44 2 (.slice aw wl.length cw) wl.length (pcells wl) :: blk bn 57 [.map (some mb)] :: mp encI (fun _ => True) mb (ienc (put2 D (wl.take q))) :: sl 3 1 (.slice (some ⟨g6, o6, none⟩) out.length cl) out.length (icells out) :: engP be bs t.e :: taleB b be k t :: all (recPs k.vs t.recs) :: X :: []) := fun W h => h.conv (by simp only [all]; ac_rfl)
         obtain ⟨g, o5, rfl, _, _, _⟩ := (hswf _ H12.out).sl_pair hqp
         have hq1 : ∀ W (M : List HProp), S w0 W (blk bn 57 [.map (some mb)] :: mp encI (fun _ => True) mb (ienc (put2 D (wl.take q))) :: sl 3 1 (.slice (some ⟨g6, o6, none⟩) out.length cl) out.length (icells out) :: engP be bs t.e :: taleB b be k t :: all (recPs k.vs t.recs) :: sl 44 2 (.slice (some ⟨g, o5, none⟩) wl.length cw) wl.length (pcells wl) :: M) → W.cell? ⟨bn, 0, none⟩ = some (.map (some mb)) ∧ W.cell? ⟨g, o5 + q * 2, none⟩ = some (.int .i64 p.1) ∧ W.cell? ⟨g, o5 + q * 2 + 1, none⟩ = some (.int .i64 p.2) := fun W M h => by
          obtain ⟨g', o', e1, _, f0, f1⟩ := (h.conv (M := sl 44 2 (.slice (some ⟨g, o5, none⟩) wl.length cw) wl.length (pcells wl) :: blk bn 57 [.map (some mb)] :: mp encI (fun _ => True) mb (ienc (put2 D (wl.take q))) :: sl 3 1 (.slice (some ⟨g6, o6, none⟩) out.length cl) out.length (icells out) :: engP be bs t.e :: taleB b be k t :: all (recPs k.vs t.recs) :: M) (by simp only [all]; ac_rfl)).sl_pair hqp
          cases e1
          exact ⟨h.blk_cell 0 rfl, f0, f1⟩
         have hup : ∀ W, S w0 W (blk bn 57 [.map (some mb)] :: mp encI (fun _ => True) mb (ienc (put2 D (wl.take q))) :: sl 3 1 (.slice (some ⟨g6, o6, none⟩) out.length cl) out.length (icells out) :: engP be bs t.e :: taleB b be k t :: all (recPs k.vs t.recs) :: sl 44 2 (.slice (some ⟨g, o5, none⟩) wl.length cw) wl.length (pcells wl) :: X :: []) → ∃ w', (Instr.mapUpdate 57 (.map (some mb)) (.int .i64 p.1) (.int .i64 p.2)).run Tryz.prog W = .ok () w' ∧ S w0 w' (blk bn 57 [.map (some mb)] :: mp encI (fun _ => True) mb (ienc (put2 D (wl.take (q + 1)))) :: sl 3 1 (.slice (some ⟨g6, o6, none⟩) out.length cl) out.length (icells out) :: engP be bs t.e :: taleB b be k t :: all (recPs k.vs t.recs) :: sl 44 2 (.slice (some ⟨g, o5, none⟩) wl.length cw) wl.length (pcells wl) :: X :: []) := fun W h => by
          obtain ⟨w', f1, f2⟩ := h.swap.put Tryz.keyInt Tryz.underlying57 p.1 trivial (Sep.encI p.2)
          rw [ienc_put, ← htq] at f2
          exact ⟨w', f1, f2.swap⟩
         have HQ := hid hq1; have HUP := hid hup; have HS0 := H12
         clear hq1 hup hqp htq hswf H12
         go_upto_region 36 with fail
         refine region_U (S := fun w' => w'.cell? ⟨bn, 0, none⟩ = some (.map (some mb)) ∧ w'.cell? ⟨g, o5 + q * 2, none⟩ = some (.int .i64 p.1) ∧ w'.cell? ⟨g, o5 + q * 2 + 1, none⟩ = some (.int .i64 p.2)) (u := 11) (by kernel_rfl) (HQ.out _ _ HS0.out.drew) (fun hHeld => ?_)
         refine anyU_take (i := 0) (v := ?_) rfl (by kernel_rfl) (fun _ _ _ h => h) (Or.inl ⟨by rfl, ?_⟩) hHeld ?_
         rotate_left
         ·(intro w hSw; (try dsimp only at hSw); go_simp) <;> with_reducible rfl
         try simp only [putU]
         refine anyU_take (i := 1) (v := ?_) rfl (by kernel_rfl) (fun _ _ _ h => h) (Or.inl ⟨by rfl, ?_⟩) hHeld ?_
         rotate_left
         ·(intro w hSw; (try dsimp only at hSw); go_simp) <;> with_reducible rfl
         try simp only [putU]
         refine anyU_take (i := 2) (v := ?_) rfl (by kernel_rfl) (fun _ _ _ h => h) (Or.inl ⟨by rfl, ?_⟩) hHeld ?_
         rotate_left
         ·(intro w hSw; (try dsimp only at hSw); go_simp) <;> with_reducible rfl
         try simp only [putU]
         refine anyU_take (i := 3) (v := ?_) rfl (by kernel_rfl) (fun _ _ _ h => h) (Or.inl ⟨by rfl, ?_⟩) hHeld ?_
         rotate_left
         ·(intro w hSw; (try dsimp only at hSw); go_simp) <;> with_reducible rfl
         try simp only [putU]
         refine anyU_take (i := 4) (v := ?_) rfl (by kernel_rfl) (fun _ _ _ h => h) (Or.inl ⟨by rfl, ?_⟩) hHeld ?_
         rotate_left
         ·(intro w hSw; (try dsimp only at hSw); go_simp) <;> with_reducible rfl
         try simp only [putU]
         refine anyU_take (i := 5) (v := ?_) rfl (by kernel_rfl) (fun _ _ _ h => h) (Or.inl ⟨by rfl, ?_⟩) hHeld ?_
         rotate_left
         ·(intro w hSw; (try dsimp only at hSw); go_simp) <;> with_reducible rfl
         try simp only [putU]
         refine anyU_take (i := 6) (v := ?_) rfl (by kernel_rfl) (fun _ _ _ h => h) (Or.inl ⟨by rfl, ?_⟩) hHeld ?_
         rotate_left
         ·(intro w hSw; (try dsimp only at hSw); go_simp) <;> with_reducible rfl
         try simp only [putU]
         refine anyU_take (i := 7) (v := ?_) rfl (by kernel_rfl) (fun _ _ _ h => h) (Or.inl ⟨by rfl, ?_⟩) hHeld ?_
         rotate_left
         ·(intro w hSw; (try dsimp only at hSw); go_simp) <;> with_reducible rfl
         try simp only [putU]
         refine anyU_take (i := 8) (v := ?_) rfl (by kernel_rfl) (fun _ _ _ h => h) (Or.inl ⟨by rfl, ?_⟩) hHeld ?_
         rotate_left
         ·(intro w hSw; (try dsimp only at hSw); go_simp) <;> with_reducible rfl
         try simp only [putU]
         refine anyU_take (i := 9) (v := ?_) rfl (by kernel_rfl) (fun _ _ _ h => h) (Or.inl ⟨by rfl, ?_⟩) hHeld ?_
         rotate_left
         ·(intro w hSw; (try dsimp only at hSw); go_simp) <;> with_reducible rfl
         try simp only [putU]
         refine anyU_take (i := 10) (v := ?_) rfl (by kernel_rfl) (fun _ _ _ h => h) (Or.inl ⟨by rfl, ?_⟩) hHeld ?_
         rotate_left
         ·(intro w hSw; (try dsimp only at hSw); go_simp) <;> with_reducible rfl
         try simp only [putU]
         have HS := hid HS0.out.drew
         clear hHeld
         refine anyU_world (fun w => Hid (S w0 w _)) HS (fun w1 HS => ?_)
         clear HS0
         refine anyU_next (rs := [11]) (by kernel_rfl) (by simp) ?_
         refine NextU.cons rfl (fun K hK => ?_) NextU.nil
         refine step_mapuE rfl 57 (.tmp 117) (.tmp 122) (.tmp 127) rfl (by rfl) (by rfl) (by rfl) (HUP.out _ HS.out) ?_
         intro w5 hs5
         have H6 := hid hs5
         clear hs5
         refine hK.out _ _ goneU ?_
         clear hK K
         try simp only [putU]
         refine anyU_done (by kernel_rfl) ?_ _
         clear HS HUP HQ
         go_wp2_with fail
         go_roundw
         case rel => exact ⟨q + 1, by omega, by go_num, H6⟩
         case measure => simp [intOf]; omega
        ·have h12 := H12.out
         rw [show q = wl.length by omega, List.take_length] at h12
         have h13 := (h12.conv (M := sl 44 2 (.slice aw wl.length cw) wl.length (pcells wl) :: blk bn 57 [.map (some mb)] :: mp encI (fun _ => True) mb (ienc (put2 D wl)) :: sl 3 1 (.slice (some ⟨g6, o6, none⟩) out.length cl) out.length (icells out) :: engP be bs t.e :: taleB b be k t :: all (recPs k.vs t.recs) :: X :: []) (by simp only [all]; ac_rfl)).tail
         rw [← HDN2.out] at h13
         clear h12
         have H13 := hid h13
         clear h13 H12 HDN2
         go_wp2_with fail
         go_roundw
         case rel => exact ⟨p + 1, by omega, by go_num, H13⟩
         case measure => simp [intOf]; omega
    ·have h8 := H8.out
     rw [show p = out.length by omega, List.take_length] at h8
     obtain ⟨D, hD⟩ : ∃ D, D = nowL t.e out := ⟨_, rfl⟩
     rw [← hD] at h8
     obtain ⟨av, hav⟩ : ∃ l, l = t.e.allV := ⟨_, rfl⟩
     have hlD : D.length = av.length := by rw [hD, hav]; exact HSE.out.len.symm
     have heach : ∀ p ∈ av, (mget D p.1).getD (-1) = p.2 := by rw [hD, hav]; exact HSE.out.all
     have hall := eall_any w0 _ be bs t.e (blk bn 57 [.map (some mb)] :: mp encI (fun _ => True) mb (ienc D) :: sl 3 1 (.slice al out.length cl) out.length (icells out) :: taleB b be k t :: all (recPs k.vs t.recs) :: X :: []) N [] HOK.out (h8.conv (by simp only [all]; ac_rfl))
     rw [← hav] at hall
     have c0 := h8.rot5.tale_see.1.e
     have HALL := hid hall; have HEACH := hid heach; have HLD := hid hlD
     clear h8 hall heach hlD hD hav H8
     go_wp2_with fail
     with_reducible refine HALL.out.mono ?_
     rintro r w8 ⟨v8, rfl, hs8⟩
     obtain ⟨aa, ca, rfl, da, ea, _⟩ := hs8.sl_val
     unfold maxLen at ea
     have hs9 : S w0 w8 (blk bn 57 [.map (some mb)] :: mp encI (fun _ => True) mb (ienc D) :: sl 44 2 (.slice aa av.length ca) av.length (pcells av) :: engP be bs t.e :: sl 3 1 (.slice al out.length cl) out.length (icells out) :: taleB b be k t :: all (recPs k.vs t.recs) :: X :: []) := hs8.conv (by simp only [all]; ac_rfl)
     have hlen := Tryz.lenJ hs9.tail.mapAt
     rw [HLD.out] at hlen
     have cn := hs9.blk_cell 0 rfl
     have H9 := hid hs9
     clear hs8 hs9 HALL c0
     go_wp2_with fail
     clear hlen cn
     go_loopw [17] (fun c wq => ∃ q : Nat, q ≤ av.length ∧ c = .int .i64 q ∧ Hid (S w0 wq (blk bn 57 [.map (some mb)] :: mp encI (fun _ => True) mb (ienc D) :: sl 44 2 (.slice aa av.length ca) av.length (pcells av) :: engP be bs t.e :: sl 3 1 (.slice al out.length cl) out.length (icells out) :: taleB b be k t :: all (recPs k.vs t.recs) :: X :: []))) (fun c _ => av.length - (intOf c).toNat)
     case atStart => exact ⟨0, Nat.zero_le _, rfl, H9⟩
     case round =>
      clear H9
      obtain ⟨q, hq, rfl, H9⟩ := hrel
      by_cases hql : q < av.length
      ·have hqp : av[q]? = some av[q] := by simp [hql]
       generalize av[q] = p at hqp
       have hval := HEACH.out p (List.mem_of_getElem? hqp)
       obtain ⟨g, o5, rfl, _, _, _⟩ := H9.out.tail.tail.sl_pair hqp
       have hq1 : ∀ W (M : List HProp), S w0 W (blk bn 57 [.map (some mb)] :: mp encI (fun _ => True) mb (ienc D) :: sl 44 2 (.slice (some ⟨g, o5, none⟩) av.length ca) av.length (pcells av) :: M) → W.cell? ⟨g, o5 + q * 2, none⟩ = some (.int .i64 p.1) ∧ W.cell? ⟨g, o5 + q * 2 + 1, none⟩ = some (.int .i64 p.2) := fun W M h => by
        obtain ⟨g', o', e1, _, f0, f1⟩ := h.tail.tail.sl_pair hqp
        cases e1
        exact ⟨f0, f1⟩
       have hat : ∀ W (M : List HProp), S w0 W (blk bn 57 [.map (some mb)] :: mp encI (fun _ => True) mb (ienc D) :: M) → Calls Tryz.prog 22 #[.int .i64 p.1, .pointer (some ⟨bn, 0, none⟩)] W fun r w' => r = .returned (.int .i64 p.2) ∧ W = w' := fun W M h => by
        have hc := at_any w0 W bn mb D p.1 _ h
        rw [hval] at hc
        exact hc
       have HQ := hid hq1; have HS0 := H9
       have HAT := hid hat
       clear hq1 hat hqp hval
       go_upto_region 44 with fail
       refine wp_region_held_drew (S := fun w' => w'.cell? ⟨g, o5 + q * 2, none⟩ = some (.int .i64 p.1) ∧ w'.cell? ⟨g, o5 + q * 2 + 1, none⟩ = some (.int .i64 p.2)) (by kernel_rfl) (HQ.out _ _ HS0.out.drew) (fun hHeld => ?_)
       refine wpAnyH_take (i := 0) (v := ?_) rfl (by kernel_rfl) (by kernel_rfl) (by kernel_rfl) (fun _ _ _ h => h) (Or.inl ⟨by rfl, ?_⟩) hHeld ?_
       rotate_left
       ·(intro w hSw; (try dsimp only at hSw); go_simp) <;> with_reducible rfl
       try simp only [putU]
       refine wpAnyH_take (i := 1) (v := ?_) rfl (by kernel_rfl) (by kernel_rfl) (by kernel_rfl) (fun _ _ _ h => h) (Or.inl ⟨by rfl, ?_⟩) hHeld ?_
       rotate_left
       ·(intro w hSw; (try dsimp only at hSw); go_simp) <;> with_reducible rfl
       try simp only [putU]
       refine wpAnyH_take (i := 2) (v := ?_) rfl (by kernel_rfl) (by kernel_rfl) (by kernel_rfl) (fun _ _ _ h => h) (Or.inl ⟨by rfl, ?_⟩) hHeld ?_
       rotate_left
       ·(intro w hSw; (try dsimp only at hSw); go_simp) <;> with_reducible rfl
       try simp only [putU]
       refine wpAnyH_take (i := 3) (v := ?_) rfl (by kernel_rfl) (by kernel_rfl) (by kernel_rfl) (fun _ _ _ h => h) (Or.inl ⟨by rfl, ?_⟩) hHeld ?_
       rotate_left
       ·(intro w hSw; (try dsimp only at hSw); go_simp) <;> with_reducible rfl
       try simp only [putU]
       refine wpAnyH_take (i := 4) (v := ?_) rfl (by kernel_rfl) (by kernel_rfl) (by kernel_rfl) (fun _ _ _ h => h) (Or.inl ⟨by rfl, ?_⟩) hHeld ?_
       rotate_left
       ·(intro w hSw; (try dsimp only at hSw); go_simp) <;> with_reducible rfl
       try simp only [putU]
       refine wpAnyH_take (i := 5) (v := ?_) rfl (by kernel_rfl) (by kernel_rfl) (by kernel_rfl) (fun _ _ _ h => h) (Or.inl ⟨by rfl, ?_⟩) hHeld ?_
       rotate_left
       ·(intro w hSw; (try dsimp only at hSw); go_simp) <;> with_reducible rfl
       try simp only [putU]
       refine wpAnyH_take (i := 7) (v := ?_) rfl (by kernel_rfl) (by kernel_rfl) (by kernel_rfl) (fun _ _ _ h => h) (Or.inl ⟨by rfl, ?_⟩) hHeld ?_
       rotate_left
       ·(intro w hSw; (try dsimp only at hSw); go_simp) <;> with_reducible rfl
       try simp only [putU]
       refine wpAnyH_take (i := 8) (v := ?_) rfl (by kernel_rfl) (by kernel_rfl) (by kernel_rfl) (fun _ _ _ h => h) (Or.inl ⟨by rfl, ?_⟩) hHeld ?_
       rotate_left
       ·(intro w hSw; (try dsimp only at hSw); go_simp) <;> with_reducible rfl
       try simp only [putU]
       refine wpAnyH_take (i := 9) (v := ?_) rfl (by kernel_rfl) (by kernel_rfl) (by kernel_rfl) (fun _ _ _ h => h) (Or.inl ⟨by rfl, ?_⟩) hHeld ?_
       rotate_left
       ·(intro w hSw; (try dsimp only at hSw); go_simp) <;> with_reducible rfl
       try simp only [putU]
       refine wpAnyH_take (i := 10) (v := ?_) rfl (by kernel_rfl) (by kernel_rfl) (by kernel_rfl) (fun _ _ _ h => h) (Or.inl ⟨by rfl, ?_⟩) hHeld ?_
       rotate_left
       ·(intro w hSw; (try dsimp only at hSw); go_simp) <;> with_reducible rfl
       try simp only [putU]
       refine wpAnyH_take (i := 11) (v := ?_) rfl (by kernel_rfl) (by kernel_rfl) (by kernel_rfl) (fun _ _ _ h => h) (Or.inl ⟨by rfl, ?_⟩) hHeld ?_
       rotate_left
       ·(intro w hSw; (try dsimp only at hSw); go_simp) <;> with_reducible rfl
       try simp only [putU]
       have HS := hid HS0.out.drew
       clear hHeld
       refine anyH_world (fun w => Hid (S w0 w _)) HS (fun w1 HS => ?_)
       clear HS0
       refine wpAnyH_ready (rs := [6]) (by kernel_rfl) (by simp) ?_
       refine AllReadyH.cons rfl (fun K hK => ?_) AllReadyH.nil
       go_simp
       go_at_call 22
       with_reducible refine (HAT.out _ _ HS.out).mono ?_
       rintro r w9 ⟨rfl, rfl⟩
       refine hK.out _ _ (HQ.out _ _ HS.out) (fun _ => ?_)
       clear hK K
       refine wpAnyH_take (i := 12) (v := ?_) rfl (by kernel_rfl) (by kernel_rfl) (by kernel_rfl) (fun _ _ _ h => h) (Or.inl ⟨by rfl, ?_⟩) (HQ.out _ _ HS.out) ?_
       rotate_left
       ·(intro w hSw; (try dsimp only at hSw); go_simp) <;> with_reducible rfl
       try simp only [putU]
       refine wpAnyH_done (by kernel_rfl) ?_ _
       have H11 := HS
       clear HS HAT HQ
       go_wp2_with fail
       go_roundw
       case rel => exact ⟨q + 1, by omega, by go_num, H11⟩
       case measure => simp [intOf]; omega
      ·go_wp2_with fail
       go_ret
       exact ⟨rfl, H9.out.1⟩
end Go.Proofs.YtcbokjocahnlcaaGreatDoor
namespace Go.Proofs.YtcbokjocahnlcaaGreatDoor.engineStrict
open Go Go.ChangeShapes Go.WideShapes Go.ChangeAt Go.RowKit Go.Sep Go.Deep
instance : Inhabited Act1 := ⟨⟨0, 0, 0, 0⟩⟩
theorem cells1 : Tryz.prog.cellsOf 28 = 4 := by kernel_rfl
theorem cells2 : Tryz.prog.cellsOf 3 = 1 := by kernel_rfl
theorem elem {H : Type} {enc : TypeId × Value → H} {w : World} (cs : List Value) (k : Nat) (y : DataW H × List MemPlace) (h : DataW.trod enc Tryz.prog w 0 (fun _ => true) true k 28 cs = some y) : ∃ p : Act1, acells p = cs := by
 obtain ⟨y0, y1, y2, y3, n, _, hl, g0, g1, g2, g3⟩ := Joins.trod_struct4 Tryz.underlying28 h
 rw [cells1] at hl
 simp only [cells2] at g0 g1 g2 g3
 match cs, hl with
 | [a, b, c, d], _ =>
  obtain ⟨n0, e0, _⟩ := DataW.trod_int Tryz.underlying3 (by simpa using g0)
  obtain ⟨n1, e1, _⟩ := DataW.trod_int Tryz.underlying3 (by simpa using g1)
  obtain ⟨n2, e2, _⟩ := DataW.trod_int Tryz.underlying3 (by simpa using g2)
  obtain ⟨n3, e3, _⟩ := DataW.trod_int Tryz.underlying3 (by simpa using g3)
  simp only [List.cons.injEq, and_true] at e0 e1 e2 e3
  exact ⟨⟨n0, n1, n2, n3⟩, by rw [e0, e1, e2, e3]; rfl⟩
set_option maxRecDepth 100000 in
theorem contract (H : Type) (enc : TypeId × Value → H) (W : World) (base : Nat) (args : Array Value) (ds gs : List (DataW H)) (before : List MemPlace)
  (hval : ∀ (j : Nat) t v, Tryz.f5.params[j]? = some t → args[j]? = some v → Value.okWide Tryz.prog W .any base t v)
  (hW : DataW.Whole enc Tryz.prog Tryz.f5.params.toList Rows.engineStrictSpec.vars false W args.toList ds gs before) (hL : laidMetH Tryz.prog Rows.engineStrictRow.laid W) :
  Calls Tryz.prog 5 args W fun e W' => ∃ v, e = .returned v ∧ Rows.engineStrictSpec.post enc Tryz.prog Tryz.f5 false true false false W args v W' := by
 have hW' := hW
 obtain ⟨p, q, hA0, hV, rfl, hfz, hnd⟩ := hW
 have hA : DataW.TrodAll enc Tryz.prog W 0 (fun _ => true) true Tryz.f5.params.toList args.toList ds p := hA0
 rw [Tryz.params5] at hA hval
 obtain ⟨v0, vs0, d0, ds0, p0, q0, hargs, rfl, rfl, h0, r0⟩ := trodAll_cons hA
 obtain ⟨rfl, rfl, rfl⟩ := trodAll_nil r0
 obtain rfl : args = #[v0] := Array.ext' hargs
 obtain ⟨a0, len0, cap0, rfl⟩ := okWide_slice Tryz.underlying22 (hval 0 22 _ rfl rfl)
 obtain ⟨fuel, hf⟩ := h0
 clear hA0 hA
 have hE := handle_of_laid hL
 simp only [List.append_nil] at hW'
 obtain ⟨v, ls, hv, hr⟩ := argF_of acells Tryz.underlying22 cells1 (by omega) elem hf
 obtain rfl : Value.slice a0 len0 cap0 = v := by simpa [Value.cells] using hv
 refine (strict2_any W _ ls hE hr).mono fun e W' ⟨he, hb⟩ => ⟨_, he, ?_⟩
 exact post_law Tryz.laidOut (by kernel_rfl) (by kernel_rfl) Tryz.underlying4 rfl rfl hW' hb
noncomputable def laidWorld (os : Os) : World :=
 { World.holding Tryz.prog os ⟨#[], #[], []⟩ with heap := (World.holding Tryz.prog os ⟨#[], #[], []⟩).heap.modify 0 fun
   | .cells _ t frozen => .cells #[.iface 156 (.agg #[.pointer (some ⟨1, 39, none⟩)])] t frozen
   | o => o }
theorem laid_met (os : Os) : laidMetH Tryz.prog Rows.engineStrictRow.laid ((laidWorld os).forCall (fun _ _ => 0) ⟨#[], #[.slice none 0 0], []⟩).memory :=
 laidMetH_of_parts (laidMet_nil _ _) (by kernel_rfl)
theorem reads (os : Os) {H : Type} (enc : TypeId × Value → H) : ∃ places, DataW.whole enc Tryz.prog ((laidWorld os).forCall (fun _ _ => 0) ⟨#[], #[.slice none 0 0], []⟩).memory Tryz.f5.params.toList Rows.engineStrictSpec.vars false #[Value.slice none 0 0].toList 8 = some ([.nil], [], places) :=
 ⟨[], by kernel_rfl⟩
set_option maxRecDepth 100000 in
theorem lifted (os : Os) (started : os.Started) (H : Type) (enc : TypeId × Value → H) (F : Stop.Interp) :
  ReturnsInHanded {} Tryz.checked os 5 .any ((OpenSpec.ofChange Rows.engineStrictSpec).preRow enc Tryz.prog Tryz.f5 Rows.engineStrictRow.domain false Rows.engineStrictRow.laid) (((OpenSpec.ofChange Rows.engineStrictSpec).at F).post enc Tryz.prog Tryz.f5 false true false false) := by
 obtain ⟨places, hx⟩ := reads os enc
 refine returnsInHanded_of_row (C := Tryz.checked) (s := OpenSpec.ofChange Rows.engineStrictSpec) Tryz.own started (by kernel_rfl) Tryz.func5
  (witness_row_at (enc := enc) (C := Tryz.checked) false (laidWorld os) #[.slice none 0 0] rfl (by kernel_rfl) (by kernel_rfl) (by kernel_rfl)
   (OpenSpec.preRow_of_cond 8 hx (by kernel_rfl) (fun k hk => by cases hk) (by kernel_rfl) (laid_met os))) ?_
 intro W base args ds gs before hval hW _ _ _ hL _ _
 exact contract H enc W base args ds gs before hval hW hL
theorem said : Rows.EngineStrictSaid :=
 OpenClaim.holds_of_cond 5 Tryz.f5 rfl rfl rfl rfl rfl rfl rfl ⟨rfl, rfl, rfl, rfl, rfl⟩ rfl rfl rfl rfl rfl (by kernel_rfl) Tryz.func5 (by kernel_rfl)
  (of_decide_eq_true (by kernel_rfl)) (by unfold Func.isWrapper; first | (rw [if_pos (by decide +kernel)]; kernel_rfl) | (rw [if_neg (by decide +kernel)]; exact ⟨rfl, rfl⟩))
  (fun os started H enc _ F => by rw [OpenClaim.pre_eq_preRow]; exact lifted os started H enc F)
theorem plain (f : FuncId) (fn : Func) (hf : Tryz.pinned.checked.prog.funcNamed "interleaf/interleafkeep.EngineStrict" = some f) (hfn : Tryz.pinned.checked.prog.funcs[f]? = some fn) :
  true = Tryz.pinned.checked.prog.looks [] ∧ ∀ (j : Nat) t, fn.params[j]? = some t → Tryz.pinned.checked.prog.wantsStandIn t = false := by
 obtain rfl : f = 5 := Option.some.inj ((show Tryz.prog.funcNamed "interleaf/interleafkeep.EngineStrict" = some 5 by kernel_rfl).symm.trans hf) |>.symm
 obtain rfl : fn = Tryz.f5 := (Option.some.inj (Tryz.func5.symm.trans hfn)).symm
 refine ⟨by kernel_rfl, fun j t ht => ?_⟩
 rw [Tryz.params5] at ht
 have hall : (#[22] : Array Nat).all (fun t => decide (Tryz.prog.wantsStandIn t = false)) = true := by kernel_rfl
 exact (of_decide_eq_true (Array.all_eq_true_iff_forall_mem.1 hall t (Array.mem_of_getElem? ht)) : Tryz.prog.wantsStandIn t = false)
theorem card : Rows.EngineStrictCardSaid :=
 Claim7.holds_tied_plain_at .later [] _ _ _ _ said (fun _ h => by cases h) (by kernel_rfl) (fun _ h => by cases h) engineStrict_row_tie rfl ⟨rfl, rfl⟩ (by kernel_rfl) rfl plain (by kernel_rfl)
end Go.Proofs.YtcbokjocahnlcaaGreatDoor.engineStrict
