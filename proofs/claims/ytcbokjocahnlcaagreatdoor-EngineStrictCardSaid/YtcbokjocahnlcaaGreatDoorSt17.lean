/- order.Edges: the library's search and sort at its slices. -/
import Derived.Test.YtcbokjocahnlcaaGreatDoorSt0
import Derived.Test.YtcbokjocahnlcaaGreatDoorSt16
import Derived.Test.YtcbokjocahnlcaaGreatDoorSt4
import Derived.Test.YtcbokjocahnlcaaGreatDoorSt2
import Derived.Deep.MidRow
import Derived.Shelf.SlSortCmp.NoneTotal
import Derived.Ground.SlsfProg
import Derived.Shelf.SlicesQ.IndexFunc
import Derived.Ground.SlgfProg
import Derived.Test.YtcbokjocahnlcaaGreatDoorProg
import Derived.Test.YtcbokjocahnlcaaGreatDoorSt3
import Derived.Test.YtcbokjocahnlcaaGreatDoorSt1
import Derived.Deep.LoopGhost
/- interleafkeep's tale, when all are strict: those of a line, put one behind the other, read what they read, and leave what there is. No walk in sight. -/
namespace Go.Proofs.YtcbokjocahnlcaaGreatDoor
open Go Go.RowKit Go.Sep
section plain
variable {α : Type} {f : α → Int}
theorem sorted_eq : ∀ {a b : List α}, a.Pairwise (fun x y => f x < f y) → b.Pairwise (fun x y => f x < f y) → (∀ x, x ∈ a ↔ x ∈ b) → a = b
 | [], [], _, _, _ => rfl
 | [], y :: b, _, _, h => by have := (h y).2 (by simp); simp at this
 | x :: a, [], _, _, h => by have := (h x).1 (by simp); simp at this
 | x :: a, y :: b, ha, hb, h => by
  have ha' := List.pairwise_cons.1 ha
  have hb' := List.pairwise_cons.1 hb
  have e : x = y := by
   rcases List.mem_cons.1 ((h x).1 (by simp)) with e | hx
   ·exact e
   ·rcases List.mem_cons.1 ((h y).2 (by simp)) with e | hy
    ·exact e.symm
    ·have := ha'.1 _ hy
     have := hb'.1 _ hx
     omega
  subst e
  congr 1
  refine sorted_eq ha'.2 hb'.2 fun p => ⟨fun hp => ?_, fun hp => ?_⟩
  ·rcases List.mem_cons.1 ((h p).1 (List.mem_cons_of_mem _ hp)) with e | hb2
   ·subst e; have := ha'.1 _ hp; omega
   ·exact hb2
  ·rcases List.mem_cons.1 ((h p).2 (List.mem_cons_of_mem _ hp)) with e | ha2
   ·subst e; have := hb'.1 _ hp; omega
   ·exact ha2
theorem last_max {l : List α} (hs : l.Pairwise fun x y => f x < f y) {x : α} (hx : x ∈ l) (hm : ∀ y ∈ l, f y ≤ f x) : l.getLast? = some x := by
 obtain ⟨i, hi, rfl⟩ := List.getElem_of_mem hx
 have h0 : 0 < l.length := by omega
 rw [List.getLast?_eq_getElem?]
 have h1 : l[l.length - 1]? = some l[l.length - 1] := List.getElem?_eq_getElem (by omega)
 rw [h1]
 by_cases h2 : i = l.length - 1
 ·subst h2; rfl
 ·have := List.pairwise_iff_getElem.1 hs i (l.length - 1) hi (by omega) (by omega)
  have := hm l[l.length - 1] (List.getElem_mem _)
  omega
end plain
section
variable {e : Eng} {N M : Nat} {C : List Nat} {t : Tale} {out : List Int} {K : Int}
def put2 (D l : List (Int × Int)) : List (Int × Int) := l.foldl (fun D q => mput D q.1 q.2) D
def nowL (e : Eng) (P : List Int) : List (Int × Int) := P.foldl (fun D n => put2 D (e.tx (n.toNat - 1)).written) []
theorem nowL_snoc (P : List Int) (n : Int) : nowL e (P ++ [n]) = put2 (nowL e P) (e.tx (n.toNat - 1)).written := by simp [nowL]
theorem put2_snoc (D l : List (Int × Int)) (q : Int × Int) : put2 D (l ++ [q]) = mput (put2 D l) q.1 q.2 := by simp [put2]
theorem put2_get : ∀ (l D : List (Int × Int)), (l.map (·.1)).Nodup → mget (put2 D l) K = (mget l K).or (mget D K)
 | [], _, _ => by simp [put2, mget_nil]
 | q :: l, D, hn => by
  rw [List.map_cons, List.nodup_cons] at hn
  show mget (put2 (mput D q.1 q.2) l) K = _
  rw [put2_get l _ hn.2, mget_cons, mget_put]
  by_cases h : K = q.1
  ·have : mget l K = none := by rw [mget_none_iff, h]; exact hn.1
   rw [this, if_pos h, if_pos h.symm]; rfl
  ·rw [if_neg h, if_neg (fun x => h x.symm)]
theorem put2_nodup : ∀ (l D : List (Int × Int)), (D.map (·.1)).Nodup → ((put2 D l).map (·.1)).Nodup
 | [], _, h => h
 | _ :: l, _, h => put2_nodup l _ (keys_put_nodup h _ _)
theorem nowL_nodup (P : List Int) : ((nowL e P).map (·.1)).Nodup := by
 refine snoc_induct (P := fun P => ((nowL e P).map (·.1)).Nodup) (by simp [nowL]) (fun P n ih => ?_) P
 rw [nowL_snoc]
 exact put2_nodup _ _ ih
def wroteI (e : Eng) (K : Int) (n : Int) : Bool := (e.tx (n.toNat - 1)).wrote K
theorem OkT.keysN (h : OkT N e []) (i : Nat) : ((e.tx i).writes.map (·.1)).Nodup := by
 by_cases hi : i < e.txs.length
 ·exact (h.at hi).keys
 ·rw [Eng.tx_far hi]; simp [Tx.zero]
theorem nowL_get (h : OkT N e []) (P : List Int) : mget (nowL e P) K = (P.filter (wroteI e K)).getLast?.bind fun n => mget (e.tx (n.toNat - 1)).writes K := by
 refine snoc_induct (P := fun P => mget (nowL e P) K = (P.filter (wroteI e K)).getLast?.bind fun n => mget (e.tx (n.toNat - 1)).writes K) rfl (fun P n ih => ?_) P
 rw [nowL_snoc, put2_get _ _ (written_nodup (h.keysN _)), mget_written (h.keysN _), ih, List.filter_append]
 by_cases hw : wroteI e K n = true
 ·have h1 : [n].filter (wroteI e K) = [n] := by simp [hw]
  rw [h1, List.getLast?_append]
  unfold wroteI Tx.wrote at hw
  obtain ⟨v, hv⟩ := Option.isSome_iff_exists.1 hw
  simp [hv]
 ·have h1 : [n].filter (wroteI e K) = [] := by simp [hw]
  rw [h1, List.append_nil]
  have : mget (e.tx (n.toNat - 1)).writes K = none := not_wrote hw
  rw [this]; rfl
structure LineOf (e : Eng) (out : List Int) : Prop where
 nodup : out.Nodup
 perm : out.Perm (txsOf e.hist)
 before : ∀ p, Edge e.hist p → Before out p.1 p.2
theorem lineOf_of {es : List (Int × Int)} (h : Done e C) (he : EdgesOf e.hist es) (hl : lineL es (txsOf e.hist).length (txsOf e.hist) = some out) : LineOf e out := by
 obtain ⟨h1, h2⟩ := lineL_some es _ (txsOf_nodup _) hl
 refine ⟨h1.nodup_iff.2 (txsOf_nodup _), h1, fun p hp => ?_⟩
 obtain ⟨⟨o1, ho1, e1⟩, o2, ho2, e2⟩ := hp.txs fun o ho => (hist_good h o ho).2.1
 exact h2 p ((he.2 p).2 hp) ((txsOf_mem _ _).2 ⟨o1, ho1, e1⟩) ((txsOf_mem _ _).2 ⟨o2, ho2, e2⟩) hp.1
theorem pos_at (hn : out.Nodup) {i : Nat} {x : Int} (hx : out[i]? = some x) : posN out x = (i : Int) + 1 := by
 rcases posN_spec out x with ⟨h1, _⟩ | ⟨j, h1, h2⟩
 ·exact absurd (List.mem_of_getElem? hx) h1
 ·rw [h2, nodup_ix hn h1 hx]
theorem pos_before (hn : out.Nodup) {a b : Int} (h : Before out a b) : posN out a < posN out b := by
 obtain ⟨i, j, h1, h2, h3⟩ := h
 rw [pos_at hn h1, pos_at hn h2]; omega
theorem out_sorted (hn : out.Nodup) : out.Pairwise fun a b => posN out a < posN out b := by
 rw [List.pairwise_iff_getElem]
 intro i j hi hj hij
 rw [pos_at hn (i := i) (by simp [hi]), pos_at hn (i := j) (by simp [hj])]; omega
theorem out_mem (hL : LineOf e out) {x : Int} : x ∈ out ↔ ∃ o ∈ e.hist, o.tx = x := by rw [hL.perm.mem_iff, txsOf_mem]
theorem wrote_told {c : Nat} (hw : (e.tx c).wrote K = true) : ∃ o ∈ toldL ((c : Int) + 1) (e.tx c), o.wr = true ∧ o.key = K := toldL_wr.2 hw
theorem chain_lt {W : List Int} {g : Int → Int} (h : ∀ i (a b : Int), W[i]? = some a → W[i + 1]? = some b → g a < g b) : W.Pairwise fun a b => g a < g b := by
 rw [List.pairwise_iff_getElem]
 have : ∀ d i (hi : i < W.length) (hj : i + d + 1 < W.length), g W[i] < g W[i + d + 1] := by
  intro d
  induction d with
  | zero => intro i hi hj; exact h i _ _ (by simp [hi]) (by simp [hj])
  | succ d ih =>
   intro i hi hj
   have h1 := ih i hi (by omega)
   have e1 : W[i + d + 1]? = some (W[i + d + 1]'(by omega)) := List.getElem?_eq_getElem (by omega)
   have e2 : W[i + d + 1 + 1]? = some (W[i + d + 1 + 1]'(by omega)) := List.getElem?_eq_getElem (by omega)
   have h2 := h (i + d + 1) _ _ e1 e2
   have h3 : g (W[i + (d + 1) + 1]'hj) = g (W[i + d + 1 + 1]'(by omega)) := rfl
   omega
 intro i j hi hj hij
 obtain ⟨d, rfl⟩ : ∃ d, j = i + d + 1 := ⟨j - i - 1, by omega⟩
 exact this d i hi hj
theorem writers_line (h : Done e C) (hL : LineOf e out) (K : Int) : writers e.hist K = out.filter (wroteI e K) := by
 refine sorted_eq (f := posN out) (chain_lt fun i a b ha hb => ?_) ((out_sorted hL.nodup).sublist List.filter_sublist) fun x => ?_
 ·have hW := h.writers K
  have hn : (writers e.hist K).Nodup := by rw [hW]; exact numI_nodup (wrotes_nodup h K)
  refine pos_before hL.nodup (hL.before (a, b) ⟨fun hab => ?_, fun h0 => ?_, .inl ⟨K, i, ha, hb⟩⟩)
  ·have hab : a = b := hab
   subst hab
   have := nodup_ix hn ha hb
   omega
  ·have h0 : a = 0 := h0
   rw [hW] at ha
   obtain ⟨c, _, hc⟩ := map_at ha
   omega
 ·rw [h.writers, List.mem_map, List.mem_filter, out_mem hL]
  constructor
  ·rintro ⟨c, hc, rfl⟩
   obtain ⟨h1, h2⟩ := h.mem.1 hc
   obtain ⟨o, ho, _, _⟩ := wrote_told h2
   refine ⟨⟨o, (hist_mem h).2 ⟨c, h1, ho⟩, toldL_tx o ho⟩, ?_⟩
   unfold wroteI numI
   rw [show ((c : Int) + 1).toNat - 1 = c by omega]; exact h2
  ·rintro ⟨⟨o, ho, rfl⟩, h2⟩
   obtain ⟨_, _, _, _, c, hc, hcs⟩ := hist_good h o ho
   unfold wroteI at h2
   rw [hc, show ((c : Int) + 1).toNat - 1 = c by omega] at h2
   exact ⟨c, h.mem.2 ⟨hcs, h2⟩, hc.symm⟩
theorem last_read (h : Done e C) (hL : LineOf e out) {p n : Nat} (hp : out[p]? = some ((n : Int) + 1)) (hn : (e.tx n).state = 2) {r : Int × Int} (hr : r ∈ (e.tx n).reads) :
  ((out.take p).filter (wroteI e r.1)).getLast? = if r.2 = 0 then none else some r.2 := by
 have hW := writers_line h hL r.1
 have hWs : (writers e.hist r.1).Pairwise fun a b => posN out a < posN out b := by rw [hW]; exact (out_sorted hL.nodup).sublist List.filter_sublist
 have hpn := pos_at hL.nodup hp
 have hF : ∀ x, x ∈ (out.take p).filter (wroteI e r.1) → x ∈ writers e.hist r.1 ∧ posN out x < posN out ((n : Int) + 1) := fun x hx => by
  obtain ⟨h1, h2⟩ := List.mem_filter.1 hx
  obtain ⟨i, hi⟩ := List.getElem?_of_mem h1
  have hil := (List.getElem?_eq_some_iff.1 hi).1
  rw [List.length_take] at hil
  rw [List.getElem?_take_of_lt (by omega)] at hi
  rw [hpn, pos_at hL.nodup hi]
  exact ⟨by rw [hW]; exact List.mem_filter.2 ⟨List.mem_of_getElem? hi, h2⟩, by omega⟩
 have hFs : ((out.take p).filter (wroteI e r.1)).Pairwise fun a b => posN out a < posN out b := ((out_sorted hL.nodup).sublist (List.take_sublist _ _)).sublist List.filter_sublist
 have hro := h.stern.reads n (two_lt hn) (by rw [hn]; decide) r hr
 have ho : (⟨(n : Int) + 1, r.1, false, r.2⟩ : Op1) ∈ e.hist := (hist_mem h).2 ⟨n, hn, by unfold toldL; exact List.mem_append_left _ (List.mem_map.2 ⟨r, hr, rfl⟩)⟩
 have hnext : ∀ q, nextOf (writers e.hist r.1) r.2 = some q → posN out ((n : Int) + 1) ≤ posN out q := fun q hq => by
  by_cases hnq : (n : Int) + 1 = q
  ·rw [hnq]; exact Int.le_refl _
  ·have : posN out ((n : Int) + 1) < posN out q := pos_before hL.nodup (hL.before ((n : Int) + 1, q) ⟨hnq, by show (n : Int) + 1 ≠ 0; omega, .inr ⟨_, ho, rfl, .inr ⟨rfl, hq⟩⟩⟩)
   omega
 have hle : ∀ {i j : Nat} {a b : Int}, (writers e.hist r.1)[i]? = some a → (writers e.hist r.1)[j]? = some b → i ≤ j → posN out a ≤ posN out b := fun {i j a b} ha hb hij => by
  obtain ⟨h1, rfl⟩ := List.getElem?_eq_some_iff.1 ha
  obtain ⟨h2, rfl⟩ := List.getElem?_eq_some_iff.1 hb
  by_cases hij2 : i = j
  ·subst hij2; exact Int.le_refl _
  ·have := List.pairwise_iff_getElem.1 hWs i j h1 h2 (by omega)
   omega
 rcases hro.2 with ⟨h0, _⟩ | ⟨f, h1, h2, h3⟩
 ·rw [if_pos h0]
  have : (out.take p).filter (wroteI e r.1) = [] := by
   refine List.eq_nil_iff_forall_not_mem.2 fun x hx => ?_
   obtain ⟨hx1, hx2⟩ := hF x hx
   obtain ⟨j, hj⟩ := List.getElem?_of_mem hx1
   have hno : r.2 ∉ writers e.hist r.1 := fun hm => by
    rw [h.writers] at hm
    obtain ⟨c, _, hc⟩ := List.mem_map.1 hm
    unfold numI at hc
    omega
   have hl0 : 0 < (writers e.hist r.1).length := by have := (List.getElem?_eq_some_iff.1 hj).1; omega
   have hw0 : (writers e.hist r.1)[0]? = some ((writers e.hist r.1)[0]) := by simp [hl0]
   have hq := hnext _ (show nextOf (writers e.hist r.1) r.2 = some ((writers e.hist r.1)[0]) by unfold nextOf; rw [idx_no hno]; exact hw0)
   have := hle hw0 hj (Nat.zero_le _)
   omega
  rw [this]; rfl
 ·rw [if_neg (by omega)]
  have hfm : r.2 ∈ writers e.hist r.1 := by rw [h.writers, h1]; exact List.mem_map.2 ⟨f, h.mem.2 ⟨h3.2.1, h2⟩, rfl⟩
  have hfn : r.2 ≠ (n : Int) + 1 := fun hx => by
   obtain rfl : f = n := by omega
   have := h3.2.2.1
   have := h.span f hn
   omega
  have hfp := pos_before hL.nodup (hL.before (r.2, (n : Int) + 1) ⟨hfn, by show r.2 ≠ 0; omega, .inr ⟨_, ho, rfl, .inl ⟨rfl, rfl⟩⟩⟩)
  have hfp : posN out r.2 < posN out ((n : Int) + 1) := hfp
  have hfF : r.2 ∈ (out.take p).filter (wroteI e r.1) := by
   rw [hW] at hfm
   obtain ⟨g1, g2⟩ := List.mem_filter.1 hfm
   refine List.mem_filter.2 ⟨?_, g2⟩
   obtain ⟨i, hi⟩ := List.getElem?_of_mem g1
   rw [pos_at hL.nodup hi, hpn] at hfp
   exact List.mem_of_getElem? (i := i) (by rw [List.getElem?_take_of_lt (by omega)]; exact hi)
  refine last_max (f := posN out) hFs hfF fun x hx => Classical.byContradiction fun hn2 => ?_
  obtain ⟨hx1, hx2⟩ := hF x hx
  obtain ⟨j, hj⟩ := List.getElem?_of_mem hfm
  obtain ⟨j', hj'⟩ := List.getElem?_of_mem hx1
  have hjj : j < j' := by
   rcases Nat.lt_or_ge j j' with h4 | h4
   ·exact h4
   ·have := hle hj' hj h4; omega
  have hjl := (List.getElem?_eq_some_iff.1 hj').1
  have hnd : (writers e.hist r.1).Nodup := by rw [h.writers]; exact numI_nodup (wrotes_nodup h r.1)
  have hl1 : j + 1 < (writers e.hist r.1).length := by omega
  have hw1 : (writers e.hist r.1)[j + 1]? = some ((writers e.hist r.1)[j + 1]) := by simp [hl1]
  have hq := hnext _ (show nextOf (writers e.hist r.1) r.2 = some ((writers e.hist r.1)[j + 1]) by
   unfold nextOf; rw [idx_at hnd hj, show ((j : Int) + 1).toNat = j + 1 by omega]; exact hw1)
  have := hle hw1 hj' (by omega)
  omega
structure Serial (t : Tale) (out : List Int) : Prop where
 each : ∀ p n, out[p]? = some n → ∃ i : Nat, n = (i : Int) + 1 ∧ i < t.e.txs.length ∧ (t.e.tx i).state = 2 ∧ ∀ r ∈ (t.one i).reads, (mget (nowL t.e (out.take p)) r.1).getD (-1) = r.2
 len : t.e.allV.length = (nowL t.e out).length
 all : ∀ p ∈ t.e.allV, (mget (nowL t.e out) p.1).getD (-1) = p.2
theorem last_now (h : Done e C) (hL : LineOf e out) (hok : OkT N e []) {K : Int} (hK : keyOk K) : mget (nowL e out) K = (readV (e.row K) e.last).map (·.2) := by
 rw [nowL_get hok, ← writers_line h hL, h.writers, List.getLast?_map]
 have ht := h.stern.top K hK
 have hend : ∀ k, (e.tx k).state = 2 → (e.tx k).ended ≤ e.count := fun k hk => (h.sure.cnt k (two_lt hk)).2.1
 cases hr : readV (e.row K) e.last with
 | none =>
  rw [hr] at ht
  have : wrotes e C K = [] := List.eq_nil_iff_forall_not_mem.2 fun k hk => by
   obtain ⟨h1, h2⟩ := h.mem.1 hk
   have : e.count + 1 < (e.tx k).ended := ht k h1 h2
   have := hend k h1
   omega
  rw [this]; rfl
 | some p =>
  rw [hr] at ht
  obtain ⟨f, f1, f2, m0, m1, m2, m3⟩ := ht
  have hfw : (e.tx f).wrote K = true := by unfold Tx.wrote; rw [f2]; rfl
  have hl : (wrotes e C K).getLast? = some f := last_max (f := fun c => (e.tx c).ended) (h.sorted K) (h.mem.2 ⟨m1, hfw⟩) fun k hk => by
   obtain ⟨h1, h2⟩ := h.mem.1 hk
   by_cases hkf : k = f
   ·subst hkf; exact Int.le_refl _
   ·rcases m3 k hkf h1 h2 with h3 | h3
    ·exact Int.le_of_lt h3
    ·have := hend k h1; omega
  rw [hl]
  simp only [Option.map_some, Option.bind_some, numI]
  rw [show ((f : Int) + 1).toNat - 1 = f by omega, f2]
theorem StrictT.serial (h : StrictT M t) (hok : OkT N t.e []) (hD : Done t.e C) (hL : LineOf t.e out) : Serial t out := by
 refine ⟨fun p n hp => ?_, ?_, fun p hp => ?_⟩
 ·obtain ⟨o, ho, rfl⟩ := (out_mem hL).1 (List.mem_of_getElem? hp)
  obtain ⟨_, _, _, _, c, hc, hcs⟩ := hist_good hD o ho
  have hcl := two_lt hcs
  refine ⟨c, hc, hcl, hcs, fun r hr => ?_⟩
  rw [h.seen c (by rw [h.law.len]; exact hcl) (by rw [hcs]; decide)] at hr
  obtain ⟨q, hq, rfl⟩ := List.mem_map.1 hr
  rw [hc] at hp
  have hlast := last_read hD hL hp hcs hq
  simp only
  rw [nowL_get hok, hlast]
  unfold valOf
  by_cases h0 : q.2 = 0
  ·rw [if_pos h0, if_pos h0]; rfl
  ·rw [if_neg h0, if_neg h0]; rfl
 ·have hp : (t.e.allV.map (·.1)).Perm ((nowL t.e out).map (·.1)) := by
   refine perm_of_nodup (allL_nodup _ _) (nowL_nodup _) fun K => ?_
   have e1 : K ∈ t.e.allV.map (·.1) ↔ mget t.e.allV K ≠ none := by rw [ne_eq, mget_none_iff]; exact Decidable.not_not.symm
   have e2 : K ∈ (nowL t.e out).map (·.1) ↔ mget (nowL t.e out) K ≠ none := by rw [ne_eq, mget_none_iff]; exact Decidable.not_not.symm
   rw [e1, e2]
   unfold Eng.allV
   rw [mget_allL]
   by_cases hK : keyOk K
   ·rw [if_pos ⟨hK.1, by have := hK.2; omega⟩, last_now hD hL hok hK]
   ·rw [if_neg (fun x => hK ⟨x.1, by have := x.2; omega⟩)]
    refine ⟨fun x => absurd rfl x, fun x => absurd ?_ x⟩
    rw [nowL_get hok]
    have : out.filter (wroteI t.e K) = [] := List.eq_nil_iff_forall_not_mem.2 fun y hy => hK (hok.wrote_ok (List.mem_filter.1 hy).2)
    rw [this]; rfl
  simpa using hp.length_eq
 ·have hg : mget t.e.allV p.1 = some p.2 := mget_mem (allL_nodup _ _) hp
  unfold Eng.allV at hg
  rw [mget_allL] at hg
  split at hg
  ·rename_i hK
   rw [last_now hD hL hok ⟨hK.1, by omega⟩, hg]; rfl
  ·cases hg
theorem sum_perm : ∀ (l m : List Nat) (g : Nat → Nat), l.Nodup → m.Nodup → (∀ x ∈ l, x ∈ m) → (l.map g).sum ≤ (m.map g).sum
 | [], m, g, _, _, _ => by simp
 | x :: l, m, g, hl, hm, h => by
  rw [List.nodup_cons] at hl
  have hx := h x (List.mem_cons_self ..)
  have h1 : (m.map g).sum = g x + ((m.erase x).map g).sum := by
   have := ((List.perm_cons_erase hx).map g).sum_nat
   simpa using this
  have h2 := sum_perm l (m.erase x) g hl.2 (hm.erase x) fun y hy => (List.mem_erase_of_ne (fun e => hl.1 (by rw [← e]; exact hy))).2 (h y (List.mem_cons_of_mem _ hy))
  rw [List.map_cons, List.sum_cons, h1]
  omega
theorem hist_load (h : Done e C) : e.hist.length ≤ e.load := by
 have h1 : e.load = ((List.range e.txs.length).map fun c => (e.tx c).load).sum := by
  unfold Eng.load
  congr 1
  apply List.ext_getElem (by simp)
  intro i h1 h2
  have h3 : i < e.txs.length := by simpa using h1
  simp [Eng.tx, h3]
 have h2 : ∀ C : List Nat, (C.flatMap fun c : Nat => toldL ((c : Int) + 1) (e.tx c)).length ≤ (C.map fun c => (e.tx c).load).sum := by
  intro C
  induction C with
  | nil => simp
  | cons c C ih =>
   rw [List.flatMap_cons, List.length_append, List.map_cons, List.sum_cons]
   have : (toldL ((c : Int) + 1) (e.tx c)).length ≤ (e.tx c).load := by
    unfold toldL Tx.load Tx.written
    rw [List.length_append, List.length_map, List.length_map, List.length_map, sortI_len, List.length_map]
    omega
   omega
 rw [h.hist.hist, h1]
 exact Nat.le_trans (h2 C) (sum_perm C (List.range e.txs.length) _ h.nodup List.nodup_range fun c hc => List.mem_range.2 (two_lt ((h.hist.mem c).1 hc)))
end
end Go.Proofs.YtcbokjocahnlcaaGreatDoor
/- A map of slices by its keys; a variable that holds a slice of pairs: what stands in memory. -/
namespace Go.Sep
open Go Go.RowKit
variable {w w0 : World} {L : List HProp} {T bl : Nat} {E : List (Int × (Value × List Int))} {M : List (Int × List Int)}
def mlM (T bl : Nat) (E : List (Int × (Value × List Int))) (M : List (Int × List Int)) : HProp :=
 sep (pur (E.map (fun p => (p.1, p.2.2)) = M)) (sep (mp encI (fun _ => True) bl (E.map fun p => (p.1, p.2.1))) (all (E.map (lrow T))))
def mlX (T bl : Nat) (E : List (Int × (Value × List Int))) (k : Int) (M : List (Int × List Int)) : HProp :=
 sep (pur (E.map (fun p => (p.1, p.2.2)) = M)) (sep (mp encI (fun _ => True) bl (E.map fun p => (p.1, p.2.1))) (all ((mdel E k).map (lrow T))))
theorem S.ml_parts (h : S w0 w (mlM T bl E M :: L)) : E.map (fun p => (p.1, p.2.2)) = M ∧ S w0 w (mp encI (fun _ => True) bl (E.map fun p => (p.1, p.2.1)) :: all (E.map (lrow T)) :: L) := by
 obtain ⟨hp, h⟩ := h.sep_elim.pur_elim
 exact ⟨hp, h.conv (by simp only [all, sep_assoc])⟩
theorem S.ml_join (hp : E.map (fun p => (p.1, p.2.2)) = M) (h : S w0 w (mp encI (fun _ => True) bl (E.map fun p => (p.1, p.2.1)) :: all (E.map (lrow T)) :: L)) : S w0 w (mlM T bl E M :: L) :=
 .sep_intro (.pur_intro hp (h.conv (by simp only [all, sep_assoc])))
theorem S.mlX_parts {k : Int} (h : S w0 w (mlX T bl E k M :: L)) : E.map (fun p => (p.1, p.2.2)) = M ∧ S w0 w (mp encI (fun _ => True) bl (E.map fun p => (p.1, p.2.1)) :: all ((mdel E k).map (lrow T)) :: L) := by
 obtain ⟨hp, h⟩ := h.sep_elim.pur_elim
 exact ⟨hp, h.conv (by simp only [all, sep_assoc])⟩
theorem S.ml_new (h : S w0 w L) : S w0 (w.alloc (.map #[] 0)) (mlM T w.heap.size [] [] :: L) :=
 S.ml_join rfl ((h.made (enc := encI) (ok := fun _ => True)).conv (by simp only [List.map_nil, all, emp_sep]))
theorem S.ml_see (h : S w0 w (mlM T bl E M :: L)) : MapAt encI (fun _ => True) w bl (E.map fun p => (p.1, p.2.1)) := h.ml_parts.2.mapAt
theorem S.ml_nodup (h : S w0 w (mlM T bl E M :: L)) : (E.map (·.1)).Nodup := by
 simpa [List.map_map, Function.comp_def] using h.ml_parts.2.nodup
theorem line_ofM (h : E.map (fun p => (p.1, p.2.2)) = M) (k : Int) : (lineOf E k).2 = (mget M k).getD [] := by
 rw [← h, mget_map (fun x : Value × List Int => x.2)]
 unfold lineOf
 cases mget E k <;> rfl
theorem S.ml_line (h : S w0 w (mlM T bl E M :: L)) (k : Int) : S w0 w (sl T 1 (lineOf E k).1 (lineOf E k).2.length (icells (lineOf E k).2) :: mlX T bl E k M :: L) := by
 have hk := h.ml_nodup
 obtain ⟨hp, h⟩ := h.ml_parts
 refine S.swap (.sep_intro (.pur_intro hp ?_))
 cases hg : mget E k with
 | none =>
  unfold lineOf
  rw [hg, mdel_none hg]
  exact (h.sl_nil (e := T) (size := 1)).conv (by simp only [all, Option.getD_none, List.length_nil]; unfold icells; simp only [List.map_nil]; ac_rfl)
 | some x =>
  unfold lineOf
  rw [hg]
  have hq := (perm_out hk hg).map (lrow T)
  refine h.conv ?_
  simp only [all]
  rw [all_perm hq]
  simp only [List.map_cons, all, lrow, Option.getD_some]
  ac_rfl
theorem S.mlX_put {P : Program} {kt mt e : TypeId} (K : KeyOk P kt encI (fun _ => True)) (ht : P.underlying mt = some (.map kt e)) {k : Int} {v : Value} {l : List Int} (h : S w0 w (sl T 1 v l.length (icells l) :: mlX T bl E k M :: L)) :
  ∃ w', (Instr.mapUpdate mt (.map (some bl)) (encI k) v).run P w = .ok () w' ∧ S w0 w' (mlM T bl (mput E k (v, l)) (mput M k l) :: L) := by
 obtain ⟨hp, h⟩ := h.swap.mlX_parts
 have hn : (E.map (·.1)).Nodup := by simpa [List.map_map, Function.comp_def] using h.nodup
 obtain ⟨w', hr, h'⟩ := h.put K ht k trivial v
 have hm : mput (E.map fun p => (p.1, p.2.1)) k v = (mput E k (v, l)).map fun p => (p.1, p.2.1) := mput_map (fun x : Value × List Int => x.1) E k (v, l)
 have hm2 : (mput E k (v, l)).map (fun p => (p.1, p.2.2)) = mput M k l := by rw [← hp]; exact (mput_map (fun x : Value × List Int => x.2) E k (v, l)).symm
 rw [hm] at h'
 refine ⟨w', hr, S.ml_join hm2 ?_⟩
 refine h'.conv ?_
 have hq := (perm_put hn k (v, l)).map (lrow T)
 simp only [all]
 rw [all_perm hq]
 simp only [List.map_cons, all, lrow]
 ac_rfl
theorem S.mlX_back {k : Int} (h : S w0 w (sl T 1 (lineOf E k).1 (lineOf E k).2.length (icells (lineOf E k).2) :: mlX T bl E k M :: L)) : S w0 w (mlM T bl E M :: L) := by
 obtain ⟨hp, h⟩ := h.swap.mlX_parts
 have hn : (E.map (·.1)).Nodup := by simpa [List.map_map, Function.comp_def] using h.nodup
 refine S.ml_join hp ?_
 cases hg : mget E k with
 | none =>
  rw [mdel_none hg] at h
  exact (h.conv (M := sl T 1 (lineOf E k).1 (lineOf E k).2.length (icells (lineOf E k).2) :: mp encI (fun _ => True) bl (E.map fun p => (p.1, p.2.1)) :: all (E.map (lrow T)) :: L) (by simp only [all]; ac_rfl)).tail
 | some x =>
  unfold lineOf at h
  rw [hg] at h
  have hq := (perm_out hn hg).map (lrow T)
  refine h.conv ?_
  simp only [all]
  rw [all_perm hq]
  simp only [List.map_cons, all, lrow, Option.getD_some]
  ac_rfl
def outP (tv te bx : Nat) (l : List (Int × Int)) : HProp := ex fun v => sep (blk bx tv [v]) (sl te 2 v l.length (pcells l))
theorem S.out_elim {tv te bx : Nat} {l : List (Int × Int)} (h : S w0 w (outP tv te bx l :: L)) : ∃ v, S w0 w (blk bx tv [v] :: sl te 2 v l.length (pcells l) :: L) := by
 obtain ⟨v, h⟩ := h.ex_elim
 exact ⟨v, h.sep_elim⟩
theorem S.out_intro {tv te bx : Nat} {v : Value} {l : List (Int × Int)} (h : S w0 w (blk bx tv [v] :: sl te 2 v l.length (pcells l) :: L)) : S w0 w (outP tv te bx l :: L) := .ex_intro v h.sep_intro
end Go.Sep
/- The edges as they are found, sorted and struck of doubles: what must be ahead of what. -/
namespace Go.Proofs.YtcbokjocahnlcaaGreatDoor
open Go Go.Sep
def addE (a b : Int) : List (Int × Int) := if a ≠ b ∧ a ≠ 0 then [(a, b)] else []
theorem addE_mem {a b : Int} {p : Int × Int} : p ∈ addE a b ↔ p = (a, b) ∧ a ≠ b ∧ a ≠ 0 := by
 unfold addE
 split
 ·rename_i h
  simp only [List.mem_singleton]
  exact ⟨fun e => ⟨e, h⟩, fun e => e.1⟩
 ·rename_i h
  simp only [List.not_mem_nil, false_iff]
  exact fun e => h e.2
theorem addE_le (a b : Int) : (addE a b).length ≤ 1 := by unfold addE; split <;> simp
def wEdges (w : List Int) : Nat → List (Int × Int)
 | 0 => []
 | n + 1 => wEdges w n ++ (match w[n]?, w[n + 1]? with | some a, some b => addE a b | _, _ => [])
theorem wEdges_mem (w : List Int) (p : Int × Int) : ∀ n : Nat, p ∈ wEdges w n ↔ ∃ i : Nat, i < n ∧ w[i]? = some p.1 ∧ w[i + 1]? = some p.2 ∧ p.1 ≠ p.2 ∧ p.1 ≠ 0
 | 0 => by simp [wEdges]
 | n + 1 => by
  simp only [wEdges, List.mem_append, wEdges_mem w p n]
  constructor
  ·rintro (⟨i, h1, h2⟩ | h)
   ·exact ⟨i, by omega, h2⟩
   ·split at h
    ·rename_i a b ha hb
     rw [addE_mem] at h
     obtain ⟨rfl, h⟩ := h
     exact ⟨n, by omega, ha, hb, h⟩
    ·simp at h
  ·rintro ⟨i, h1, h2, h3, h4⟩
   rcases Nat.lt_or_ge i n with h | h
   ·exact .inl ⟨i, h, h2, h3, h4⟩
   ·obtain rfl : i = n := by omega
    refine .inr ?_
    rw [h2, h3]
    exact addE_mem.2 ⟨rfl, h4⟩
theorem wEdges_le (w : List Int) : ∀ n : Nat, (wEdges w n).length ≤ n
 | 0 => by simp [wEdges]
 | n + 1 => by
  have := wEdges_le w n
  simp only [wEdges, List.length_append]
  split
  ·have := addE_le; rename_i a b _ _; have := this a b; omega
  ·simp; omega
def rEdge (w : List Int) (o : Op1) : List (Int × Int) := if o.wr then [] else addE o.fr o.tx ++ (match nextOf w o.fr with | some b => addE o.tx b | none => [])
theorem rEdge_le (w : List Int) (o : Op1) : (rEdge w o).length ≤ 2 := by
 unfold rEdge
 split
 ·simp
 ·have := addE_le o.fr o.tx
  split
  ·rename_i b _; have := addE_le o.tx b; simp; omega
  ·simp; omega
def rEdges (l : List Op1) (m : List Op1) : List (Int × Int) := m.flatMap fun o => rEdge (writers l o.key) o
theorem rEdges_snoc (l m : List Op1) (o : Op1) : rEdges l (m ++ [o]) = rEdges l m ++ rEdge (writers l o.key) o := by simp [rEdges]
theorem rEdges_le (l : List Op1) : ∀ m : List Op1, (rEdges l m).length ≤ 2 * m.length
 | [] => by simp [rEdges]
 | o :: m => by
  have := rEdges_le l m
  have h2 := rEdge_le (writers l o.key) o
  simp only [rEdges, List.flatMap_cons, List.length_append, List.length_cons] at *
  omega
theorem rEdges_mem (l m : List Op1) (p : Int × Int) : p ∈ rEdges l m ↔ ∃ o ∈ m, o.wr = false ∧ p.1 ≠ p.2 ∧ p.1 ≠ 0 ∧ ((p.1 = o.fr ∧ p.2 = o.tx) ∨ (p.1 = o.tx ∧ nextOf (writers l o.key) o.fr = some p.2)) := by
 unfold rEdges
 rw [List.mem_flatMap]
 refine exists_congr fun o => and_congr_right fun _ => ?_
 unfold rEdge
 cases o.wr with
 | true => simp
 | false =>
  simp only [Bool.false_eq_true, ↓reduceIte, List.mem_append, addE_mem, true_and]
  constructor
  ·rintro (⟨rfl, h1, h2⟩ | h)
   ·exact ⟨h1, h2, .inl ⟨rfl, rfl⟩⟩
   ·split at h
    ·rename_i b hb
     rw [addE_mem] at h
     obtain ⟨rfl, h1, h2⟩ := h
     exact ⟨h1, h2, .inr ⟨rfl, hb⟩⟩
    ·simp at h
  ·rintro ⟨h1, h2, ⟨h3, h4⟩ | ⟨h3, h4⟩⟩
   ·exact .inl ⟨Prod.ext h3 h4, by rwa [← h3, ← h4], by rwa [← h3]⟩
   ·right
    rw [h4]
    exact addE_mem.2 ⟨Prod.ext h3 rfl, by rwa [← h3], by rwa [← h3]⟩
theorem Edge.found {l : List Op1} {out : List (Int × Int)} {D : List (Int × List Int)} (hD : ∀ k, (mget D k).getD [] = writers l k) (hn : (D.map (·.1)).Nodup)
  (ho : ∀ p, p ∈ out ↔ (∃ d ∈ D, p ∈ wEdges d.2 (d.2.length - 1)) ∨ p ∈ rEdges l l) (p : Int × Int) : p ∈ out ↔ Edge l p := by
 rw [ho, rEdges_mem]
 unfold Edge
 constructor
 ·rintro (⟨d, hd, h⟩ | ⟨o, h1, h2, h3, h4, h5⟩)
  ·rw [wEdges_mem] at h
   obtain ⟨i, h1, h2, h3, h4, h5⟩ := h
   refine ⟨h4, h5, .inl ⟨d.1, i, ?_⟩⟩
   have := hD d.1
   rw [mget_mem hn hd] at this
   simp only [Option.getD_some] at this
   rw [← this]
   exact ⟨h2, h3⟩
  ·exact ⟨h3, h4, .inr ⟨o, h1, h2, h5⟩⟩
 ·rintro ⟨h4, h5, ⟨k, i, h2, h3⟩ | ⟨o, h1, h2, h6⟩⟩
  ·left
   have hk := hD k
   cases hm : mget D k with
   | none => rw [hm] at hk; simp only [Option.getD_none] at hk; rw [← hk] at h2; simp at h2
   | some w =>
    rw [hm] at hk
    simp only [Option.getD_some] at hk
    refine ⟨(k, w), mget_some hm, ?_⟩
    rw [wEdges_mem]
    rw [← hk] at h2 h3
    have := (List.getElem?_eq_some_iff.1 h3).1
    exact ⟨i, by simp only; omega, h2, h3, h4, h5⟩
  ·exact .inr ⟨o, h1, h2, h4, h5, h6⟩
def leP (a b : Int × Int) : Prop := a.1 < b.1 ∨ (a.1 = b.1 ∧ a.2 ≤ b.2)
def compactFrom (x : Int × Int) : List (Int × Int) → List (Int × Int)
 | [] => []
 | y :: l => if y = x then compactFrom y l else y :: compactFrom y l
def compactP : List (Int × Int) → List (Int × Int)
 | [] => []
 | x :: l => x :: compactFrom x l
theorem compactFrom_mem : ∀ (l : List (Int × Int)) (x p : Int × Int), p ∈ x :: compactFrom x l ↔ p ∈ x :: l
 | [], x, p => by simp [compactFrom]
 | y :: l, x, p => by
  have ih := compactFrom_mem l y p
  simp only [compactFrom]
  split
  ·rename_i e
   subst e
   simp only [List.mem_cons] at ih ⊢
   rw [ih]; simp
  ·simp only [List.mem_cons] at ih ⊢
   rw [ih]
theorem compactFrom_sorted : ∀ (l : List (Int × Int)) (x : Int × Int), (x :: l).Pairwise leP → (x :: compactFrom x l).Pairwise ltP
 | [], x, _ => by simp [compactFrom]
 | y :: l, x, h => by
  have h' := List.pairwise_cons.1 h
  have ih := compactFrom_sorted l y h'.2
  simp only [compactFrom]
  split
  ·rename_i e; subst e; exact ih
  ·rename_i hne
   refine List.pairwise_cons.2 ⟨fun z hz => ?_, ih⟩
   have hxy : ltP x y := by
    have := h'.1 y (by simp)
    unfold leP at this
    unfold ltP
    rcases this with h1 | ⟨h1, h2⟩
    ·exact .inl h1
    ·refine .inr ⟨h1, ?_⟩
     rcases Int.lt_or_eq_of_le h2 with h3 | h3
     ·exact h3
     ·exact absurd (Prod.ext h1 h3).symm hne
   rcases List.mem_cons.1 hz with rfl | hz
   ·exact hxy
   ·exact hxy.trans ((List.pairwise_cons.1 ih).1 z hz)
theorem compactP_mem (l : List (Int × Int)) (p : Int × Int) : p ∈ compactP l ↔ p ∈ l := by
 cases l with
 | nil => simp [compactP]
 | cons x l => exact compactFrom_mem l x p
theorem compactP_sorted {l : List (Int × Int)} (h : l.Pairwise leP) : (compactP l).Pairwise ltP := by
 cases l with
 | nil => simp [compactP]
 | cons x l => exact compactFrom_sorted l x h
theorem compactFrom_snoc : ∀ (l : List (Int × Int)) (x p : Int × Int), compactFrom x (l ++ [p]) = if (x :: l).getLast? = some p then compactFrom x l else compactFrom x l ++ [p]
 | [], x, p => by
  simp only [List.nil_append, compactFrom, List.getLast?_singleton, Option.some.injEq]
  by_cases h : p = x
  ·simp [h]
  ·have : ¬ x = p := fun e => h e.symm
   simp [h, this]
 | y :: l, x, p => by
  have ih := compactFrom_snoc l y p
  simp only [List.cons_append, compactFrom, List.getLast?_cons_cons]
  rw [ih]
  split
  ·rfl
  ·split <;> simp
theorem compactP_snoc {l : List (Int × Int)} {p : Int × Int} (hl : l ≠ []) : compactP (l ++ [p]) = if l.getLast? = some p then compactP l else compactP l ++ [p] := by
 cases l with
 | nil => exact absurd rfl hl
 | cons x l =>
  simp only [List.cons_append, compactP]
  rw [compactFrom_snoc]
  split <;> simp
theorem compactP_take {l : List (Int × Int)} {j : Nat} {p q : Int × Int} (hq : l[j]? = some q) (hp : l[j + 1]? = some p) : compactP (l.take (j + 2)) = if p = q then compactP (l.take (j + 1)) else compactP (l.take (j + 1)) ++ [p] := by
 have h1 : l.take (j + 2) = l.take (j + 1) ++ [p] := by rw [List.take_add_one, hp]; rfl
 have h2 : l.take (j + 1) = l.take j ++ [q] := by rw [List.take_add_one, hq]; rfl
 rw [h1, compactP_snoc (by rw [h2]; simp)]
 have h3 : (l.take (j + 1)).getLast? = some q := by rw [h2]; simp
 rw [h3]
 by_cases h : p = q
 ·simp [h]
 ·have : ¬ q = p := fun e => h e.symm
  simp [h, this]
theorem compactP_le (l : List (Int × Int)) : (compactP l).length ≤ l.length := by
 have : ∀ (l : List (Int × Int)) (x : Int × Int), (compactFrom x l).length ≤ l.length := by
  intro l
  induction l with
  | nil => intro x; simp [compactFrom]
  | cons y l ih => intro x; have := ih y; simp only [compactFrom]; split <;> simp <;> omega
 cases l with
 | nil => simp [compactP]
 | cons x l => have := this l x; simp [compactP]; exact this
theorem edgesOf_compact {l : List Op1} {out srt : List (Int × Int)} (ho : ∀ p, p ∈ out ↔ Edge l p) (hp : srt.Perm out) (hs : srt.Pairwise leP) : EdgesOf l (compactP srt) :=
 ⟨compactP_sorted hs, fun p => by rw [compactP_mem, hp.mem_iff, ho]⟩
end Go.Proofs.YtcbokjocahnlcaaGreatDoor
/- slices.Compact at pairs. -/
namespace Go.Proofs.YtcbokjocahnlcaaGreatDoor
open Go Go.RowKit Go.Sep
theorem Tryz.eqlW (p q : Int × Int) (w : World) : (binOp .eql 44 (.agg #[.int .i64 p.1, .int .i64 p.2]) (.agg #[.int .i64 q.1, .int .i64 q.2])).run Tryz.prog w = .ok (.bool (decide (p = q))) w := by
 go_simp
 obtain ⟨a, b⟩ := p
 obtain ⟨c, d⟩ := q
 by_cases h1 : a = c <;> by_cases h2 : b = d <;> simp [h1, h2]
theorem Tryz.neqW (p q : Int × Int) (w : World) : (binOp .neq 44 (.agg #[.int .i64 p.1, .int .i64 p.2]) (.agg #[.int .i64 q.1, .int .i64 q.2])).run Tryz.prog w = .ok (.bool (!decide (p = q))) w := by
 go_simp
 obtain ⟨a, b⟩ := p
 obtain ⟨c, d⟩ := q
 by_cases h1 : a = c <;> by_cases h2 : b = d <;> simp [h1, h2]
theorem Tryz.zero_W (w : World) : (zeroValue 44).run Tryz.prog w = .ok (.agg #[.int .i64 0, .int .i64 0]) w := Tryz.zeroValue44 w
theorem run_clear_sliceK {P : Program} (w : World) (t e ty : TypeId) (z : Value) (ht : P.underlying t = some (.slice e)) (hv : ∀ w, (zeroValue e).run P w = .ok z w) (h1 : ∀ v ∈ z.cells, v.oneCell' = true) (b o n c : Nat) (hn : 0 < n)
  (hc : ∀ j, j < n * z.cells.size → (w.cell? ⟨b, o + j, none⟩).isSome = true) (hf : ∀ j, j < n * z.cells.size → w.frozen? ⟨b, o + j, none⟩ = false) :
  (Builtin.clear_ #[t] ty #[.slice (some ⟨b, o, none⟩) n c]).run P w = .ok (.tuple #[]) (w.setCells b o (Builtin.zeroCells z.cells n).toList) := by
 have hl : (Builtin.zeroCells z.cells n).toList.length = n * z.cells.size := by simp [Builtin.zeroCells]
 have hst := run_storeCells_cells (P := P) b o (Builtin.zeroCells z.cells n).toList 0 w (by rw [hl]; simpa using hc) (by rw [hl]; simpa using hf) (by
  intro v hv'
  simp only [Builtin.zeroCells, Array.toList_map, List.mem_map] at hv'
  obtain ⟨i, hi, rfl⟩ := hv'
  have hi' : i < n * z.cells.size := by simpa using hi
  have hs : 0 < z.cells.size := by
   rcases Nat.eq_zero_or_pos z.cells.size with h | h
   ·rw [h, Nat.mul_zero] at hi'; omega
   ·exact h
  rw [getElem!_pos z.cells (i % z.cells.size) (Nat.mod_lt _ hs)]
  exact h1 _ (Array.getElem_mem _))
 simp only [Nat.add_zero] at hst
 obtain ⟨m, rfl⟩ : ∃ m, n = m + 1 := ⟨n - 1, by omega⟩
 simp [Builtin.clear_, run_underlying ht, hv, hst]
theorem pcells_take (l : List (Int × Int)) : ∀ k : Nat, (pcells l).take (k * 2) = pcells (l.take k) := by
 induction l with
 | nil => intro k; simp [pcells]
 | cons x l ih =>
  intro k
  cases k with
  | zero => simp [pcells]
  | succ k =>
   have := ih k
   rw [show (k + 1) * 2 = k * 2 + 2 by omega]
   simp only [pcells, List.flatMap_cons, List.take_succ_cons] at this ⊢
   simp [this]
theorem pcells_set2 : ∀ (l : List (Int × Int)) (k : Nat) (p : Int × Int), k < l.length → pcells (l.set k p) = (pcells l).take (k * 2) ++ [Value.int .i64 p.1, .int .i64 p.2] ++ (pcells l).drop (k * 2 + 2)
 | x :: l, 0, p, _ => by simp [pcells]
 | x :: l, k + 1, p, h => by
  have ih := pcells_set2 l k p (by simpa using h)
  rw [show (k + 1) * 2 = k * 2 + 2 by omega]
  simp only [List.set_cons_succ, pcells, List.flatMap_cons] at ih ⊢
  rw [ih]
  simp
set_option maxRecDepth 40000 in
set_option maxHeartbeats 8000000 in
theorem compact_any (w0 w : World) (v : Value) (l : List (Int × Int)) (L : List HProp) (hs : S w0 w (sl 44 2 v l.length (pcells l) :: L)) (hb : l.length ≤ 1000000) :
  Calls Tryz.prog 61 #[v] w fun e w' => ∃ v', e = .returned v' ∧ S w0 w' (sl 44 2 v' (compactP l).length (pcells (compactP l)) :: L) := by
 obtain ⟨a, cap, rfl, hcap, hcap2, _⟩ := hs.sl_val
 unfold maxLen at hcap2
 have H := hid hs
 clear hs
 by_cases h2 : l.length < 2
 ·have hc : compactP l = l := by
   match l, h2 with
   | [], _ => rfl
   | [x], _ => rfl
  rw [hc]
  clear hc
  go_enter Tryz.func61, Tryz.ntmps61
  go_wp2_with fail
  go_ret
  exact ⟨_, rfl, H.out⟩
 ·obtain ⟨g, og, rfl, hg, _⟩ := H.out.sl_pair (show l[0]? = some l[0] by simp)
  go_enter Tryz.func61, Tryz.ntmps61
  go_wp2_with fail
  go_loopw [3] (fun kv wr => ∃ k : Nat, 1 ≤ k ∧ k ≤ l.length ∧ kv = .int .i64 k ∧ Hid (compactP (l.take k) = l.take k) ∧ S w0 wr (sl 44 2 (.slice (some ⟨g, og, none⟩) l.length cap) l.length (pcells l) :: L)) (fun kv _ => l.length - (intOf kv).toNat)
  case atStart => exact ⟨1, by omega, by omega, rfl, hid (by obtain ⟨x, l', rfl⟩ := List.exists_cons_of_ne_nil (show l ≠ [] by rintro rfl; simp at h2); rfl), H.out⟩
  case round =>
   obtain ⟨k, hk1, hk, rfl, hck, hsr⟩ := hrel
   clear H
   by_cases hkl : k < l.length
   ·obtain ⟨j, rfl⟩ : ∃ j, k = j + 1 := ⟨k - 1, by omega⟩
    have hp : l[j + 1]? = some l[j + 1] := by simp [hkl]
    have hq : l[j]? = some l[j] := by simp
    have htk := compactP_take hq hp
    generalize l[j + 1] = p at hp htk
    generalize l[j] = q at hq htk
    obtain ⟨gx, ox, hg0, _, d0, d1⟩ := hsr.drew.sl_pair (a := some ⟨g, og, none⟩) hp
    obtain ⟨rfl, rfl⟩ : g = gx ∧ og = ox := by simpa using hg0
    obtain ⟨gx, ox, hg0, _, d2, d3⟩ := hsr.drew.sl_pair (a := some ⟨g, og, none⟩) hq
    obtain ⟨rfl, rfl⟩ : g = gx ∧ og = ox := by simpa using hg0
    have he := fun w => Tryz.eqlW p q w
    have hj0 : (j : Int) + 1 - 1 = j := by omega
    have H := hid hsr.drew
    clear hsr
    by_cases hpq : p = q
    ·rw [decide_eq_true hpq] at he
     rw [if_pos hpq, hck.out] at htk
     have HK := hid htk
     clear htk hp hq hg0 hck hpq
     go_wp2_with fail
     go_region
     go_wp2_with fail
     clear d0 d1 d2 d3 he
     go_loopw [3, 5] (fun kv rv wx => ∃ (k r : Nat) (cur : List (Int × Int)), kv = .int .i64 k ∧ rv = .int .i64 r ∧ 1 ≤ r ∧ j + 1 ≤ k ∧ k < j + 1 + r ∧ j + 1 + r ≤ l.length ∧ cur.length = l.length ∧ Hid (cur.take k = compactP (l.take (j + 1 + r)) ∧ cur.drop (j + r) = l.drop (j + r)) ∧
      S w0 wx (sl 44 2 (.slice (some ⟨g, og, none⟩) l.length cap) l.length (pcells cur) :: L)) (fun _ rv _ => l.length - (intOf rv).toNat)
     case atStart => exact ⟨j + 1, 1, l, by go_num, rfl, by omega, by omega, by omega, by omega, rfl, hid ⟨HK.out.symm, rfl⟩, H.out⟩
     case round =>
      obtain ⟨k, r, cur, rfl, rfl, hr1, hjk, hkr, hr, hcl, hcur, hsr⟩ := hrel
      rename World => wx
      clear H
      by_cases hrl : j + 1 + r < l.length
      ·obtain ⟨r, rfl⟩ : ∃ r', r = r' + 1 := ⟨r - 1, by omega⟩
       have hp : l[j + 1 + r + 1]? = some l[j + 1 + r + 1] := by rw [List.getElem?_eq_getElem]
       have hq : l[j + 1 + r]? = some l[j + 1 + r] := by rw [List.getElem?_eq_getElem]
       have htk := compactP_take hq hp
       generalize l[j + 1 + r + 1] = p at hp htk
       generalize l[j + 1 + r] = q at hq htk
       obtain ⟨hc1, hc2⟩ := hcur.out
       have hcp : cur[j + 1 + r + 1]? = some p := by
        have := congrArg (fun x => x[1]?) hc2
        rw [← hp]
        simpa [Nat.add_assoc, Nat.add_comm, Nat.add_left_comm] using this
       have hcq : cur[j + 1 + r]? = some q := by
        have := congrArg (fun x => x[0]?) hc2
        rw [← hq]
        simpa [Nat.add_assoc, Nat.add_comm, Nat.add_left_comm] using this
       have hcp' := hcp
       obtain ⟨gx, ox, hg0, _, d0, d1⟩ := hsr.drew.sl_pair (a := some ⟨g, og, none⟩) hcp
       obtain ⟨rfl, rfl⟩ : g = gx ∧ og = ox := by simpa using hg0
       obtain ⟨gx, ox, hg0, _, d2, d3⟩ := hsr.drew.sl_pair (a := some ⟨g, og, none⟩) hcq
       obtain ⟨rfl, rfl⟩ : g = gx ∧ og = ox := by simpa using hg0
       have e1 : og + (j + 1 + r + 1) * 2 = og + (j + 1) * 2 + (r + 1) * 2 := by omega
       have e2 : og + (j + 1 + r) * 2 = og + (j + 1) * 2 + r * 2 := by omega
       rw [e1] at d0 d1
       rw [e2] at d2 d3
       have he := fun w => Tryz.neqW p q w
       have hj0 : (r : Int) + 1 - 1 = r := by omega
       have hdrop : cur.drop (j + (r + 1 + 1)) = l.drop (j + (r + 1 + 1)) := by
        have := congrArg (fun x => x.drop 1) hc2
        simpa [List.drop_drop, Nat.add_assoc] using this
       have H := hid hsr.drew
       clear hsr hc2 hcur hg0 e1 e2
       by_cases hpq : p = q
       ·rw [decide_eq_true hpq] at he
        rw [if_pos hpq] at htk
        have HK : Hid (cur.take k = compactP (l.take (j + 1 + (r + 1 + 1))) ∧ cur.drop (j + (r + 1 + 1)) = l.drop (j + (r + 1 + 1))) := hid ⟨by rw [hc1]; exact htk.symm, hdrop⟩
        clear htk hp hq hpq hc1 hdrop hcp hcq hcp'
        go_wp2_with fail
        go_region
        go_wp2_with fail
        go_roundw
        case rel => exact ⟨k, r + 1 + 1, cur, rfl, by go_num, by omega, by omega, by omega, by omega, hcl, HK, H.out⟩
        case measure => simp [intOf]; omega
       ·rw [decide_eq_false hpq] at he
        rw [if_neg hpq] at htk
        have hkc : k * 2 + 1 < (pcells cur).length := by rw [pcells_length]; omega
        obtain ⟨gy, oy, _, hg1, _, _, _, _, hd0, hf0⟩ := H.out.sl_some (by omega)
        obtain ⟨⟨rfl, rfl⟩, -⟩ : (g = gy ∧ og = oy) ∧ _ := by simpa using hg1
        have hth : ∀ u : Nat, u < 2 → ((wx.drew).cell? ⟨g, og + k * 2 + u, none⟩).isSome = true ∧ (wx.drew).frozen? ⟨g, og + k * 2 + u, none⟩ = false := fun u hu =>
         ⟨by rw [Nat.add_assoc, hd0 (k * 2 + u) _ (List.getElem?_eq_getElem (by omega))]; rfl, hf0 _⟩
        have hst := run_storeAt_mid (P := Tryz.prog) wx.drew g (og + k * 2) 44 #[.int .i64 p.1, .int .i64 p.2] hth (by kernel_rfl) (by simp [Value.oneCell'])
        have hset := H.out.sl_setCells [.int .i64 p.1, .int .i64 p.2] (k * 2) (by simp only [List.length_cons, List.length_nil]; omega)
        have hfin : (cur.set k p).take (k + 1) = compactP (l.take (j + 1 + (r + 1 + 1))) ∧ (cur.set k p).drop (j + (r + 1 + 1)) = l.drop (j + (r + 1 + 1)) := by
         refine ⟨?_, ?_⟩
         ·refine Eq.trans ?_ htk.symm
          rw [take_succ_get (show (cur.set k p)[k]? = some p from List.getElem?_set_self (by omega)), List.take_set_of_le (by omega), hc1]
          rfl
         ·rw [List.drop_set_of_lt (by omega)]; exact hdrop
        have hpc : (pcells cur).take (k * 2) ++ [Value.int .i64 p.1, .int .i64 p.2] ++ (pcells cur).drop (k * 2 + 2) = pcells (cur.set k p) := by
         rw [pcells_set2 cur k p (by omega)]
        simp only [List.length_cons, List.length_nil, Nat.zero_add] at hset
        rw [hpc] at hset
        have HK := hid hfin; have HS := hid hset
        have HL : Hid ((cur.set k p).length = l.length) := hid (by rw [List.length_set]; exact hcl)
        clear hfin hset hpc htk hc1 hdrop hcl hcp' hkc hst
        clear hp hq hpq hcp hcq hd0 hf0 hg1
        go_wp2_with fail
        go_region
        go_wp2_with (refine wpList_store_mid rfl 44 (.tmp 51) (.tmp 50) rfl g (og + k * 2) #[.int .i64 p.1, .int .i64 p.2] rfl rfl hth (by kernel_rfl) (by simp [Value.oneCell']) ?_)
        go_roundw
        case rel => exact ⟨k + 1, r + 1 + 1, cur.set k p, by go_num, by go_num, by omega, by omega, by omega, by omega, HL.out, HK, HS.out⟩
        case measure => simp [intOf]; omega
      ·have hjr : j + 1 + r = l.length := by omega
       obtain ⟨hc1, _⟩ := hcur.out
       rw [hjr, List.take_length] at hc1
       have hkl2 : k ≤ l.length := by omega
       have hpl : (pcells cur).length = l.length * 2 := by rw [pcells_length, hcl]
       have hzl : (Builtin.zeroCells (Value.agg #[.int .i64 0, .int .i64 0]).cells (l.length - k)).toList.length = (l.length - k) * 2 := by simp [Builtin.zeroCells, Value.cells]
       have hclr : ∀ ty, (Builtin.clear_ #[37] ty #[.slice (some ⟨g, og + k * 2, none⟩) (l.length - k) (cap - k)]).run Tryz.prog wx = .ok (.tuple #[]) (wx.setCells g (og + k * 2) (Builtin.zeroCells (Value.agg #[.int .i64 0, .int .i64 0]).cells (l.length - k)).toList) := by
        intro ty
        obtain ⟨gy, oy, _, hg1, _, _, _, _, hd0, hf0⟩ := hsr.sl_some (by omega)
        obtain ⟨⟨rfl, rfl⟩, -⟩ : (g = gy ∧ og = oy) ∧ _ := by simpa using hg1
        refine run_clear_sliceK wx _ _ ty _ Tryz.underlying37 Tryz.zero_W (by simp [Value.cells, Value.oneCell']) g (og + k * 2) _ _ (by omega) (fun j hj => ?_) (fun j hj => hf0 _)
        simp only [Value.cells, List.size_toArray, List.length_cons, List.length_nil, Nat.zero_add] at hj
        rw [Nat.add_assoc, hd0 (k * 2 + j) _ (List.getElem?_eq_getElem (by omega))]
        rfl
       generalize (Builtin.zeroCells (Value.agg #[.int .i64 0, .int .i64 0]).cells (l.length - k)).toList = zs at hzl hclr
       have hfin : S w0 (wx.setCells g (og + k * 2) zs) (sl 44 2 (.slice (some ⟨g, og, none⟩) k cap) k (pcells (compactP l)) :: L) := by
        have h1 := hsr.sl_setCells zs (k * 2) (by omega)
        have h2 := h1.sl_take k hkl2
        rw [← hc1]
        rw [List.append_assoc, List.take_left' (by rw [List.length_take]; omega)] at h2
        rw [← pcells_take]; exact h2
       have hsl : (compactP l).length = k := by rw [← hc1, List.length_take]; omega
       have HF := hid hfin; have HS2 := hid hsl
       clear hfin hsl hsr hc1 hcur hcl hpl hzl
       go_wp2_with fail
       go_ret
       exact ⟨_, rfl, by rw [HS2.out]; exact HF.out⟩
    ·rw [decide_eq_false hpq] at he
     rw [if_neg hpq] at htk
     have hck2 : compactP (l.take (j + 1 + 1)) = l.take (j + 1 + 1) := by
      rw [htk, hck.out, take_succ_get hp]
     have HK := hid hck2
     clear htk hp hq hg0 hck2 hck hpq
     go_wp2_with fail
     go_region
     go_wp2_with fail
     go_roundw
     case rel => exact ⟨j + 1 + 1, by omega, by omega, by go_num, HK, H.out⟩
     case measure => simp [intOf]; omega
   ·have hkk : k = l.length := by omega
    subst hkk
    have h3 := hck.out
    rw [List.take_length] at h3
    have HF := hid hsr; have H3 := hid h3
    clear hsr hck h3
    go_wp2_with fail
    go_ret
    exact ⟨_, rfl, by rw [H3.out]; exact HF.out⟩
end Go.Proofs.YtcbokjocahnlcaaGreatDoor
/- The library's sort and search over structs at this translation: laid by the kit's tool. -/
namespace Go.Proofs
open Go.Shelf
def Tryz.sortW_ren : Go.Shelf.Ren := ⟨fun | 6 => 59 | 15 => 76 | 14 => 81 | 28 => 96 | 29 => 97 | 20 => 100 | 21 => 101 | 22 => 102 | 23 => 103 | 24 => 104 | 25 => 105 | 26 => 106 | 27 => 107 | 46 => 114 | 47 => 109 | 48 => 110 | 49 => 115 | 50 => 116 | 57 => 118 | n => n, fun | 22 => 37 | 24 => 44 | 25 => 124 | 3 => 3 | 39 => 95 | 0 => 0 | 53 => 178 | 55 => 180 | 4 => 4 | 46 => 171 | 45 => 170 | 50 => 64 | 5 => 5 | 9 => 9 | 66 => 188 | 70 => 192 | 76 => 196 | 77 => 197 | n => n, fun | n => n⟩
theorem Tryz.sortW : Go.Proofs.SlLaysF0.n6 Tryz.prog Tryz.sortW_ren := {
 mixed := by kernel_rfl
 f6 := ⟨Tryz.f59.name, by decide, Tryz.func59.trans (congrArg some (by kernel_rfl))⟩
 f14 := ⟨Tryz.f81.name, by decide, Tryz.func81.trans (congrArg some (by kernel_rfl))⟩
 f15 := Tryz.func76.trans (congrArg some (by kernel_rfl))
 f20 := ⟨Tryz.f100.name, by decide, Tryz.func100.trans (congrArg some (by kernel_rfl))⟩
 f21 := ⟨Tryz.f101.name, by decide, Tryz.func101.trans (congrArg some (by kernel_rfl))⟩
 f22 := ⟨Tryz.f102.name, by decide, Tryz.func102.trans (congrArg some (by kernel_rfl))⟩
 f23 := ⟨Tryz.f103.name, by decide, Tryz.func103.trans (congrArg some (by kernel_rfl))⟩
 f24 := ⟨Tryz.f104.name, by decide, Tryz.func104.trans (congrArg some (by kernel_rfl))⟩
 f25 := ⟨Tryz.f105.name, by decide, Tryz.func105.trans (congrArg some (by kernel_rfl))⟩
 f26 := ⟨Tryz.f106.name, by decide, Tryz.func106.trans (congrArg some (by kernel_rfl))⟩
 f27 := ⟨Tryz.f107.name, by decide, Tryz.func107.trans (congrArg some (by kernel_rfl))⟩
 f28 := Tryz.func96.trans (congrArg some (by kernel_rfl))
 f29 := Tryz.func97.trans (congrArg some (by kernel_rfl))
 f46 := ⟨Tryz.f114.name, by decide, Tryz.func114.trans (congrArg some (by kernel_rfl))⟩
 f47 := Tryz.func109.trans (congrArg some (by kernel_rfl))
 f48 := Tryz.func110.trans (congrArg some (by kernel_rfl))
 f49 := ⟨Tryz.f115.name, by decide, Tryz.func115.trans (congrArg some (by kernel_rfl))⟩
 f50 := ⟨Tryz.f116.name, by decide, Tryz.func116.trans (congrArg some (by kernel_rfl))⟩
 f57 := ⟨Tryz.f118.name, by decide, Tryz.func118.trans (congrArg some (by kernel_rfl))⟩
 t0 := Tryz.underlying0
 a0 := Tryz.isAgg0
 z0 := Tryz.sizeOf0
 v0 := Tryz.zeroValue0
 t3 := Tryz.underlying3
 a3 := Tryz.isAgg3
 z3 := Tryz.sizeOf3
 v3 := Tryz.zeroValue3
 t4 := Tryz.underlying4
 a4 := Tryz.isAgg4
 z4 := Tryz.sizeOf4
 v4 := Tryz.zeroValue4
 t5 := Tryz.underlying5
 a5 := Tryz.isAgg5
 z5 := Tryz.sizeOf5
 v5 := Tryz.zeroValue5
 t9 := Tryz.underlying9
 a9 := Tryz.isAgg9
 z9 := Tryz.sizeOf9
 v9 := Tryz.zeroValue9
 t22 := Tryz.underlying37
 a22 := Tryz.isAgg37
 z22 := Tryz.sizeOf37
 v22 := Tryz.zeroValue37
 t25 := Tryz.underlying124
 a25 := Tryz.isAgg124
 z25 := Tryz.sizeOf124
 v25 := Tryz.zeroValue124
 t39 := Tryz.underlying95
 a39 := Tryz.isAgg95
 z39 := Tryz.sizeOf95
 v39 := Tryz.zeroValue95
 t45 := Tryz.underlying170
 a45 := Tryz.isAgg170
 z45 := Tryz.sizeOf170
 v45 := Tryz.zeroValue170
 t46 := Tryz.underlying171
 a46 := Tryz.isAgg171
 z46 := Tryz.sizeOf171
 v46 := Tryz.zeroValue171
 t50 := Tryz.underlying64
 a50 := Tryz.isAgg64
 z50 := Tryz.sizeOf64
 v50 := Tryz.zeroValue64
 t53 := Tryz.underlying178
 a53 := Tryz.isAgg178
 z53 := Tryz.sizeOf178
 v53 := Tryz.zeroValue178
 t55 := Tryz.underlying180
 a55 := Tryz.isAgg180
 z55 := Tryz.sizeOf180
 v55 := Tryz.zeroValue180
 t66 := Tryz.underlying188
 a66 := Tryz.isAgg188
 z66 := Tryz.sizeOf188
 v66 := Tryz.zeroValue188
 t70 := Tryz.underlying192
 a70 := Tryz.isAgg192
 z70 := Tryz.sizeOf192
 v70 := Tryz.zeroValue192
 t76 := Tryz.underlying196
 a76 := Tryz.isAgg196
 z76 := Tryz.sizeOf196
 v76 := Tryz.zeroValue196
 t77 := Tryz.underlying197
 a77 := Tryz.isAgg197
 z77 := Tryz.sizeOf197
 v77 := Tryz.zeroValue197 }
def Tryz.ixOp_ren : Go.Shelf.Ren := ⟨fun | 6 => 55 | n => n, fun | 22 => 55 | 23 => 59 | 25 => 120 | 3 => 3 | 0 => 0 | 4 => 4 | n => n, fun | n => n⟩
theorem Tryz.ixOp : Go.Proofs.SlLaysH0.n6 Tryz.prog Tryz.ixOp_ren := {
 mixed := by kernel_rfl
 f6 := ⟨Tryz.f55.name, by decide, Tryz.func55.trans (congrArg some (by kernel_rfl))⟩
 t0 := Tryz.underlying0
 a0 := Tryz.isAgg0
 z0 := Tryz.sizeOf0
 v0 := Tryz.zeroValue0
 t3 := Tryz.underlying3
 a3 := Tryz.isAgg3
 z3 := Tryz.sizeOf3
 v3 := Tryz.zeroValue3
 t4 := Tryz.underlying4
 a4 := Tryz.isAgg4
 z4 := Tryz.sizeOf4
 v4 := Tryz.zeroValue4
 t22 := Tryz.underlying55
 a22 := Tryz.isAgg55
 z22 := Tryz.sizeOf55
 v22 := Tryz.zeroValue55
 t25 := Tryz.underlying120
 a25 := Tryz.isAgg120
 z25 := Tryz.sizeOf120
 v25 := Tryz.zeroValue120 }
end Go.Proofs
/- order.Edges: its closures, the search, the sort. -/
namespace Go.Sep
open Go Go.RowKit Go.Sort Go.Proofs Go.Shelf
theorem S.sl_row {w w0 : World} {L : List HProp} {e size n g o cap : Nat} {xs : List Value} (h : S w0 w (sl e size (.slice (some ⟨g, o, none⟩) n cap) n xs :: L)) : Holds id w g o xs.toArray ∧ g < w.heap.size ∧
  ∀ (ys : List Value) (k : Nat) (os : Array Obj), ys.length = xs.length → S w0 (grow (putRow id (Sort.ahead w k) g o ys.toArray) os) (sl e size (.slice (some ⟨g, o, none⟩) n cap) n ys :: L) := by
 rcases h.sl_elim with ⟨hv, _⟩ | ⟨g', cap', pre, sp, post, hp, hb⟩
 ·simp at hv
 have hv := hp.val
 simp at hv
 obtain ⟨⟨rfl, rfl⟩, rfl⟩ := hv
 refine ⟨fun j hj => ?_, hb.blk_lt, fun ys k os hm => ?_⟩
 ·have hj' : j < xs.length := by simpa using hj
  refine ⟨?_, hb.blk_free _⟩
  refine hb.blk_cell (pre.length + j) ?_
  rw [List.getElem?_append_right (by omega), Nat.add_sub_cancel_left, List.getElem?_append_left hj']
  simp [hj']
 ·have hh := hb.blk_heap
  have h1 := heap_putRow (w := w) id (off := pre.length) (n := k) (os := os) ys.toArray hh
  have e1 : putCells id pre.length ys.toArray (pre ++ (xs ++ (sp ++ post))).toArray = (pre ++ (ys ++ (sp ++ post))).toArray := by
   apply Array.toList_inj.1
   have := putCells_mid id pre (sp ++ post) xs ys hm
   simpa using this
  rw [e1] at h1
  have h2 := hb.blk_turn (grownBy_putRow id (off := pre.length) (n := k) (os := os) ys.toArray) h1
  exact .sl_intro ⟨rfl, by rw [hm, hp.len], by have := hp.room; omega, hp.le, hp.max⟩ h2
theorem flatK_eq {α : Type} [Inhabited α] (enc : α → List Value) (k : Nat) (hk : ∀ x, (enc x).length = k) (hk0 : 0 < k) (l : List α) : flatK enc k l.toArray = (l.flatMap enc).toArray := by
 apply Array.toList_inj.1
 have hlen : (l.flatMap enc).length = l.length * k := by
  induction l with
  | nil => simp
  | cons a l ih => simp [hk, Nat.add_mul, ih]; omega
 apply List.ext_getElem?
 intro t
 by_cases ht : t < l.length * k
 ·have hq : t / k < l.length := by rw [Nat.div_lt_iff_lt_mul hk0]; exact ht
  have hr := Nat.mod_lt t hk0
  have h1 : (flatK enc k l.toArray).toList[t]? = some ((enc l[t / k])[t % k]'(by rw [hk]; exact hr)) := by
   have := get_flatK enc k l.toArray t (by simpa using ht)
   rw [Array.getElem?_toList, Array.getElem?_eq_getElem (by simpa using ht)]
   congr 1
   rw [← getElem!_pos (flatK enc k l.toArray) t (by simpa using ht), this]
   rw [getElem!_pos l.toArray (t / k) (by simpa using hq)]
   rw [getElem!_pos _ (t % k) (by rw [hk]; exact hr)]
   simp
  rw [h1]
  have h2 := fcells_at (f := enc) hk (l := l) (j := t / k) (a := l[t / k]) (c := t % k) (u := (enc l[t / k])[t % k]'(by rw [hk]; exact hr)) (by simp [hq]) (by simp [hk, hr])
  rw [show t / k * k + t % k = t by rw [Nat.mul_comm]; exact Nat.div_add_mod t k] at h2
  unfold fcells at h2
  simpa using h2.symm
 ·have h3 : (l.flatMap enc).length ≤ t := by rw [hlen]; omega
  rw [List.getElem?_eq_none (by simpa using ht), List.getElem?_eq_none (by simpa only [List.size_toArray] using h3)]
end Go.Sep
namespace Go.Proofs.YtcbokjocahnlcaaGreatDoor
open Go Go.RowKit Go.Sep Go.Shelf Go.Lib Go.Sort
def ocells (o : Op1) : List Value := [.int .i64 o.tx, .int .i64 o.key, .bool o.wr, .int .i64 o.fr]
instance : Inhabited Op1 := ⟨⟨0, 0, false, 0⟩⟩
theorem bad_pred (w : World) : PredBelow Tryz.prog 56 #[] (fun o => .agg (ocells o).toArray) badOp w := fun W x hb => by
 obtain ⟨tx, key, wr, fr⟩ := x
 show Calls Tryz.prog 56 #[.agg #[.int .i64 tx, .int .i64 key, .bool wr, .int .i64 fr]] W _
 have hbad : badOp ⟨tx, key, wr, fr⟩ = (decide (tx < 1) || decide (fr < 0) || decide (key < 0) || decide (10 ≤ key)) := by simp [badOp, Bool.decide_or, Bool.or_assoc]
 rw [hbad]
 clear hbad
 have hfin := hb.alloc hb.size (.cells #[.int .i64 tx, .int .i64 key, .bool wr, .int .i64 fr] 59)
 have HB := hid hfin
 clear hfin hb
 go_enter Tryz.func56, Tryz.ntmps56
 go_wp2
 all_goals (go_ret; exact ⟨by simp_all, HB.out⟩)
set_option maxRecDepth 40000 in
set_option maxHeartbeats 4000000 in
theorem add_any (w0 w : World) (bx : Nat) (l : List (Int × Int)) (a b : Int) (L : List HProp) (hs : S w0 w (outP 37 44 bx l :: L)) (hb : l.length ≤ 1000000) :
  Calls Tryz.prog 57 #[.int .i64 a, .int .i64 b, .pointer (some ⟨bx, 0, none⟩)] w fun e w' => e = .returned (.tuple #[]) ∧ S w0 w' (outP 37 44 bx (l ++ addE a b) :: L) := by
 by_cases h : a ≠ b ∧ a ≠ 0
 ·have ha : addE a b = [(a, b)] := by unfold addE; rw [if_pos h]
  have h1 : (a != b) = true := by simpa using h.1
  have h2 : (a != 0) = true := by simpa using h.2
  rw [ha]
  obtain ⟨v, hv⟩ := hs.out_elim
  have c0 := hv.blk_cell 0 rfl
  obtain ⟨av, cv, rfl, _, _, _⟩ := hv.swap.sl_val
  have hs7 := hv.swap.alloc #[.int .i64 a, .int .i64 b] 44
  have hn7 := news_blk hs7
  have hs8 := hs7.tail
  obtain ⟨i0, hi0, hz0, hz1, hz2⟩ := info_parts Tryz.info44
  have hpl := pcells_length l
  have H8 := hid hs8; have HN := hid hn7; have HL := hid hpl
  clear hs hv hs7 hs8 hn7 h ha hpl
  go_enter Tryz.func57, Tryz.ntmps57
  go_wp2_with (at_builtin; refine wpList_append rfl (.tmp 12) (.tmp 16) 37 rfl 44 i0 (.agg #[.int .i64 0, .int .i64 0]) 2 16 Tryz.underlying37 hi0 hz0 hz1 hz2 rfl (by decide) H8.out rfl (some ⟨w.heap.size, 0, none⟩) 1 1 [.int .i64 a, .int .i64 b] rfl rfl HN.out (by simp [Value.oneCell']) (by unfold maxLen; omega) (by omega) ?_; intro v1 w5 hs6; obtain ⟨a6, c6', rfl, _, _, _⟩ := hs6.sl_val; have c6 := hs6.swap.blk_cell 0 rfl; have f6 := hs6.swap.blk_free 0; have H6 := hid hs6; clear hs6)
  go_end0
  refine ⟨rfl, S.out_intro (v := .slice a6 (l.length + 1) c6') ?_⟩
  have h9 := H6.out.swap.blk_set 0 (by simp) (.slice a6 (l.length + 1) c6')
  rw [List.length_append, pcells_append]
  exact h9
 ·have ha : addE a b = [] := by unfold addE; rw [if_neg h]
  rw [ha, List.append_nil]
  have H := hid hs
  clear hs ha
  by_cases h1 : a = b
  ·subst h1
   clear h
   go_enter Tryz.func57, Tryz.ntmps57
   go_wp2_with fail
   go_end0
   exact ⟨rfl, H.out⟩
  ·have h0 : a = 0 := by
    by_cases h0 : a = 0
    ·exact h0
    ·exact absurd ⟨h1, h0⟩ h
   subst h0
   have h1 : ((0 : Int) != b) = true := by simpa using h1
   clear h
   go_enter Tryz.func57, Tryz.ntmps57
   go_wp2_with fail
   go_end0
   exact ⟨rfl, H.out⟩
abbrev W2 : Type := { p : Int × Int // (0 ≤ p.1 ∧ p.1 ≤ 9223372036854775807) ∧ (0 ≤ p.2 ∧ p.2 ≤ 9223372036854775807) }
instance : Inhabited W2 := ⟨⟨(0, 0), by omega⟩⟩
def encW (p : W2) : List Value := [.int .i64 p.1.1, .int .i64 p.1.2]
def cfW (p q : W2) : Int := if p.1.1 ≠ q.1.1 then p.1.1 - q.1.1 else p.1.2 - q.1.2
instance (a b : Int × Int) : Decidable (ltP a b) := by unfold ltP; infer_instance
theorem ltW (p q : W2) : ltOf cfW p q = decide (ltP p.1 q.1) := by
 unfold ltOf cfW ltP
 by_cases h : p.1.1 = q.1.1
 ·simp [h]; omega
 ·simp [h]; omega
theorem swoW : SWO (ltOf cfW) where
 irrefl x := by rw [ltW]; simpa using ltP.irrefl x.1
 trans x y z h1 h2 := by rw [ltW] at *; simp only [decide_eq_true_eq] at *; exact h1.trans h2
 ntrans x y z h1 h2 := by rw [ltW, decide_eq_false_iff_not] at *; unfold ltP at *; omega
theorem totW (x y : W2) (h : ltOf cfW x y = false) (h2 : ltOf cfW y x = false) : x = y := by
 rw [ltW, decide_eq_false_iff_not] at *
 unfold ltP at *
 exact Subtype.ext (Prod.ext (by omega) (by omega))
set_option maxRecDepth 40000 in
set_option maxHeartbeats 4000000 in
theorem cmp_any (x y : W2) (W : World) : Calls Tryz.prog 60 #[.agg (encW x).toArray, .agg (encW y).toArray] W fun e w' => e = .returned (.int .i64 (cfW x y)) ∧ ∃ q os', w' = grow (W.drewN q) os' := by
 obtain ⟨⟨a, b⟩, ⟨ha0, ha1⟩, hb0, hb1⟩ := x
 obtain ⟨⟨c, d⟩, ⟨hc0, hc1⟩, hd0, hd1⟩ := y
 show Calls Tryz.prog 60 #[.agg #[.int .i64 a, .int .i64 b], .agg #[.int .i64 c, .int .i64 d]] W fun e w' => e = .returned (.int .i64 (if a ≠ c then a - c else b - d)) ∧ ∃ q os', w' = grow (W.drewN q) os'
 by_cases h : a = c
 ·subst h
  go_enter Tryz.func60, Tryz.ntmps60
  go_wp2_with fail
  go_ret
  exact ⟨by simp, 0, _, by rw [alloc_eq_grow, alloc_eq_grow, grow_grow]; rfl⟩
 ·have h1 : (a != c) = true := by simpa using h
  go_enter Tryz.func60, Tryz.ntmps60
  go_wp2_with fail
  go_ret
  exact ⟨by simp, 0, _, by rw [alloc_eq_grow, alloc_eq_grow, grow_grow]; rfl⟩
end Go.Proofs.YtcbokjocahnlcaaGreatDoor
namespace Go.Proofs.YtcbokjocahnlcaaGreatDoor
open Go Go.RowKit Go.Sep Go.Shelf Go.Lib Go.Sort
theorem pcells_W2 : ∀ ls : List W2, pcells (ls.map (·.1)) = ls.flatMap encW
 | [] => rfl
 | p :: ls => by
  have := pcells_W2 ls
  simp only [pcells, List.map_cons, List.flatMap_cons] at this ⊢
  rw [this]; rfl
def boundP (p : Int × Int) : Prop := (0 ≤ p.1 ∧ p.1 ≤ 9223372036854775807) ∧ (0 ≤ p.2 ∧ p.2 ≤ 9223372036854775807)
theorem toW2 {l : List (Int × Int)} (h : ∀ p ∈ l, boundP p) : ∃ ls : List W2, ls.map (·.1) = l := by
 induction l with
 | nil => exact ⟨[], rfl⟩
 | cons p l ih =>
  obtain ⟨ls, hl⟩ := ih fun p hp => h p (by simp [hp])
  exact ⟨⟨p, h p (by simp)⟩ :: ls, by simp [hl]⟩
theorem Tryz.entersCmp : ∀ args w, (callFunc 60 args).run Tryz.prog w = .ok (.enter 60 args) w := enters_of Tryz.func60 (by kernel_rfl) rfl
theorem sortW_any (w0 w : World) (v : Value) (l : List (Int × Int)) (L : List HProp) (hs : S w0 w (sl 44 2 v l.length (pcells l) :: L)) (hb : l.length ≤ 1000000) (hp : ∀ p ∈ l, boundP p) :
  Calls Tryz.prog 59 #[v, .func (.func 60) #[] #[]] w fun e w' => e = .returned (.tuple #[]) ∧ ∃ srt : List (Int × Int), srt.Perm l ∧ srt.Pairwise leP ∧ S w0 w' (sl 44 2 v srt.length (pcells srt) :: L) := by
 rcases Nat.eq_zero_or_pos l.length with h0 | hpos
 ·obtain rfl := List.eq_nil_of_length_eq_zero h0
  obtain ⟨a, cap, rfl, _⟩ := hs.sl_val
  exact (AnyF.slices_SortFunc_none Tryz.sortW a cap _ w).mono fun e w' ⟨h1, h2⟩ => ⟨h1, [], List.Perm.refl _, List.Pairwise.nil, by rw [h2]; exact hs⟩
 ·obtain ⟨ls, rfl⟩ := toW2 hp
  rw [List.length_map] at hs hpos hb
  rw [pcells_W2] at hs
  have hlen : (ls.flatMap encW).length = ls.length * 2 := by rw [← pcells_W2, pcells_length, List.length_map]
  obtain ⟨g, o, cap, rfl, _⟩ := hs.sl_some (by omega)
  obtain ⟨h1, h2, h3⟩ := hs.sl_row
  have hH : HoldsK encW 2 w g o ls.toArray := by
   unfold HoldsK
   rw [flatK_eq encW 2 (fun _ => rfl) (by omega)]
   exact h1
  have hcon := AnyQ.slices_SortFunc_total Tryz.sortW 2 Tryz.isAgg44 Tryz.sizeOf44 encW (fun _ => rfl) (fun x v hv => by simp [encW] at hv; rcases hv with rfl | rfl <;> rfl) cfW swoW 60 #[] g o cap ls.toArray w
   Tryz.entersCmp (fun _ _ _ _ x y => cmp_any x y _) hH h2 (by simpa using (by omega : ls.length < 4611686018427387904)) totW
  refine Calls.mono hcon fun e w' ⟨he, n, os, hw⟩ => ⟨he, ?_⟩
  have hsz : ls.toArray.size = ls.length := by simp
  let srt := ls.mergeSort fun x y => !(ltOf cfW) y x
  have hperm : srt.Perm ls := List.mergeSort_perm _ _
  have hsl : srt.length = ls.length := hperm.length_eq
  refine ⟨srt.map (·.1), hperm.map _, ?_, ?_⟩
  ·have hpw : srt.Pairwise fun x y => (!(ltOf cfW) y x) = true := by
    refine List.pairwise_mergeSort ?_ ?_ ls
    ·intro a b c h1 h2
     rw [Bool.not_eq_true', ltW, decide_eq_false_iff_not] at *
     unfold ltP at *; omega
    ·intro a b
     rw [ltW, ltW]
     by_cases h : ltP b.1 a.1
     ·have : ¬ ltP a.1 b.1 := fun h2 => h.asymm h2
      simp [h, this]
     ·simp [h]
   rw [List.pairwise_map]
   refine hpw.imp fun {a b} h => ?_
   rw [Bool.not_eq_true', ltW, decide_eq_false_iff_not] at h
   unfold ltP at h; unfold leP; omega
  ·rw [hw, List.length_map, hsl, pcells_W2]
   have h5 := h3 (srt.flatMap encW) n os (by rw [hlen, ← hsl, ← List.length_map (f := fun x : W2 => x.1), ← pcells_length, pcells_W2])
   have e : sortWorldK encW 2 w g o n srt.toArray os = grow (putRow id (Sort.ahead w n) g o (srt.flatMap encW).toArray) os := by
    unfold sortWorldK putRowK
    rw [flatK_eq encW 2 (fun _ => rfl) (by omega)]
   rw [show (List.mergeSort ls.toArray.toList fun x y => !(ltOf cfW) y x) = srt by simp [srt], e]
   exact h5
def badIx (l : List Op1) : Int := Lib.idxBy (fun _ y => badOp y) l default
theorem badIx_cases (l : List Op1) : (badIx l = -1 ∧ ∀ o ∈ l, badOp o = false) ∨ ∃ k : Nat, badIx l = k ∧ k < l.length ∧ ∃ o, l[k]? = some o ∧ badOp o = true ∧ ∀ j < k, ∀ o, l[j]? = some o → badOp o = false := by
 rcases hf : l.findIdx? badOp with _ | k
 ·left
  rw [List.findIdx?_eq_none_iff] at hf
  refine ⟨?_, fun o ho => by simpa using hf o ho⟩
  unfold badIx Lib.idxBy
  refine Lib.idxByFrom_miss _ _ l 0 fun j hj => ?_
  rw [getElem!_pos l j hj]
  simpa using hf _ (List.getElem_mem hj)
 ·right
  rw [List.findIdx?_eq_some_iff_getElem] at hf
  obtain ⟨hk, h1, h2⟩ := hf
  refine ⟨k, ?_, hk, l[k], by simp [hk], h1, fun j hj o ho => ?_⟩
  ·unfold badIx Lib.idxBy
   have := Lib.idxByFrom_hit (fun _ y => badOp y) default l k 0 hk (by rw [getElem!_pos l k hk]; exact h1) (fun j hj => by rw [getElem!_pos l j (by omega)]; simpa using h2 j hj)
   simpa using this
  ·obtain ⟨hj2, rfl⟩ := List.getElem?_eq_some_iff.1 ho
   simpa using h2 j hj
theorem ocells_length (o : Op1) : (ocells o).length = 4 := rfl
theorem Tryz.entersBad : ∀ args w, (callFunc 56 args).run Tryz.prog w = .ok (.enter 56 args) w := enters_of Tryz.func56 (by kernel_rfl) rfl
theorem badnil_any (w : World) (a : Option Addr) (cap : Nat) : Calls Tryz.prog 55 #[.slice a 0 cap, .func (.func 56) #[] #[]] w fun e w' => e = .returned (.int .i64 (-1)) ∧ w = w' := by
 go_enter Tryz.func55, Tryz.ntmps55
 go_wp2_with fail
 go_loopw [8] (fun x wr => x = .int .i64 0 ∧ wr = w) (fun _ _ => 0)
 case atStart => exact ⟨rfl, rfl⟩
 case round =>
  obtain ⟨rfl, rfl⟩ := hrel
  go_wp2_with fail
  go_ret
  exact ⟨rfl, rfl⟩
theorem bad_any (w0 w : World) (v : Value) (l : List Op1) (L : List HProp) (hs : S w0 w L) (hr : RdK w0 L v l.length (fcells ocells l)) (hb : l.length ≤ 1000000) :
  Calls Tryz.prog 55 #[v, .func (.func 56) #[] #[]] w fun e w' => e = .returned (.int .i64 (badIx l)) ∧ S w0 w' L := by
 obtain ⟨a, cap, rfl, hcap, hcap2, hrd⟩ := hr w hs
 rcases Nat.eq_zero_or_pos l.length with h0 | hpos
 ·obtain rfl := List.eq_nil_of_length_eq_zero h0
  exact (badnil_any w a cap).mono fun e w' ⟨h1, h2⟩ => ⟨h1, by rw [← h2]; exact hs⟩
 ·obtain ⟨b, o, rfl, hcell⟩ := hr.fc ocells_length hs (show l[0]? = some l[0] by simp [hpos]) (by omega)
  have hblt : b < w.heap.size := World.block_lt_of_cell? w _ (hcell w hs 0 _ rfl)
  have hcon := AnyQ.slices_IndexFunc Tryz.ixOp 4 Tryz.isAgg59 Tryz.sizeOf59 ocells ocells_length badOp 56 #[] Tryz.entersBad b o l.length cap l w
   (bad_pred w) (Nat.le_refl _) (by omega) hblt (fun j hj i v hi => by
    rw [getElem!_pos l j hj] at hi
    obtain ⟨b', o', hbo, hc'⟩ := hr.fc ocells_length hs (show l[j]? = some l[j] by simp [hj]) (by omega)
    simp only [Option.some.injEq, Addr.mk.injEq] at hbo
    obtain ⟨rfl, rfl, -⟩ := hbo
    exact hc' w hs i v hi)
  rw [List.take_length] at hcon
  exact Calls.mono hcon fun e w' ⟨h1, h2⟩ => ⟨h1, hs.onto h2⟩
theorem ixint_any (w0 w : World) (v : Value) (l : List Int) (x : Int) (L : List HProp) (hs : S w0 w L) (hr : RdK w0 L v l.length (icells l)) (hb : l.length ≤ 1000000) :
  Calls Tryz.prog 58 #[v, .int .i64 x] w fun e w' => e = .returned (.int .i64 (Lib.idxOf l x)) ∧ w = w' := by
 obtain ⟨a, cap, rfl, hcap, hcap2, hrd⟩ := hr w hs
 rcases Nat.eq_zero_or_pos l.length with h0 | hpos
 ·obtain rfl := List.eq_nil_of_length_eq_zero h0
  exact (Tryz.slices_Index_int_empty a cap x w).mono fun e w' ⟨h1, h2⟩ => ⟨h1, h2.symm⟩
 ·obtain ⟨b, o, hbo, _⟩ := hrd 0 _ (icells_at (show l[0]? = some l[0] by simp [hpos]))
  subst hbo
  have hcon := Tryz.slices_Index_int b o l.length cap l x w (Nat.le_refl _) (by omega) (fun j hj => by
   obtain ⟨b', o', hbo, hc'⟩ := hrd j _ (icells_at (show l[j]? = some l[j] by simp [hj]))
   simp only [Option.some.injEq, Addr.mk.injEq] at hbo
   obtain ⟨rfl, rfl, -⟩ := hbo
   rw [hc']; simp [List.getD, hj])
  rw [List.take_length] at hcon
  exact hcon.mono fun e w' ⟨h1, h2⟩ => ⟨h1, h2.symm⟩
end Go.Proofs.YtcbokjocahnlcaaGreatDoor
