/- Regions in which several slices are made: what each step leaves, whatever the order. -/
import Derived.Test.YtmfngjclccehaaaGreatDoorZ0
import Derived.Lib.SliceRun
import Derived.WalkKit
import Derived.Test.YtmfngjclccehaaaGreatDoorZ2
import Derived.Test.YtmfngjclccehaaaGreatDoorZ1
import Derived.Deep.RegionHeldLaw
/- Owned slices: cut short, cut ahead, and wiped. No program in sight. -/
namespace Go.Sep
open Go Go.RowKit
variable {w w0 : World} {L : List HProp} {e : TypeId} {size n : Nat} {v : Value} {xs : List Value}
theorem S.sl_take {a : Option Addr} {cap : Nat} (h : S w0 w (sl e size (.slice a n cap) n xs :: L)) (i : Nat) (hi : i ≤ n) : S w0 w (sl e size (.slice a i cap) i (xs.take (i * size)) :: L) := by
 rcases h.sl_elim with ⟨hv, rfl, rfl, k⟩ | ⟨g, cap', pre, sp, post, hp, k⟩
 ·obtain rfl : i = 0 := by omega
  simp at hv
  obtain ⟨rfl, rfl⟩ := hv
  simpa using k.sl_nil (e := e) (size := size)
 ·have hv := hp.val
  simp at hv
  obtain ⟨rfl, rfl⟩ := hv
  have hl := hp.len
  have hle : i * size ≤ n * size := Nat.mul_le_mul_right _ hi
  refine .sl_intro (g := g) (cap := cap) (pre := pre) (sp := xs.drop (i * size) ++ sp) (post := post) ⟨rfl, by rw [List.length_take]; omega, ?_, Nat.le_trans hi hp.le, hp.max⟩ ?_
  ·have := hp.room
   simp only [List.length_take, List.length_append, List.length_drop]
   omega
  ·simpa [← List.append_assoc] using k
theorem S.sl_drop {g o cap : Nat} (h : S w0 w (sl e size (.slice (some ⟨g, o, none⟩) n cap) n xs :: L)) (i : Nat) (hi : i ≤ n) : S w0 w (sl e size (.slice (some ⟨g, o + i * size, none⟩) (n - i) (cap - i)) (n - i) (xs.drop (i * size)) :: L) := by
 rcases h.sl_elim with ⟨hv, rfl, rfl, k⟩ | ⟨g', cap', pre, sp, post, hp, k⟩
 ·simp at hv
 ·have hv := hp.val
  simp at hv
  obtain ⟨⟨rfl, rfl⟩, rfl⟩ := hv
  have hl := hp.len
  have hle : i * size ≤ n * size := Nat.mul_le_mul_right _ hi
  have hle2 : i * size ≤ cap * size := Nat.mul_le_mul_right _ (Nat.le_trans hi hp.le)
  have hr := hp.room
  refine .sl_intro (g := g) (cap := cap - i) (pre := pre ++ xs.take (i * size)) (sp := sp) (post := post) ⟨?_, ?_, ?_, by have := hp.le; omega, by have := hp.max; omega⟩ ?_
  ·rw [List.length_append, List.length_take, Nat.min_eq_left (by omega)]
  ·rw [List.length_drop, Nat.sub_mul]; omega
  ·rw [List.length_drop, Nat.sub_mul]; omega
  ·have e1 : pre ++ xs.take (i * size) ++ (xs.drop (i * size) ++ (sp ++ post)) = pre ++ (xs ++ (sp ++ post)) := by
    rw [List.append_assoc, ← List.append_assoc (xs.take _), List.take_append_drop]
   rw [e1]; exact k
theorem S.sl_setCells : ∀ (us : List Value) {w : World} {xs : List Value} {g o cap : Nat} (j : Nat), S w0 w (sl e size (.slice (some ⟨g, o, none⟩) n cap) n xs :: L) → j + us.length ≤ xs.length →
  S w0 (w.setCells g (o + j) us) (sl e size (.slice (some ⟨g, o, none⟩) n cap) n (xs.take j ++ us ++ xs.drop (j + us.length)) :: L)
 | [], w, xs, g, o, cap, j, h, hj => by simpa [World.setCells] using h
 | u :: us, w, xs, g, o, cap, j, h, hj => by
  simp only [List.length_cons] at hj
  have h1 := h.sl_set rfl j (by omega) u
  have h2 := S.sl_setCells us (j + 1) h1 (by simp; omega)
  rw [World.setCells]
  have e1 : (xs.set j u).take (j + 1) = xs.take j ++ [u] := by
   rw [List.take_set, List.set_eq_take_append_cons_drop]
   simp only [List.length_take, List.take_take, List.drop_take]
   rw [if_pos (by omega)]
   simp
  have e2 : (xs.set j u).drop (j + 1 + us.length) = xs.drop (j + (us.length + 1)) := by
   rw [List.drop_set, if_pos (by omega), show j + 1 + us.length = j + (us.length + 1) by omega]
  rw [e1, e2] at h2
  simpa [Nat.add_assoc] using h2
end Go.Sep
/- Assertions in whatever order. No program in sight. -/
namespace Go.Sep
open Go Go.RowKit
instance : Std.Associative sep := ⟨sep_assoc⟩
instance : Std.Commutative sep := ⟨sep_comm⟩
theorem S.sl_tail1 {w w0 : World} {L : List HProp} {e : TypeId} {g o n cap : Nat} {x : Value} {xs : List Value} (h : S w0 w (sl e 1 (.slice (some ⟨g, o, none⟩) (n + 1) cap) (n + 1) (x :: xs) :: L)) :
  S w0 w (sl e 1 (.slice (if cap = 1 then some ⟨g, o, none⟩ else some ⟨g, o + 1, none⟩) n (cap - 1)) n xs :: L) := by
 by_cases hc : cap = 1
 ·subst hc
  rcases h.sl_elim with ⟨hv, _⟩ | ⟨g', cap', pre, sp, post, hp, hb⟩
  ·simp at hv
  have hv := hp.val
  simp at hv
  obtain ⟨⟨rfl, rfl⟩, rfl⟩ := hv
  have h1 := hp.le
  obtain rfl : n = 0 := by omega
  have h2 := hp.len
  simp only [List.length_cons] at h2
  obtain rfl : xs = [] := List.eq_nil_of_length_eq_zero (by omega)
  exact .sl_intro (g := g) (cap := 0) (pre := pre) (sp := []) (post := x :: (sp ++ post)) ⟨rfl, rfl, rfl, Nat.le_refl _, by simp⟩ (by simpa using hb)
 ·rw [if_neg hc]
  have := h.sl_drop 1 (by omega)
  simpa using this
end Go.Sep
/- Lists of things of several cells each, in slices. No program in sight. -/
namespace Go.Sep
open Go Go.RowKit
section
variable {α : Type} {f : α → List Value} {n : Nat}
def fcells (f : α → List Value) (l : List α) : List Value := l.flatMap f
theorem fcells_length (hf : ∀ a, (f a).length = n) (l : List α) : (fcells f l).length = l.length * n := by
 induction l with
 | nil => simp [fcells]
 | cons p l ih => simp only [fcells, List.flatMap_cons, List.length_append, List.length_cons] at ih ⊢; rw [ih, hf, Nat.add_mul]; omega
theorem fcells_append (l m : List α) : fcells f (l ++ m) = fcells f l ++ fcells f m := by simp [fcells]
theorem fcells_one (a : α) : fcells f [a] = f a := by simp [fcells]
theorem fcells_nil : fcells f [] = [] := rfl
theorem fcells_at (hf : ∀ a, (f a).length = n) : ∀ {l : List α} {j : Nat} {a : α} {c : Nat} {u : Value}, l[j]? = some a → (f a)[c]? = some u → (fcells f l)[j * n + c]? = some u
 | [], _, _, _, _, h, _ => by simp at h
 | q :: l, 0, p, c, u, h, hu => by
  simp at h; subst h
  have hc := (List.getElem?_eq_some_iff.1 hu).1
  simp only [fcells, List.flatMap_cons, Nat.zero_mul, Nat.zero_add]
  rw [List.getElem?_append_left hc]; exact hu
 | q :: l, j + 1, p, c, u, h, hu => by
  have := fcells_at hf (l := l) (j := j) (a := p) (c := c) (u := u) (by simpa using h) hu
  simp only [fcells, List.flatMap_cons] at this ⊢
  rw [List.getElem?_append_right (by rw [hf, Nat.add_mul]; omega), hf, show (j + 1) * n + c - n = j * n + c by rw [Nat.add_mul]; omega]
  exact this
theorem S.sl_f {w0 w : World} {L : List HProp} {e : TypeId} {size : Nat} {a : Option Addr} {m cap : Nat} {l : List α} (h : S w0 w (sl e size (.slice a m cap) m (fcells f l) :: L)) (hf : ∀ a, (f a).length = n) {i : Nat} {p : α} (hp : l[i]? = Option.some p) (hn : 0 < n) :
  ∃ b o, a = Option.some ⟨b, o, none⟩ ∧ b < w.heap.size ∧ ∀ c u, (f p)[c]? = some u → w.cell? ⟨b, o + i * n + c, none⟩ = some u := by
 have hi := (List.getElem?_eq_some_iff.1 hp).1
 have hpos : 0 < (fcells f l).length := by rw [fcells_length hf]; exact Nat.mul_pos (by omega) hn
 obtain ⟨b, o, cap', hv, _, _, _, hlt, hrd, _⟩ := h.sl_some hpos
 simp only [Value.slice.injEq] at hv
 obtain ⟨rfl, -, rfl⟩ := hv
 refine ⟨b, o, rfl, hlt, fun c u hu => ?_⟩
 rw [Nat.add_assoc]; exact hrd _ _ (fcells_at hf hp hu)
end
end Go.Sep
/- Transactions at the same time: the memory of the program's engine. No walk in sight. -/
namespace Go.Proofs.YtmfngjclccehaaaGreatDoor
open Go Go.RowKit Go.Sep
structure TxV where
 rv : Value
 fv : Value
 av : Value
 mb : Nat
def TxV.none : TxV := ⟨.slice Option.none 0 0, .slice Option.none 0 0, .slice Option.none 0 0, 0⟩
def blkOf (bs : List Nat) (j : Nat) : Nat := (bs[j]?).getD 0
def ptr (bs : List Nat) (j : Nat) : Value := .pointer (some ⟨blkOf bs j, 0, none⟩)
def ptrs (bs : List Nat) (l : List Nat) : List Value := l.map (ptr bs)
def txF (v : TxV) (x : Tx) : List Value :=
 [.int .i64 x.level, .int .i64 x.state, .int .i64 x.start, .int .i64 x.begun, .int .i64 x.ended, v.rv, .map (some v.mb), .int .i64 x.want.1, .int .i64 x.want.2, v.fv, v.av, .int .i64 x.why]
def txR (bs : List Nat) (v : TxV) (x : Tx) : HProp :=
 sep (sl 139 2 v.rv x.reads.length (pcells x.reads)) (sep (mp encI (fun _ => True) v.mb (ienc x.writes)) (sep (sl 120 1 v.fv x.fore.length (ptrs bs x.fore)) (sl 120 1 v.av x.aft.length (ptrs bs x.aft))))
def txK (bs : List Nat) (b : Nat) (v : TxV) (x : Tx) : HProp := sep (blk b 123 (txF v x)) (txR bs v x)
def txPs (bs : List Nat) (tv : List TxV) (txs : List Tx) : List HProp := (List.range txs.length).map fun i => txK bs (blkOf bs i) ((tv[i]?).getD .none) ((txs[i]?).getD .zero)
def opc (o : Op1) : List Value := [.int .i64 o.tx, .int .i64 o.key, .bool o.wr, .int .i64 o.fr]
def engG (b : Nat) (bs : List Nat) (txv hv : Value) (wb : Nat) (n : Nat) (count : Int) (wr : List (Int × Int)) (hist : List Op1) (ps : List HProp) : HProp :=
 sep (pur (bs.length = n ∧ ps.length = n ∧ bs.Nodup)) (sep (shp b 67 18) (sep (cells b 14 [txv, .int .i64 count, .map (some wb), hv]) (sep (sl 120 1 txv n (ptrs bs (List.range n)))
  (sep (mp encI (fun _ => True) wb (ienc wr)) (sep (sl 129 4 hv hist.length (fcells opc hist)) (all ps))))))
structure EngV where
 tv : List TxV
 txv : Value
 hv : Value
 wb : Nat
def EngV.v (k : EngV) (i : Nat) : TxV := (k.tv[i]?).getD .none
def EngV.set (k : EngV) (i : Nat) (v : TxV) : EngV := { k with tv := k.tv.set i v }
def engO (b : Nat) (bs : List Nat) (k : EngV) (e : Eng) : HProp := sep (pur (k.tv.length = e.txs.length)) (engG b bs k.txv k.hv k.wb e.txs.length e.count e.wr e.hist (txPs bs k.tv e.txs))
def engX (b : Nat) (bs : List Nat) (k : EngV) (e : Eng) (i : Nat) : HProp := sep (pur (k.tv.length = e.txs.length)) (engG b bs k.txv k.hv k.wb e.txs.length e.count e.wr e.hist ((txPs bs k.tv e.txs).set i emp))
def engK (b : Nat) (bs : List Nat) (k : EngV) (e : Eng) : HProp := sep (storeP 107 b 0 e.V e.last) (sep (tabP 3 b 11 e.t) (engO b bs k e))
def engP (b : Nat) (bs : List Nat) (e : Eng) : HProp := ex fun k => engK b bs k e
variable {w w0 : World} {L : List HProp} {b : Nat} {bs : List Nat} {k : EngV} {e : Eng} {i : Nat}
variable {txv hv : Value} {wb n : Nat} {count : Int} {wr : List (Int × Int)} {hist : List Op1} {ps : List HProp}
theorem txPs_length (bs : List Nat) (tv : List TxV) (txs : List Tx) : (txPs bs tv txs).length = txs.length := by simp [txPs]
theorem txPs_get {bs : List Nat} {tv : List TxV} {txs : List Tx} {i : Nat} (h : i < (txPs bs tv txs).length) : (txPs bs tv txs)[i] = txK bs (blkOf bs i) ((tv[i]?).getD .none) ((txs[i]?).getD .zero) := by simp [txPs]
theorem txPs_set {bs : List Nat} {tv : List TxV} {txs : List Tx} {i : Nat} (hi : i < txs.length) (ht : i < tv.length) (v : TxV) (x : Tx) : (txPs bs tv txs).set i (txK bs (blkOf bs i) v x) = txPs bs (tv.set i v) (txs.set i x) := by
 apply List.ext_getElem (by simp [txPs])
 intro j h1 h2
 rw [List.getElem_set]
 simp only [txPs, List.getElem_map, List.getElem_range, List.length_set, List.getElem?_set]
 by_cases h : i = j
 ·subst h; simp [hi, ht]
 ·simp [h]
theorem _root_.Go.Sep.S.eng_open (h : S w0 w (engP b bs e :: L)) : ∃ k, S w0 w (storeP 107 b 0 e.V e.last :: tabP 3 b 11 e.t :: engO b bs k e :: L) := by
 obtain ⟨k, h⟩ := h.ex_elim
 exact ⟨k, h.conv (by simp only [engK, all]; ac_rfl)⟩
theorem _root_.Go.Sep.S.eng_shut (h : S w0 w (storeP 107 b 0 e.V e.last :: tabP 3 b 11 e.t :: engO b bs k e :: L)) : S w0 w (engP b bs e :: L) :=
 .ex_intro k (h.conv (by simp only [engK, all]; ac_rfl))
theorem _root_.Go.Sep.S.engG_parts (h : S w0 w (engG b bs txv hv wb n count wr hist ps :: L)) : (bs.length = n ∧ ps.length = n ∧ bs.Nodup) ∧
  S w0 w (cells b 14 [txv, .int .i64 count, .map (some wb), hv] :: sl 120 1 txv n (ptrs bs (List.range n)) :: mp encI (fun _ => True) wb (ienc wr) :: sl 129 4 hv hist.length (fcells opc hist) :: all ps :: shp b 67 18 :: L) := by
 obtain ⟨hp, h⟩ := h.sep_elim.pur_elim
 exact ⟨hp, h.conv (by simp only [all]; ac_rfl)⟩
theorem _root_.Go.Sep.S.engG_join (hp : bs.length = n ∧ ps.length = n ∧ bs.Nodup)
  (h : S w0 w (cells b 14 [txv, .int .i64 count, .map (some wb), hv] :: sl 120 1 txv n (ptrs bs (List.range n)) :: mp encI (fun _ => True) wb (ienc wr) :: sl 129 4 hv hist.length (fcells opc hist) :: all ps :: shp b 67 18 :: L)) :
  S w0 w (engG b bs txv hv wb n count wr hist ps :: L) :=
 .sep_intro (.pur_intro hp (h.conv (by simp only [all]; ac_rfl)))
theorem _root_.Go.Sep.S.engG_out (h : S w0 w (engG b bs txv hv wb n count wr hist ps :: L)) (i : Nat) (hi : i < ps.length) : S w0 w (ps[i] :: engG b bs txv hv wb n count wr hist (ps.set i emp) :: L) := by
 obtain ⟨⟨h1, h2, h3⟩, h⟩ := h.engG_parts
 have h4 : S w0 w (cells b 14 [txv, .int .i64 count, .map (some wb), hv] :: sl 120 1 txv n (ptrs bs (List.range n)) :: mp encI (fun _ => True) wb (ienc wr) :: sl 129 4 hv hist.length (fcells opc hist) :: all (ps.set i emp) :: shp b 67 18 :: ps[i] :: L) := by
  refine h.conv ?_
  simp only [all]
  rw [all_set ps i hi emp, emp_sep, all_pick ps i hi]
  ac_rfl
 exact (S.engG_join ⟨h1, by simpa using h2, h3⟩ h4).swap
theorem _root_.Go.Sep.S.engG_in {P : HProp} (hi : i < ps.length) (h : S w0 w (P :: engG b bs txv hv wb n count wr hist (ps.set i emp) :: L)) : S w0 w (engG b bs txv hv wb n count wr hist (ps.set i P) :: L) := by
 obtain ⟨⟨h1, h2, h3⟩, h⟩ := h.swap.engG_parts
 refine S.engG_join ⟨h1, by simpa using h2, h3⟩ (h.conv ?_)
 simp only [all]
 rw [all_set ps i hi emp, emp_sep, all_set ps i hi P]
 ac_rfl
theorem _root_.Go.Sep.S.engG_see (h : S w0 w (engG b bs txv hv wb n count wr hist ps :: L)) : w0.heap.size ≤ b ∧ (∀ j u, [txv, Value.int .i64 count, .map (some wb), hv][j]? = some u → w.cell? ⟨b, 14 + j, none⟩ = some u ∧ w.frozen? ⟨b, 14 + j, none⟩ = false) ∧
  (∃ a cap, txv = .slice a n cap ∧ n ≤ cap ∧ cap ≤ maxLen ∧ ∀ j, j < n → ∃ g o, a = some ⟨g, o, none⟩ ∧ w.cell? ⟨g, o + j, none⟩ = some (ptr bs j)) ∧ MapAt encI (fun _ => True) w wb (ienc wr) ∧ (wr.map (·.1)).Nodup := by
 obtain ⟨_, h⟩ := h.engG_parts
 have h2 := h.swap.sl_val
 have h3 := h.rot3.mapAt
 have h4 := h.rot3.nodup
 refine ⟨h.cells_new (by simp), fun j u hj => ⟨h.cells_cell j hj, h.cells_free j hj⟩, ?_, h3, by simpa [ienc, List.map_map, Function.comp_def] using h4⟩
 obtain ⟨a, cap, h5, h6, h7, h8⟩ := h2
 refine ⟨a, cap, h5, h6, h7, fun j hj => ?_⟩
 obtain ⟨g, o, h9, h10, _⟩ := h8 j (ptr bs j) (by simp [ptrs, hj])
 exact ⟨g, o, h9, h10⟩
theorem _root_.Go.Sep.S.tx_see {bi : Nat} {v : TxV} {x : Tx} (h : S w0 w (txK bs bi v x :: L)) : w0.heap.size ≤ bi ∧ bi < w.heap.size ∧ (∀ j u, (txF v x)[j]? = some u → w.cell? ⟨bi, j, none⟩ = some u) ∧ (∀ j, w.frozen? ⟨bi, j, none⟩ = false) ∧
  MapAt encI (fun _ => True) w v.mb (ienc x.writes) ∧ (x.writes.map (·.1)).Nodup ∧
  (∃ a cap, v.rv = .slice a x.reads.length cap ∧ x.reads.length ≤ cap ∧ cap ≤ maxLen ∧ ∀ j p, x.reads[j]? = some p → ∃ g o, a = some ⟨g, o, none⟩ ∧ w.cell? ⟨g, o + j * 2, none⟩ = some (.int .i64 p.1) ∧ w.cell? ⟨g, o + j * 2 + 1, none⟩ = some (.int .i64 p.2)) ∧
  (∃ a cap, v.fv = .slice a x.fore.length cap ∧ x.fore.length ≤ cap ∧ cap ≤ maxLen ∧ ∀ j p, x.fore[j]? = some p → ∃ g o, a = some ⟨g, o, none⟩ ∧ w.cell? ⟨g, o + j, none⟩ = some (ptr bs p)) ∧
  (∃ a cap, v.av = .slice a x.aft.length cap ∧ x.aft.length ≤ cap ∧ cap ≤ maxLen ∧ ∀ j p, x.aft[j]? = some p → ∃ g o, a = some ⟨g, o, none⟩ ∧ w.cell? ⟨g, o + j, none⟩ = some (ptr bs p)) := by
 have h0 : S w0 w (blk bi 123 (txF v x) :: sl 139 2 v.rv x.reads.length (pcells x.reads) :: mp encI (fun _ => True) v.mb (ienc x.writes) :: sl 120 1 v.fv x.fore.length (ptrs bs x.fore) :: sl 120 1 v.av x.aft.length (ptrs bs x.aft) :: L) :=
  h.conv (by simp only [all, txK, txR]; ac_rfl)
 have h1 := h0.swap
 have h2 := h0.tail.tail
 have h3 := h2.tail
 have h4 := h3.tail
 refine ⟨h0.blk_new, h0.blk_lt, fun j u hj => h0.blk_cell j hj, fun j => h0.blk_free j, h2.mapAt, by simpa [ienc, List.map_map, Function.comp_def] using h2.nodup, ?_, ?_, ?_⟩
 ·obtain ⟨a, cap, h5, h6, h7, _⟩ := h1.sl_val
  refine ⟨a, cap, h5, h6, h7, fun j p hj => ?_⟩
  rw [h5] at h1
  obtain ⟨g, o, h8, _, h9, h10⟩ := h1.sl_pair hj
  exact ⟨g, o, h8, h9, h10⟩
 ·obtain ⟨a, cap, h5, h6, h7, h8⟩ := h3.sl_val
  refine ⟨a, cap, h5, h6, h7, fun j p hj => ?_⟩
  obtain ⟨g, o, h9, h10, _⟩ := h8 j (ptr bs p) (by simp [ptrs, hj])
  exact ⟨g, o, h9, h10⟩
 ·obtain ⟨a, cap, h5, h6, h7, h8⟩ := h4.sl_val
  refine ⟨a, cap, h5, h6, h7, fun j p hj => ?_⟩
  obtain ⟨g, o, h9, h10, _⟩ := h8 j (ptr bs p) (by simp [ptrs, hj])
  exact ⟨g, o, h9, h10⟩
theorem _root_.Go.Sep.S.eng_tx (h : S w0 w (engO b bs k e :: L)) (hi : i < e.txs.length) : S w0 w (txK bs (blkOf bs i) (k.v i) (e.tx i) :: engX b bs k e i :: L) := by
 obtain ⟨hp, h⟩ := h.sep_elim.pur_elim
 have hl : i < (txPs bs k.tv e.txs).length := by rw [txPs_length]; exact hi
 have h1 := h.engG_out i hl
 rw [txPs_get hl] at h1
 exact S.swap (.sep_intro (.pur_intro hp h1.swap))
theorem _root_.Go.Sep.S.eng_back {v : TxV} {x : Tx} (hi : i < e.txs.length) (h : S w0 w (txK bs (blkOf bs i) v x :: engX b bs k e i :: L)) : S w0 w (engO b bs (k.set i v) { e with txs := e.txs.set i x } :: L) := by
 obtain ⟨hp, h⟩ := h.swap.sep_elim.pur_elim
 have hl : i < (txPs bs k.tv e.txs).length := by rw [txPs_length]; exact hi
 have h1 := h.swap.engG_in hl
 rw [txPs_set hi (by omega)] at h1
 refine .sep_intro (.pur_intro (by simpa [EngV.set] using hp) ?_)
 simp only [EngV.set, List.length_set] at h1 ⊢
 exact h1
structure TxC (w : World) (bs : List Nat) (p : Nat) (v : TxV) (x : Tx) : Prop where
 lt : p < w.heap.size
 free : ∀ j, w.frozen? ⟨p, j, Option.none⟩ = false
 level : w.cell? ⟨p, 0, Option.none⟩ = some (.int .i64 x.level)
 state : w.cell? ⟨p, 1, Option.none⟩ = some (.int .i64 x.state)
 start : w.cell? ⟨p, 2, Option.none⟩ = some (.int .i64 x.start)
 begun : w.cell? ⟨p, 3, Option.none⟩ = some (.int .i64 x.begun)
 ended : w.cell? ⟨p, 4, Option.none⟩ = some (.int .i64 x.ended)
 reads : w.cell? ⟨p, 5, Option.none⟩ = some v.rv
 writes : w.cell? ⟨p, 6, Option.none⟩ = some (.map (some v.mb))
 want1 : w.cell? ⟨p, 7, Option.none⟩ = some (.int .i64 x.want.1)
 want2 : w.cell? ⟨p, 8, Option.none⟩ = some (.int .i64 x.want.2)
 fore : w.cell? ⟨p, 9, Option.none⟩ = some v.fv
 aft : w.cell? ⟨p, 10, Option.none⟩ = some v.av
 why : w.cell? ⟨p, 11, Option.none⟩ = some (.int .i64 x.why)
 map : MapAt encI (fun _ => True) w v.mb (ienc x.writes)
 keys : (x.writes.map (·.1)).Nodup
 rs : ∃ a cap, v.rv = .slice a x.reads.length cap ∧ x.reads.length ≤ cap ∧ cap ≤ maxLen ∧ ∀ j p, x.reads[j]? = some p → ∃ g o, a = some ⟨g, o, Option.none⟩ ∧ w.cell? ⟨g, o + j * 2, Option.none⟩ = some (.int .i64 p.1) ∧ w.cell? ⟨g, o + j * 2 + 1, Option.none⟩ = some (.int .i64 p.2)
 fs : ∃ a cap, v.fv = .slice a x.fore.length cap ∧ x.fore.length ≤ cap ∧ cap ≤ maxLen ∧ ∀ j p, x.fore[j]? = some p → ∃ g o, a = some ⟨g, o, Option.none⟩ ∧ w.cell? ⟨g, o + j, Option.none⟩ = some (ptr bs p)
 as_ : ∃ a cap, v.av = .slice a x.aft.length cap ∧ x.aft.length ≤ cap ∧ cap ≤ maxLen ∧ ∀ j p, x.aft[j]? = some p → ∃ g o, a = some ⟨g, o, Option.none⟩ ∧ w.cell? ⟨g, o + j, Option.none⟩ = some (ptr bs p)
theorem _root_.Go.Sep.S.eng_txc (h : S w0 w (engO b bs k e :: L)) (hi : i < e.txs.length) : w0.heap.size ≤ blkOf bs i ∧ TxC w bs (blkOf bs i) (k.v i) (e.tx i) := by
 obtain ⟨h1, h2, h3, h4, h5, h6, h7, h8, h9⟩ := (h.eng_tx hi).tx_see
 exact ⟨h1, h2, h4, h3 0 _ rfl, h3 1 _ rfl, h3 2 _ rfl, h3 3 _ rfl, h3 4 _ rfl, h3 5 _ rfl, h3 6 _ rfl, h3 7 _ rfl, h3 8 _ rfl, h3 9 _ rfl, h3 10 _ rfl, h3 11 _ rfl, h5, h6, h7, h8, h9⟩
structure EngC (w : World) (b : Nat) (bs : List Nat) (k : EngV) (e : Eng) : Prop where
 txs : w.cell? ⟨b, 14, Option.none⟩ = some k.txv
 count : w.cell? ⟨b, 15, Option.none⟩ = some (.int .i64 e.count)
 wr : w.cell? ⟨b, 16, Option.none⟩ = some (.map (some k.wb))
 hist : w.cell? ⟨b, 17, Option.none⟩ = some k.hv
 free : ∀ j, 14 ≤ j → j ≤ 17 → w.frozen? ⟨b, j, Option.none⟩ = false
 row : ∃ a cap, k.txv = .slice a e.txs.length cap ∧ e.txs.length ≤ cap ∧ cap ≤ maxLen ∧ ∀ j, j < e.txs.length → ∃ g o, a = some ⟨g, o, Option.none⟩ ∧ w.cell? ⟨g, o + j, Option.none⟩ = some (ptr bs j)
 map : MapAt encI (fun _ => True) w k.wb (ienc e.wr)
 keys : (e.wr.map (·.1)).Nodup
 len : bs.length = e.txs.length ∧ bs.Nodup
theorem _root_.Go.Sep.S.eng_c (h : S w0 w (engO b bs k e :: L)) : w0.heap.size ≤ b ∧ EngC w b bs k e := by
 obtain ⟨_, h⟩ := h.sep_elim.pur_elim
 obtain ⟨h1, h2, h3, h4, h5⟩ := h.engG_see
 obtain ⟨h6, _⟩ := h.engG_parts
 refine ⟨h1, (h2 0 _ rfl).1, (h2 1 _ rfl).1, (h2 2 _ rfl).1, (h2 3 _ rfl).1, fun j h7 h8 => ?_, h3, h4, h5, h6.1, h6.2.2⟩
 have : j = 14 + 0 ∨ j = 14 + 1 ∨ j = 14 + 2 ∨ j = 14 + 3 := by omega
 rcases this with rfl | rfl | rfl | rfl
 ·exact (h2 0 _ rfl).2
 ·exact (h2 1 _ rfl).2
 ·exact (h2 2 _ rfl).2
 ·exact (h2 3 _ rfl).2
theorem _root_.Go.Sep.S.eng_set {j : Nat} {u : Value} (h : S w0 w (engO b bs k e :: L)) (hi : i < e.txs.length) (f : Tx → Tx) (hj : j < 12) (hF : txF (k.v i) (f (e.tx i)) = (txF (k.v i) (e.tx i)).set j u)
  (h1 : (f (e.tx i)).reads = (e.tx i).reads) (h2 : (f (e.tx i)).writes = (e.tx i).writes) (h3 : (f (e.tx i)).fore = (e.tx i).fore) (h4 : (f (e.tx i)).aft = (e.tx i).aft) :
  S w0 (w.setCell ⟨blkOf bs i, j, Option.none⟩ u) (engO b bs k (e.upd i f) :: L) := by
 have g1 := (h.eng_tx hi).sep_elim.blk_set j (by simpa [txF] using hj) u
 rw [← hF] at g1
 have hR : txR bs (k.v i) (f (e.tx i)) = txR bs (k.v i) (e.tx i) := by unfold txR; rw [h1, h2, h3, h4]
 have g2 : S w0 (w.setCell ⟨blkOf bs i, j, Option.none⟩ u) (txK bs (blkOf bs i) (k.v i) (f (e.tx i)) :: engX b bs k e i :: L) := by
  refine .sep_intro ?_
  rw [hR]; exact g1
 have g3 := S.eng_back hi g2
 have hp := h.sep_elim.pur_elim.1
 have e1 : k.set i (k.v i) = k := by
  unfold EngV.set EngV.v
  have : k.tv.set i ((k.tv[i]?).getD .none) = k.tv := by simp [show i < k.tv.length by omega]
  rw [this]
 rw [e1] at g3
 have e2 : { e with txs := e.txs.set i (f (e.tx i)) } = e.upd i f := by
  have := Eng.upd_set hi f
  unfold Eng.upd at this ⊢
  simp only at this
  rw [this]
 rwa [e2] at g3
end Go.Proofs.YtmfngjclccehaaaGreatDoor
/- What is read as of when is the document's: the plain law of stores. No walk in sight. -/
namespace Go.Proofs.YtmfngjclccehaaaGreatDoor
open Go Go.RowKit Go.Sep
abbrev Kep := Int × Int × Int
def proj (K : List Kep) (k : Int) : Vers := (K.filter fun x => decide (x.1 = k)).map (·.2)
theorem proj_append (K M : List Kep) (k : Int) : proj (K ++ M) k = proj K k ++ proj M k := by simp [proj]
theorem proj_cons (x : Kep) (K : List Kep) (k : Int) : proj (x :: K) k = if x.1 = k then x.2 :: proj K k else proj K k := by
 unfold proj; rw [List.filter_cons]; by_cases h : x.1 = k <;> simp [h]
def lastIx : Nat → Int → Int → Vers → Int
 | _, _, r, [] => r
 | i, k, r, p :: l => lastIx (i + 1) k (if p.1 = k then (i : Int) else r) l
def lastVal (l : Vers) (k : Int) : Option Int := (l.reverse.find? fun p => decide (p.1 = k)).map (·.2)
theorem lastIx_snoc (k : Int) : ∀ (l : Vers) (i : Nat) (r : Int) (p : Int × Int), lastIx i k r (l ++ [p]) = if p.1 = k then ((i + l.length : Nat) : Int) else lastIx i k r l
 | [], i, r, p => by simp [lastIx]
 | q :: l, i, r, p => by
  simp only [List.cons_append, lastIx]
  rw [lastIx_snoc k l (i + 1) _ p]
  simp only [List.length_cons]
  rw [show i + 1 + l.length = i + (l.length + 1) by omega]
theorem lastIx_spec (l : Vers) (k : Int) : (lastIx 0 k (-1) l = -1 ∧ lastVal l k = none) ∨ ∃ (j : Nat) (p : Int × Int), lastIx 0 k (-1) l = j ∧ l[j]? = some p ∧ lastVal l k = some p.2 := by
 suffices h : ∀ (m : Vers), m.length ≤ l.length → m = l.take m.length → (lastIx 0 k (-1) m = -1 ∧ lastVal m k = none) ∨ ∃ (j : Nat) (p : Int × Int), lastIx 0 k (-1) m = j ∧ l[j]? = some p ∧ lastVal m k = some p.2 by
  exact h l (Nat.le_refl _) (by simp)
 intro m
 generalize hn : m.length = n
 induction n generalizing m with
 | zero => intro _ _; left; obtain rfl := List.eq_nil_of_length_eq_zero hn; exact ⟨rfl, rfl⟩
 | succ n ih =>
  intro hle hm
  have hlt : n < l.length := by omega
  have e : m = l.take n ++ [l[n]] := by rw [hm, List.take_succ_eq_append_getElem hlt]
  have hl : (l.take n).length = n := by rw [List.length_take]; omega
  have h1 := ih (l.take n) hl (by omega) rfl
  rw [e, lastIx_snoc, hl]
  have hv : lastVal (l.take n ++ [l[n]]) k = if l[n].1 = k then some l[n].2 else lastVal (l.take n) k := by
   unfold lastVal
   rw [List.reverse_append, List.reverse_singleton, List.singleton_append, List.find?_cons]
   by_cases h : l[n].1 = k <;> simp [h]
  rw [hv]
  by_cases h : l[n].1 = k
  ·right; exact ⟨n, l[n], by simp [h], by simp [hlt], by simp [h]⟩
  ·simp only [h, ↓reduceIte]; exact h1
def rrow (at_ : Int) (l : Vers) (k : Nat) : List Kep := match lastVal l k with | some v => [((k : Int), at_, v)] | none => []
def rrows (at_ : Int) (l : Vers) (n : Nat) : List Kep := (List.range n).flatMap (rrow at_ l)
theorem rrows_succ (at_ : Int) (l : Vers) (n : Nat) : rrows at_ l (n + 1) = rrows at_ l n ++ rrow at_ l n := by simp [rrows, List.range_succ, List.flatMap_append]
theorem rrow_key {at_ : Int} {l : Vers} {k : Nat} {x : Kep} (h : x ∈ rrow at_ l k) : x.1 = k := by
 unfold rrow at h; split at h <;> simp at h; rw [h]
theorem proj_rrow (at_ : Int) (l : Vers) (k j : Nat) : proj (rrow at_ l k) j = if k = j then (match lastVal l j with | some v => [(at_, v)] | none => []) else [] := by
 unfold rrow
 by_cases h : k = j
 ·subst h; rw [if_pos rfl]; cases lastVal l k <;> simp [proj]
 ·rw [if_neg h]
  have : ¬ (k : Int) = j := by omega
  cases lastVal l k <;> simp [proj, this]
theorem proj_rrows (at_ : Int) (l : Vers) (j : Nat) : ∀ n, proj (rrows at_ l n) j = if j < n then (match lastVal l j with | some v => [(at_, v)] | none => []) else []
 | 0 => by simp [rrows, proj]
 | n + 1 => by
  rw [rrows_succ, proj_append, proj_rrows at_ l j n, proj_rrow]
  by_cases h1 : j < n
  ·have : ¬ n = j := by omega
   simp [h1, this]; omega
  ·by_cases h2 : n = j
   ·subst h2; simp
   ·have : ¬ j < n + 1 := by omega
    simp [h1, h2, this]
theorem rrows_le (at_ : Int) (l : Vers) : ∀ n, (rrows at_ l n).length ≤ n
 | 0 => by simp [rrows]
 | n + 1 => by
  rw [rrows_succ, List.length_append]
  have := rrows_le at_ l n
  have : (rrow at_ l n).length ≤ 1 := by unfold rrow; split <;> simp
  omega
structure Same (V : List Vers) (last : Int) (K : List Kep) : Prop where
 len : V.length = 10
 key : ∀ k : Nat, k < 10 → V[k]? = some (proj K k)
 inc : ∀ k : Nat, k < 10 → (proj K k).Pairwise (fun p q => p.1 < q.1)
 le : ∀ x ∈ K, x.2.1 ≤ last
 pos : ∀ x ∈ K, 1 ≤ x.2.1
 ok : ∀ x ∈ K, keyOk x.1
 last0 : 0 ≤ last
theorem Same.start : Same (List.replicate 10 []) 0 [] :=
 ⟨rfl, fun k hk => by rw [List.getElem?_replicate, if_pos hk]; rfl, fun _ _ => List.Pairwise.nil, by simp, by simp, by simp, Int.le_refl _⟩
theorem mem_proj {K : List Kep} {k : Int} {p : Int × Int} : p ∈ proj K k ↔ (k, p) ∈ K := by
 unfold proj
 simp only [List.mem_map, List.mem_filter, decide_eq_true_eq]
 constructor
 ·rintro ⟨⟨a, b⟩, ⟨h1, rfl⟩, rfl⟩; exact h1
 ·intro h; exact ⟨_, ⟨h, rfl⟩, rfl⟩
theorem put1_get {at_ : Int} {V : List Vers} {p : Int × Int} (hp : keyOk p.1) (hV : V.length = 10) (j : Nat) (hj : j < 10) : (put1 at_ V p)[j]? = if p.1 = j then some (puts at_ ((V[j]?).getD []) p.2) else V[j]? := by
 unfold put1 puts
 have := hp.1
 by_cases h : p.1 = j
 ·rw [if_pos h, h]; simp [hV, hj]
 ·rw [if_neg h, List.getElem?_set_ne (by omega)]
def Onto (at_ : Int) (old new : Vers) (v : Option Int) : Prop := match v with | some v => new = old ++ [(at_, v)] | none => new = old
theorem putAll_get {at_ last : Int} {W : List Vers} (hlt : last < at_) : ∀ (l : Vers) {V : List Vers} {j : Nat} {old cur : Vers} {v : Option Int}, (∀ p ∈ l, keyOk p.1) → V.length = 10 → j < 10 → (∀ p ∈ old, p.1 ≤ last) → V[j]? = some cur → Onto at_ old cur v →
  ∃ new, (putAll at_ V l)[j]? = some new ∧ Onto at_ old new ((lastVal l j).or v)
 | [], V, j, old, cur, v, _, _, _, _, hc, ho => ⟨cur, hc, by simpa [lastVal] using ho⟩
 | p :: l, V, j, old, cur, v, hk, hV, hj, hold, hc, ho => by
  have h1 := put1_get (at_ := at_) (V := V) (hk p (by simp)) hV j hj
  rw [hc] at h1
  simp only [Option.getD_some] at h1
  have hv : lastVal (p :: l) j = (lastVal l j).or (if p.1 = j then some p.2 else none) := by
   unfold lastVal
   rw [List.reverse_cons, List.find?_append]
   cases hf : l.reverse.find? fun q => decide (q.1 = (j : Int)) with
   | some q => simp
   | none => by_cases h : p.1 = j <;> simp [h]
  show ∃ new, (putAll at_ (put1 at_ V p) l)[j]? = some new ∧ _
  by_cases h : p.1 = j
  ·rw [if_pos h] at h1
   have ho' : Onto at_ old (puts at_ cur p.2) (some p.2) := by
    unfold Onto puts at *
    cases v with
    | none =>
     simp only at ho ⊢
     subst ho
     rw [if_neg]
     intro e
     cases hl : cur.getLast? with
     | none => rw [hl] at e; simp at e
     | some q =>
      rw [hl] at e
      simp at e
      have := hold q (List.mem_of_getLast? hl)
      omega
    | some v =>
     simp only at ho ⊢
     subst ho
     rw [if_pos (by simp)]
     simp
   obtain ⟨new, h2, h3⟩ := putAll_get (W := W) hlt l (v := some p.2) (fun q hq => hk q (by simp [hq])) (by rw [put1_length]; exact hV) hj hold h1 ho'
   refine ⟨new, h2, ?_⟩
   rw [hv, if_pos h]
   cases hlv : lastVal l j with
   | some x => rw [hlv] at h3; simpa using h3
   | none => rw [hlv] at h3; simpa using h3
  ·rw [if_neg h] at h1
   obtain ⟨new, h2, h3⟩ := putAll_get (W := W) hlt l (v := v) (fun q hq => hk q (by simp [hq])) (by rw [put1_length]; exact hV) hj hold h1 ho
   refine ⟨new, h2, ?_⟩
   rw [hv, if_neg h]
   cases hlv : lastVal l j with
   | some x => rw [hlv] at h3; simpa using h3
   | none => rw [hlv] at h3; simpa using h3
theorem Same.put {V : List Vers} {last at_ : Int} {K : List Kep} (h : Same V last K) (l : Vers) (hk : ∀ p ∈ l, keyOk p.1) (hlt : last < at_) : Same (putAll at_ V l) at_ (K ++ rrows at_ l 10) := by
 have hold : ∀ (k : Nat), ∀ p ∈ proj K k, p.1 ≤ last := fun k p hp => h.le _ (mem_proj.1 hp)
 have hrr : ∀ x ∈ rrows at_ l 10, x.2.1 = at_ ∧ keyOk x.1 := by
  intro x hx
  unfold rrows at hx
  rw [List.mem_flatMap] at hx
  obtain ⟨k, hk, hx⟩ := hx
  rw [List.mem_range] at hk
  have := rrow_key hx
  unfold rrow at hx
  split at hx <;> simp at hx
  subst hx
  exact ⟨rfl, by simp only; exact ⟨by omega, by omega⟩⟩
 refine ⟨by rw [putAll_length]; exact h.len, fun k hk' => ?_, fun k hk' => ?_, ?_, ?_, ?_, by have := h.last0; omega⟩
 ·obtain ⟨new, h1, h2⟩ := putAll_get (W := V) hlt l (v := none) hk h.len hk' (hold k) (h.key k hk') rfl
  rw [h1, proj_append, proj_rrows, if_pos hk']
  congr 1
  unfold Onto at h2
  cases hl : lastVal l k <;> rw [hl] at h2 <;> simpa using h2
 ·rw [proj_append, proj_rrows, if_pos hk', List.pairwise_append]
  refine ⟨h.inc k hk', by split <;> simp, ?_⟩
  intro p hp q hq
  have := hold k p hp
  split at hq <;> simp at hq
  subst hq; simp only; omega
 ·intro x hx
  rcases List.mem_append.1 hx with hx | hx
  ·have := h.le x hx; omega
  ·rw [(hrr x hx).1]; exact Int.le_refl _
 ·intro x hx
  rcases List.mem_append.1 hx with hx | hx
  ·exact h.pos x hx
  ·rw [(hrr x hx).1]; have := h.last0; omega
 ·intro x hx
  rcases List.mem_append.1 hx with hx | hx
  ·exact h.ok x hx
  ·exact (hrr x hx).2
def rstep (k at_ : Int) (b : Option (Int × Int)) (x : Kep) : Option (Int × Int) :=
 if x.1 = k ∧ x.2.1 ≤ at_ ∧ (b = none ∨ ∃ c, b = some c ∧ c.1 < x.2.1) then some x.2 else b
instance (b : Option (Int × Int)) (x : Kep) : Decidable (b = none ∨ ∃ c, b = some c ∧ c.1 < x.2.1) :=
 match b with
 | none => .isTrue (.inl rfl)
 | some c => if h : c.1 < x.2.1 then .isTrue (.inr ⟨c, rfl, h⟩) else .isFalse (by rintro (h' | ⟨d, h1, h2⟩); cases h'; cases h1; exact h h2)
def rread (K : List Kep) (k at_ : Int) : Option (Int × Int) := K.foldl (rstep k at_) none
theorem rread_snoc (K : List Kep) (x : Kep) (k at_ : Int) : rread (K ++ [x]) k at_ = rstep k at_ (rread K k at_) x := by simp [rread]
theorem rread_eq {K : List Kep} {k at_ : Int} (hi : (proj K k).Pairwise (fun p q => p.1 < q.1)) : rread K k at_ = readV (proj K k) at_ := by
 suffices ∀ (n : Nat) (M : List Kep), M.length = n → (proj M k).Pairwise (fun p q => p.1 < q.1) → rread M k at_ = readV (proj M k) at_ from this _ K rfl hi
 intro n
 induction n with
 | zero => intro M hM _; obtain rfl := List.eq_nil_of_length_eq_zero hM; rfl
 | succ n ih =>
  intro M hM hi
  obtain ⟨N, x, rfl⟩ : ∃ N x, M = N ++ [x] := ⟨M.dropLast, M.getLast (by intro e; rw [e] at hM; simp at hM), (List.dropLast_concat_getLast _).symm⟩
  rw [proj_append, List.pairwise_append] at hi
  have h1 := ih N (by simpa using hM) hi.1
  rw [rread_snoc, h1, proj_append]
  have hx : proj [x] k = if x.1 = k then [x.2] else [] := by rw [proj_cons]; rfl
  rw [hx] at hi ⊢
  unfold rstep
  by_cases hk : x.1 = k
  ·rw [if_pos hk] at hi ⊢
   have hr : readV (proj N k ++ [x.2]) at_ = if x.2.1 ≤ at_ then some x.2 else readV (proj N k) at_ := by
    unfold readV
    rw [List.reverse_append, List.reverse_singleton, List.singleton_append, List.find?_cons]
    by_cases h : x.2.1 ≤ at_ <;> simp [h]
   rw [hr]
   by_cases ha : x.2.1 ≤ at_
   ·rw [if_pos ha, if_pos]
    refine ⟨hk, ha, ?_⟩
    cases hrv : readV (proj N k) at_ with
    | none => exact .inl rfl
    | some c =>
     refine .inr ⟨c, rfl, ?_⟩
     have hc : c ∈ proj N k := by
      unfold readV at hrv
      exact List.mem_reverse.1 (List.mem_of_find?_eq_some hrv)
     exact hi.2.2 c hc x.2 (by simp)
   ·rw [if_neg ha, if_neg (fun h => ha h.2.1)]
  ·rw [if_neg hk, if_neg (fun h => hk h.1)]
   simp
theorem Same.read {V : List Vers} {last : Int} {K : List Kep} (h : Same V last K) (k : Nat) (hk : k < 10) (at_ : Int) : rread K k at_ = readV (proj K k) at_ := rread_eq (h.inc k hk)
def rnewer (K : List Kep) (k at_ : Int) : List Int := (K.filter fun x => decide (x.1 = k ∧ at_ < x.2.1)).map (·.2.1)
theorem rnewer_snoc (K : List Kep) (x : Kep) (k at_ : Int) : rnewer (K ++ [x]) k at_ = rnewer K k at_ ++ if x.1 = k ∧ at_ < x.2.1 then [x.2.1] else [] := by
 unfold rnewer; rw [List.filter_append, List.map_append]; by_cases h : x.1 = k ∧ at_ < x.2.1 <;> simp [h]
theorem rnewer_eq (K : List Kep) (k at_ : Int) : rnewer K k at_ = newerL (proj K k) at_ := by
 unfold rnewer newerL proj
 rw [List.filter_map, List.filter_filter, List.map_map]
 congr 1
 apply List.filter_congr
 intro x _
 simp only [Function.comp, Bool.decide_and]
 rw [Bool.and_comm]
theorem newerL_sorted {vs : Vers} (h : vs.Pairwise (fun p q => p.1 < q.1)) (at_ : Int) : (newerL vs at_).Pairwise (· ≤ ·) := by
 unfold newerL
 rw [List.pairwise_map]
 exact (h.sublist List.filter_sublist).imp fun h => by omega
def rkeep (K : List Kep) (at_ : Int) (x : Kep) : Bool := decide (at_ < x.2.1 ∨ rread K x.1 at_ = some x.2)
def rswept (K : List Kep) (at_ : Int) : List Kep := K.filter (rkeep K at_)
theorem proj_filter (K : List Kep) (f : Kep → Bool) (k : Int) : proj (K.filter f) k = (proj K k).filter fun p => f (k, p) := by
 induction K with
 | nil => rfl
 | cons x K ih =>
  obtain ⟨x1, x2⟩ := x
  rw [List.filter_cons, proj_cons]
  by_cases hk : x1 = k
  ·subst hk
   rw [if_pos rfl, List.filter_cons]
   by_cases hf : f (x1, x2) = true
   ·rw [if_pos hf, if_pos hf, proj_cons, if_pos rfl, ih]
   ·rw [if_neg hf, if_neg hf, ih]
  ·rw [if_neg hk]
   by_cases hf : f (x1, x2) = true
   ·rw [if_pos hf, proj_cons, if_neg hk, ih]
   ·rw [if_neg hf, ih]
theorem swept_filter {vs : Vers} (hi : vs.Pairwise (fun p q => p.1 < q.1)) (at_ : Int) : vs.filter (fun p => decide (at_ < p.1 ∨ readV vs at_ = some p)) = swept at_ vs := by
 obtain ⟨h1, h2, h3, h4⟩ := sweptN_spec at_ vs
 rw [h4]
 generalize sweptN at_ vs = m at h1 h2 h3
 have hsplit := (List.take_append_drop m vs).symm
 have hread : ∀ p, vs[m]? = some p → p.1 ≤ at_ → readV vs at_ = some p := by
  intro p hp hle
  exact readV_of hp hle (fun j q hj hq => by have := h2 j q (by omega) hq; omega)
 have hA : ∀ p ∈ vs.drop m, decide (at_ < p.1 ∨ readV vs at_ = some p) = true := by
  intro p hp
  obtain ⟨j, hj⟩ := List.getElem?_of_mem hp
  rw [List.getElem?_drop] at hj
  rcases Nat.eq_zero_or_pos j with rfl | hj0
  ·rw [Nat.add_zero] at hj
   by_cases hle : p.1 ≤ at_
   ·simp [hread p hj hle]
   ·simp; left; omega
  ·have := h2 (m + j) p (by omega) hj
   simp [this]
 have hB : ∀ p ∈ vs.take m, decide (at_ < p.1 ∨ readV vs at_ = some p) = false := by
  intro p hp
  rcases h1 with h1 | ⟨q, hq, hle⟩
  ·subst h1; simp at hp
  ·rw [hread q hq hle]
   have hpq : p.1 < q.1 := by
    rw [hsplit, List.pairwise_append] at hi
    refine hi.2.2 p hp q ?_
    exact List.mem_of_getElem? (i := 0) (by rw [List.getElem?_drop]; simpa using hq)
   simp only [Option.some.injEq, decide_eq_false_iff_not, not_or]
   exact ⟨by omega, fun e => by rw [e] at hpq; omega⟩
 conv => lhs; rw [show vs = vs.take m ++ vs.drop m from hsplit]
 rw [List.filter_append]
 rw [← hsplit]
 rw [List.filter_eq_nil_iff.2 (fun p hp => by simp [hB p hp]), List.filter_eq_self.2 hA]; simp
theorem Same.sweep {V : List Vers} {last : Int} {K : List Kep} (h : Same V last K) (at_ : Int) : Same (V.map (swept at_)) last (rswept K at_) := by
 have hp : ∀ k : Nat, k < 10 → proj (rswept K at_) k = swept at_ (proj K k) := by
  intro k hk
  unfold rswept
  rw [proj_filter, ← swept_filter (h.inc k hk) at_]
  apply List.filter_congr
  intro p _
  unfold rkeep
  simp only [h.read k hk at_]
 have hsub : ∀ x ∈ rswept K at_, x ∈ K := fun x hx => (List.mem_filter.1 hx).1
 refine ⟨by simpa using h.len, fun k hk => ?_, fun k hk => ?_, fun x hx => h.le x (hsub x hx), fun x hx => h.pos x (hsub x hx), fun x hx => h.ok x (hsub x hx), h.last0⟩
 ·rw [List.getElem?_map, h.key k hk, hp k hk]; rfl
 ·rw [hp k hk]; unfold swept; exact (h.inc k hk).sublist (List.drop_sublist _ _)
theorem sum_proj : ∀ (K : List Kep), (∀ x ∈ K, keyOk x.1) → ((List.range 10).map fun k : Nat => (proj K (k : Int)).length).sum = K.length
 | [], _ => rfl
 | x :: K, h => by
  have ih := sum_proj K (fun y hy => h y (by simp [hy]))
  obtain ⟨h1, h2⟩ := h x (by simp)
  have e : ∀ k : Nat, (proj (x :: K) k).length = (proj K k).length + if x.1 = k then 1 else 0 := by
   intro k; rw [proj_cons]; split <;> simp
  simp only [e]
  have hs : ∀ (l : List Nat) (f g : Nat → Nat), (l.map fun k => f k + g k).sum = (l.map f).sum + (l.map g).sum := by
   intro l f g
   induction l with
   | nil => rfl
   | cons a l ih => simp only [List.map_cons, List.sum_cons, ih]; omega
  rw [hs, ih, List.length_cons]
  congr 1
  obtain ⟨k, hk⟩ : ∃ k : Nat, x.1 = k := ⟨x.1.toNat, by omega⟩
  rw [hk] at h2 ⊢
  have : k < 10 := by omega
  simp only [Int.natCast_inj]
  match k, this with
  | 0, _ => rfl | 1, _ => rfl | 2, _ => rfl | 3, _ => rfl | 4, _ => rfl | 5, _ => rfl | 6, _ => rfl | 7, _ => rfl | 8, _ => rfl | 9, _ => rfl
theorem Same.many {V : List Vers} {last : Int} {K : List Kep} (h : Same V last K) : manyV V = K.length := by
 rw [← sum_proj K h.ok]
 unfold manyV
 congr 1
 apply List.ext_getElem?
 intro j
 by_cases hj : j < 10
 ·rw [List.getElem?_map, h.key j hj, List.getElem?_map, List.getElem?_range hj]; rfl
 ·rw [List.getElem?_eq_none (by simp [h.len]; omega), List.getElem?_eq_none (by simp; omega)]
theorem Same.swept_sum {V : List Vers} {last : Int} {K : List Kep} (h : Same V last K) (at_ : Int) : (V.map (sweptN at_)).sum + (rswept K at_).length = K.length := by
 have h1 := many_swept at_ V
 have h2 := (h.sweep at_).many
 have h3 := h.many
 omega
end Go.Proofs.YtmfngjclccehaaaGreatDoor
/- The reference's store: what its memory is. -/
namespace Go.Sep
open Go Go.RowKit Go.Proofs.YtmfngjclccehaaaGreatDoor
variable {w w0 : World} {L : List HProp}
def kcells (x : Kep) : List Value := [.int .i64 x.1, .int .i64 x.2.1, .int .i64 x.2.2]
theorem kcells_length (x : Kep) : (kcells x).length = 3 := rfl
def refK (_T TK b : Nat) (v : Value) (K : List Kep) (last : Int) : HProp := sep (cells b 0 [v, .int .i64 last]) (sl TK 3 v K.length (fcells kcells K))
def refP (T TK b : Nat) (K : List Kep) (last : Int) : HProp := ex fun v => refK T TK b v K last
theorem S.c0_cell {b : Nat} {vs : List Value} (h : S w0 w (cells b 0 vs :: L)) (i : Nat) {v : Value} (hv : vs[i]? = some v) : w.cell? ⟨b, i, none⟩ = some v := by
 have := h.cells_cell i hv
 rwa [Nat.zero_add] at this
theorem S.c0_free {b : Nat} {vs : List Value} (h : S w0 w (cells b 0 vs :: L)) (i : Nat) {v : Value} (hv : vs[i]? = some v) : w.frozen? ⟨b, i, none⟩ = false := by
 have := h.cells_free i hv
 rwa [Nat.zero_add] at this
theorem S.c0_set {b : Nat} {vs : List Value} (h : S w0 w (cells b 0 vs :: L)) (i : Nat) (hi : i < vs.length) (u : Value) : S w0 (w.setCell ⟨b, i, none⟩ u) (cells b 0 (vs.set i u) :: L) := by
 have := h.set i hi u
 rwa [Nat.zero_add] at this
theorem S.ref_elim {T TK b : Nat} {K : List Kep} {last : Int} (h : S w0 w (refP T TK b K last :: L)) : ∃ v, S w0 w (cells b 0 [v, .int .i64 last] :: sl TK 3 v K.length (fcells kcells K) :: L) := by
 obtain ⟨v, h⟩ := h.ex_elim
 exact ⟨v, h.sep_elim⟩
theorem S.ref_intro {T TK b : Nat} {v : Value} {K : List Kep} {last : Int} (h : S w0 w (cells b 0 [v, .int .i64 last] :: sl TK 3 v K.length (fcells kcells K) :: L)) : S w0 w (refP T TK b K last :: L) :=
 .ex_intro v (.sep_intro h)
theorem kcells_snoc (K : List Kep) (x : Kep) : fcells kcells (K ++ [x]) = fcells kcells K ++ kcells x := by rw [fcells_append, fcells_one]
theorem fk_len (K : List Kep) : (fcells kcells K).length = K.length * 3 := fcells_length kcells_length K
theorem fk_one (K : List Kep) : ∀ u ∈ fcells kcells K, u.oneCell' = true := by
 intro u hu
 unfold fcells at hu
 rw [List.mem_flatMap] at hu
 obtain ⟨x, _, hx⟩ := hu
 unfold kcells at hx
 simp only [List.mem_cons, List.not_mem_nil, or_false] at hx
 rcases hx with rfl | rfl | rfl <;> rfl
theorem S.ref_at {TK : Nat} {a : Option Addr} {m cap : Nat} {K : List Kep} (h : S w0 w (sl TK 3 (.slice a m cap) m (fcells kcells K) :: L)) {i : Nat} {x : Kep} (hx : K[i]? = some x) :
  ∃ g o, a = some ⟨g, o, none⟩ ∧ g < w.heap.size ∧ w.cell? ⟨g, o + i * 3, none⟩ = some (.int .i64 x.1) ∧ w.cell? ⟨g, o + i * 3 + 1, none⟩ = some (.int .i64 x.2.1) ∧ w.cell? ⟨g, o + i * 3 + 2, none⟩ = some (.int .i64 x.2.2) := by
 obtain ⟨g, o, ha, hlt, hc⟩ := h.sl_f kcells_length hx (by omega)
 exact ⟨g, o, ha, hlt, by have := hc 0 _ rfl; rwa [Nat.add_zero] at this, hc 1 _ rfl, hc 2 _ rfl⟩
end Go.Sep
/- Who holds which key, and who waits, is the document's: the plain law of tables. No program in sight. -/
namespace Go.Sep
open Go Go.RowKit
def qf (Qs : List (List Int)) (k : Int) : List Int := if 0 ≤ k then (Qs[k.toNat]?).getD [] else []
structure SameT (t : Tbl) (Qs : List (List Int)) : Prop where
 len : Qs.length = 10
 tab : TabR t (qf Qs)
 rk : ∃ r, Rk (qf Qs) r
 pos : ∀ k, ∀ x ∈ qf Qs k, 1 ≤ x
variable {t : Tbl} {Qs : List (List Int)}
theorem qf_nat (Qs : List (List Int)) (k : Nat) : qf Qs k = (Qs[k]?).getD [] := by
 unfold qf; rw [if_pos (by omega)]; simp
theorem qf_in {Qs : List (List Int)} {k x : Int} (h : x ∈ qf Qs k) : 0 ≤ k ∧ k.toNat < Qs.length := by
 unfold qf at h
 split at h
 ·refine ⟨by assumption, ?_⟩
  by_cases hl : k.toNat < Qs.length
  ·exact hl
  ·rw [List.getElem?_eq_none (by omega)] at h; simp at h
 ·simp at h
theorem qf_out {Qs : List (List Int)} {k : Int} (h : ¬ (0 ≤ k ∧ k.toNat < Qs.length)) : qf Qs k = [] := by
 apply List.eq_nil_iff_forall_not_mem.2
 intro x hx; exact h (qf_in hx)
theorem qf_set {Qs : List (List Int)} {k : Nat} (hk : k < Qs.length) (l : List Int) : qf (Qs.set k l) = updQ (qf Qs) k l := by
 funext j
 simp only [qf, updQ]
 by_cases h0 : 0 ≤ j
 ·rw [if_pos h0, if_pos h0, List.getElem?_set]
  by_cases e : j = (k : Int)
  ·subst e
   simp [hk]
  ·have : ¬ k = j.toNat := by omega
   rw [if_neg this, if_neg e]
 ·have : ¬ j = (k : Int) := by omega
  rw [if_neg h0, if_neg this, if_neg h0]
theorem qf_map (Qs : List (List Int)) (tx : Int) : qf (Qs.map fun l => strike l tx) = fun k => strike (qf Qs k) tx := by
 funext j
 unfold qf
 by_cases h0 : 0 ≤ j
 ·simp only [if_pos h0, List.getElem?_map]
  cases Qs[j.toNat]? <;> simp [strike]
 ·simp only [if_neg h0]; simp [strike]
theorem SameT.start : SameT ⟨[], [], []⟩ (List.replicate 10 []) := by
 have e : qf (List.replicate 10 []) = fun _ => [] := by
  funext k
  unfold qf
  split
  ·rw [List.getElem?_replicate]; split <;> rfl
  ·rfl
 refine ⟨by simp, ?_, ⟨fun _ => 0, ?_⟩, ?_⟩
 ·rw [e]; exact TabR.start
 ·rw [e]; intro k x hx; simp at hx
 ·rw [e]; intro k x hx; simp at hx
def rholds (Qs : List (List Int)) (key : Int) : Int := (qf Qs key).headD 0
theorem SameT.holds (h : SameT t Qs) (key : Int) : (mget t.hold key).getD 0 = rholds Qs key := by
 rw [h.tab.hold]; unfold rholds; cases qf Qs key <;> rfl
def waitsAt (tx : Int) (q : List Int) : Bool := decide (tx ∈ q.tail)
def rwaits (Qs : List (List Int)) (tx : Int) : Int := match Qs.findIdx? (waitsAt tx) with | some k => (k : Int) | none => -1
theorem SameT.waits (h : SameT t Qs) (tx : Int) : (mget t.wait tx).getD (-1) = rwaits Qs tx := by
 unfold rwaits
 cases hf : Qs.findIdx? (waitsAt tx) with
 | none =>
  rw [List.findIdx?_eq_none_iff] at hf
  have : mget t.wait tx = none := h.tab.none_wait.2 fun k hk => by
   have h0 := qf_in (List.mem_of_mem_tail hk)
   have h1 := hf Qs[k.toNat] (List.getElem_mem h0.2)
   unfold qf at hk
   rw [if_pos h0.1, List.getElem?_eq_getElem h0.2] at hk
   simp only [waitsAt, decide_eq_false_iff_not] at h1
   exact h1 hk
  rw [this]; rfl
 | some k =>
  rw [List.findIdx?_eq_some_iff_getElem] at hf
  obtain ⟨hk, h1, _⟩ := hf
  simp only [waitsAt, decide_eq_true_eq] at h1
  have : mget t.wait tx = some (k : Int) := (h.tab.wait tx k).2 (by rw [qf_nat, List.getElem?_eq_getElem hk]; exact h1)
  rw [this]; rfl
theorem SameT.waits_nonneg (h : SameT t Qs) (tx : Int) : (mget t.wait tx).isSome = decide (0 ≤ rwaits Qs tx) := by
 rw [← h.waits]
 cases hw : mget t.wait tx with
 | none => simp
 | some k =>
  have := qf_in (List.mem_of_mem_tail ((h.tab.wait tx k).1 hw))
  simp only [Option.isSome_some, Option.getD_some]
  exact (decide_eq_true this.1).symm
theorem SameT.line (h : SameT t Qs) (key : Int) : (mget t.line key).getD [] = (qf Qs key).tail := h.tab.line key
def raskT (Qs : List (List Int)) (tx key : Int) (c : Bool) : List (List Int) × Bool × Int :=
 if key < 0 ∨ 10 ≤ key ∨ tx < 1 then (Qs, false, 2) else if 0 ≤ rwaits Qs tx then (Qs, false, 6) else
  if rholds Qs key = tx then (Qs, true, 0) else if rholds Qs key ≠ 0 ∧ c = true then (Qs, false, 11) else (Qs.set key.toNat (qf Qs key ++ [tx]), decide (rholds Qs key = 0), 0)
theorem SameT.ask (h : SameT t Qs) {tx key : Int} {c : Bool} (hc : ∀ a, mget t.hold key = some a → ∃ n, chase t tx n a = some c) :
  SameT (tbAsk t tx key c).1 (raskT Qs tx key c).1 ∧ (tbAsk t tx key c).2 = (raskT Qs tx key c).2 := by
 unfold tbAsk raskT
 by_cases e0 : key < 0 ∨ 10 ≤ key ∨ tx < 1
 ·rw [if_pos e0, if_pos e0]; exact ⟨h, rfl⟩
 rw [if_neg e0, if_neg e0]
 have hw1 := h.waits_nonneg tx
 by_cases e1 : 0 ≤ rwaits Qs tx
 ·rw [if_pos e1, if_pos (by rw [hw1]; simpa using e1)]; exact ⟨h, rfl⟩
 have e1' : ¬ (mget t.wait tx).isSome = true := by rw [hw1]; simpa using e1
 rw [if_neg e1, if_neg e1']
 have hw : mget t.wait tx = none := by simpa using e1'
 have hk : key.toNat < Qs.length := by rw [h.len]; omega
 have hkk : ((key.toNat : Nat) : Int) = key := by omega
 have hset : qf (Qs.set key.toNat (qf Qs key ++ [tx])) = askQ (qf Qs) tx key := by
  rw [qf_set hk, hkk]; rfl
 have hpos : ∀ k, ∀ x ∈ askQ (qf Qs) tx key k, 1 ≤ x := by
  intro k x hx
  unfold askQ updQ at hx
  split at hx
  ·rcases List.mem_append.1 hx with hx | hx
   ·exact h.pos _ _ hx
   ·simp at hx; omega
  ·exact h.pos _ _ hx
 obtain ⟨r, hr⟩ := h.rk
 have hh := h.tab.hold key
 have hcs : qf Qs key = [] ∨ ∃ a l, qf Qs key = a :: l := by cases qf Qs key <;> simp
 rcases hcs with hq | ⟨a, l, hq⟩
 ·rw [hq] at hh
  simp only [List.head?_nil] at hh
  have hr0 : rholds Qs key = 0 := by unfold rholds; rw [hq]; rfl
  rw [hh]
  dsimp only
  have e2 : ¬ rholds Qs key = tx := by omega
  rw [if_neg e2, if_neg (by rw [hr0]; simp), hr0]
  refine ⟨?_, rfl⟩
  exact ⟨by simpa using h.len, by rw [hset]; exact h.tab.ask_free hh, ⟨r, by rw [hset]; exact hr.free hq⟩, by rw [hset]; exact hpos⟩
 ·rw [hq] at hh
  simp only [List.head?_cons] at hh
  have hr0 : rholds Qs key = a := by unfold rholds; rw [hq]; rfl
  have ha : 1 ≤ a := h.pos key a (by rw [hq]; simp)
  rw [hh, hr0]
  simp only
  by_cases e2 : a = tx
  ·rw [if_pos e2, if_pos e2]; exact ⟨h, rfl⟩
  rw [if_neg e2, if_neg e2]
  cases c with
  | true => rw [if_pos rfl, if_pos ⟨by omega, rfl⟩]; exact ⟨h, rfl⟩
  | false =>
   have e3 : ¬ a = 0 := by omega
   rw [if_neg (by simp), if_neg (by simp)]
   obtain ⟨n, hn⟩ := hc a hh
   obtain ⟨r', hr'⟩ := Rk.ask h.tab hr hw hh hn
   refine ⟨?_, by simp [e3]⟩
   exact ⟨by simpa using h.len, by rw [hset]; exact h.tab.ask_line hw hh e2, ⟨r', by rw [hset]; exact hr'⟩, by rw [hset]; exact hpos⟩
def routK (tx : Int) (k : Int) (l : List Int) : List (Int × Int) := if l.head? = some tx then firstL k (strike l tx) else []
def rout (Qs : List (List Int)) (tx : Int) (n : Nat) : List (Int × Int) := (List.range n).flatMap fun k : Nat => routK tx k (qf Qs k)
theorem rout_succ (Qs : List (List Int)) (tx : Int) (n : Nat) : rout Qs tx (n + 1) = rout Qs tx n ++ routK tx n (qf Qs n) := by simp [rout, List.range_succ, List.flatMap_append]
theorem SameT.drop (h : SameT t Qs) (hn : (t.hold.map (·.1)).Nodup) (tx : Int) : SameT (tbDrop t tx).1 (Qs.map fun l => strike l tx) ∧ (tbDrop t tx).2 = rout Qs tx 10 := by
 obtain ⟨h1, h2⟩ := h.tab.dropped hn tx
 obtain ⟨r, hr⟩ := h.rk
 obtain ⟨r', hr'⟩ := Rk.drop h.tab hr tx
 refine ⟨⟨by simpa using h.len, by rw [qf_map]; exact h1, ⟨r', by rw [qf_map]; exact hr'⟩, by rw [qf_map]; exact fun k x hx => h.pos k x (strike_mem.1 hx).1⟩, ?_⟩
 rw [h2]
 have hks : sortI (holders t tx) = ((List.range 10).map fun k : Nat => (k : Int)).filter fun k => decide ((qf Qs k).head? = some tx) := by
  symm
  refine sortI_of ((List.perm_ext_iff_of_nodup ?_ (holders_nodup hn)).2 ?_) ?_
  ·exact (show (((List.range 10).map fun k : Nat => (k : Int))).Nodup by decide).sublist List.filter_sublist
  ·intro k
   rw [List.mem_filter, holders_mem hn, h.tab.hold k]
   simp only [List.mem_map, List.mem_range, decide_eq_true_eq]
   constructor
   ·rintro ⟨_, hk⟩; exact hk
   ·intro hk
    refine ⟨?_, hk⟩
    have := qf_in (List.mem_of_mem_head? hk)
    rw [h.len] at this
    exact ⟨k.toNat, this.2, by omega⟩
  ·exact List.Pairwise.filter _ (by decide)
 rw [hks]
 unfold nexts rout
 have key : ∀ ks : List Nat, (((ks.map fun k : Nat => (k : Int)).filter fun k => decide ((qf Qs k).head? = some tx)).flatMap fun k => firstL k (strikeQ (qf Qs) tx k).tail) = ks.flatMap fun k : Nat => routK tx k (qf Qs k) := by
  intro ks
  induction ks with
  | nil => rfl
  | cons k ks ih =>
   rw [List.map_cons, List.filter_cons, List.flatMap_cons]
   unfold routK at ih ⊢
   by_cases e : (qf Qs (k : Int)).head? = some tx
   ·rw [if_pos (by simpa using e), if_pos e, List.flatMap_cons, ih]
    congr 2
    rw [strikeQ_tail]
    cases hq : qf Qs (k : Int) with
    | nil => rfl
    | cons a l =>
     rw [hq] at e
     simp only [List.head?_cons, Option.some.injEq] at e
     subst e
     rw [strike_cons, if_pos rfl]; rfl
   ·rw [if_neg (by simpa using e), if_neg e, ih]; rfl
 exact key _
end Go.Sep
/- The reference's table of locks: what its memory is. No program in sight. -/
namespace Go.Sep
open Go Go.RowKit
def rtabK (T b o : Nat) (kv : List Value) (V : List (List Int)) : HProp :=
 sep (pur (kv.length = 10 ∧ V.length = 10)) (sep (cells b o kv) (all ((kv.zip V).map fun p => sl T 1 p.1 p.2.length (icells p.2))))
def rtabP (T b o : Nat) (V : List (List Int)) : HProp := ex fun kv => rtabK T b o kv V
variable {w w0 : World} {L : List HProp} {T b o : Nat} {kv : List Value} {V : List (List Int)}
theorem S.rtabK_len (h : S w0 w (rtabK T b o kv V :: L)) : kv.length = 10 ∧ V.length = 10 := h.sep_elim.pur_elim.1
theorem S.rtabK_arr (h : S w0 w (rtabK T b o kv V :: L)) : ∀ j u, kv[j]? = some u → w.cell? ⟨b, o + j, none⟩ = some u := by
 obtain ⟨hp, h⟩ := h.sep_elim.pur_elim
 intro j u hj
 exact h.sep_elim.cells_cell j hj
theorem S.rtabK_key (h : S w0 w (rtabK T b o kv V :: L)) (k : Nat) (hk : k < 10) : ∃ v vs X, kv[k]? = some v ∧ V[k]? = some vs ∧ S w0 w (sl T 1 v vs.length (icells vs) :: X :: L) ∧
  (∀ w' M, S w0 w' (X :: M) → w'.cell? ⟨b, o + k, none⟩ = some v ∧ w'.frozen? ⟨b, o + k, none⟩ = false ∧ w0.heap.size ≤ b ∧ b < w'.heap.size) ∧
  (∀ w' M, S w0 w' (sl T 1 v vs.length (icells vs) :: X :: M) → S w0 w' (rtabK T b o kv V :: M)) ∧
  (∀ w' v' vs' M, S w0 w' (sl T 1 v' vs'.length (icells vs') :: X :: M) → S w0 (w'.setCell ⟨b, o + k, none⟩ v') (rtabK T b o (kv.set k v') (V.set k vs') :: M)) := by
 obtain ⟨⟨hkv, hV⟩, h⟩ := h.sep_elim.pur_elim
 have h := h.sep_elim
 have hz : k < ((kv.zip V).map fun p => sl T 1 p.1 p.2.length (icells p.2)).length := by simp; omega
 have hkk : k < kv.length := by omega
 have hVk : k < V.length := by omega
 refine ⟨kv[k], V[k], sep (cells b o kv) (all (((kv.zip V).map fun p => sl T 1 p.1 p.2.length (icells p.2)).eraseIdx k)), by simp [hkk], by simp [hVk], ?_, ?_, ?_, ?_⟩
 ·have h2 := h.swap.pick k hz
  simp only [List.getElem_map, List.getElem_zip] at h2
  exact h2.conv (by simp only [all]; rw [sep_assoc, sep_left_comm (cells _ _ _)])
 ·intro w' M hs
  have hg : kv[k]? = some kv[k] := by simp [hkk]
  exact ⟨hs.sep_elim.cells_cell k hg, hs.sep_elim.cells_free k hg, hs.sep_elim.cells_new (List.ne_nil_of_length_pos (by omega)), hs.sep_elim.cells_lt (List.ne_nil_of_length_pos (by omega))⟩
 ·intro w' M hs
  refine .sep_intro (.pur_intro ⟨hkv, hV⟩ (.sep_intro ?_))
  refine hs.conv ?_
  simp only [all]
  rw [all_pick _ k hz]
  simp only [List.getElem_map, List.getElem_zip]
  rw [sep_assoc, sep_left_comm, sep_assoc]
 all_goals
  have hset : ∀ v' vs', ((kv.set k v').zip (V.set k vs')).map (fun p => sl T 1 p.1 p.2.length (icells p.2)) = ((kv.zip V).map fun p => sl T 1 p.1 p.2.length (icells p.2)).set k (sl T 1 v' vs'.length (icells vs')) := by
   intro v' vs'
   apply List.ext_getElem?
   intro j
   simp only [List.getElem?_map, List.getElem?_set, List.zip, List.getElem?_zipWith]
   by_cases hj : k = j
   ·subst hj; simp [hkv, hV, hk]
   ·simp [hj]
 ·intro w' v' vs' M hs
  have h3 : S w0 w' (cells b o kv :: sl T 1 v' vs'.length (icells vs') :: all (((kv.zip V).map fun p => sl T 1 p.1 p.2.length (icells p.2)).eraseIdx k) :: M) :=
   hs.conv (by simp only [all]; rw [sep_assoc, sep_left_comm])
  have h4 := h3.set k (by omega) v'
  refine .sep_intro (.pur_intro ⟨by simpa using hkv, by simpa using hV⟩ (.sep_intro ?_))
  rw [hset]
  exact h4.conv (by simp only [all]; rw [all_set _ k hz, sep_assoc])
end Go.Sep
/- Transactions at the same time: the memory of the reference's engine. No walk in sight. -/
namespace Go.Proofs.YtmfngjclccehaaaGreatDoor
open Go Go.RowKit Go.Sep
def ownMap (l : List (Int × Int)) : List (Int × Int) := l.foldl (fun m w => mput m w.1 w.2) []
theorem ownMap_snoc (l : List (Int × Int)) (w : Int × Int) : ownMap (l ++ [w]) = mput (ownMap l) w.1 w.2 := by simp [ownMap]
structure RtxV where
 rv : Value
 ov : Value
 av : Value
 fv : Value
 own : List (Int × Int)
def RtxV.none : RtxV := ⟨.slice Option.none 0 0, .slice Option.none 0 0, .slice Option.none 0 0, .slice Option.none 0 0, []⟩
def rtxF (v : RtxV) (x : Tx) : List Value :=
 [.int .i64 x.level, .int .i64 x.state, .int .i64 x.why, .int .i64 x.start, .int .i64 x.begun, .int .i64 x.ended, v.rv, v.ov, .int .i64 x.want.1, .int .i64 x.want.2, v.av, v.fv]
def readOps (n : Int) (l : List (Int × Int)) : List Op1 := l.map fun r => ⟨n, r.1, false, r.2⟩
def rtxR (bs : List Nat) (i : Nat) (v : RtxV) (x : Tx) : HProp :=
 sep (pur (x.writes = ownMap v.own)) (sep (sl 129 4 v.rv x.reads.length (fcells opc (readOps ((i : Int) + 1) x.reads))) (sep (sl 101 2 v.ov v.own.length (pcells v.own)) (sep (sl 90 1 v.av x.aft.length (ptrs bs x.aft)) (sl 90 1 v.fv x.fore.length (ptrs bs x.fore)))))
def rtxK (bs : List Nat) (i : Nat) (v : RtxV) (x : Tx) : HProp := sep (blk (blkOf bs i) 103 (rtxF v x)) (rtxR bs i v x)
def rtxPs (bs : List Nat) (tv : List RtxV) (txs : List Tx) : List HProp := (List.range txs.length).map fun i => rtxK bs i ((tv[i]?).getD .none) ((txs[i]?).getD .zero)
def renG (b : Nat) (bs : List Nat) (txv hv : Value) (wb : Nat) (n : Nat) (count : Int) (wr : List (Int × Int)) (hist : List Op1) (ps : List HProp) : HProp :=
 sep (pur (bs.length = n ∧ ps.length = n ∧ bs.Nodup)) (sep (shp b 56 16) (sep (cells b 12 [txv, .int .i64 count, .map (some wb), hv]) (sep (sl 90 1 txv n (ptrs bs (List.range n)))
  (sep (mp encI (fun _ => True) wb (ienc wr)) (sep (sl 129 4 hv hist.length (fcells opc hist)) (all ps))))))
structure RenV where
 tv : List RtxV
 txv : Value
 hv : Value
 wb : Nat
def RenV.v (k : RenV) (i : Nat) : RtxV := (k.tv[i]?).getD .none
def RenV.set (k : RenV) (i : Nat) (v : RtxV) : RenV := { k with tv := k.tv.set i v }
def Room (M : Nat) (T : List Nat) (k : RenV) (e : Eng) : Prop := ∀ i, i < e.txs.length → (k.v i).own.length + (if (e.tx i).state = 1 ∨ i ∈ T then 1 else 0) ≤ M
def renO (b : Nat) (bs : List Nat) (k : RenV) (e : Eng) : HProp := sep (pur (k.tv.length = e.txs.length)) (renG b bs k.txv k.hv k.wb e.txs.length e.count e.wr e.hist (rtxPs bs k.tv e.txs))
def renX (b : Nat) (bs : List Nat) (k : RenV) (e : Eng) (i : Nat) : HProp := sep (pur (k.tv.length = e.txs.length)) (renG b bs k.txv k.hv k.wb e.txs.length e.count e.wr e.hist ((rtxPs bs k.tv e.txs).set i emp))
def renK (M : Nat) (T : List Nat) (b : Nat) (bs : List Nat) (k : RenV) (K : List Kep) (Qs : List (List Int)) (e : Eng) : HProp :=
 sep (pur (Same e.V e.last K ∧ SameT e.t Qs ∧ Room M T k e)) (sep (refP 47 109 b K e.last) (sep (rtabP 3 b 2 Qs) (renO b bs k e)))
def renP (M : Nat) (T : List Nat) (b : Nat) (bs : List Nat) (e : Eng) : HProp := ex fun k => ex fun K => ex fun Qs => renK M T b bs k K Qs e
variable {w w0 : World} {L : List HProp} {M : Nat} {T : List Nat} {b : Nat} {bs : List Nat} {k : RenV} {e : Eng} {i : Nat} {K : List Kep} {Qs : List (List Int)}
variable {txv hv : Value} {wb n : Nat} {count : Int} {wr : List (Int × Int)} {hist : List Op1} {ps : List HProp}
theorem rtxPs_length (bs : List Nat) (tv : List RtxV) (txs : List Tx) : (rtxPs bs tv txs).length = txs.length := by simp [rtxPs]
theorem rtxPs_get {bs : List Nat} {tv : List RtxV} {txs : List Tx} {i : Nat} (h : i < (rtxPs bs tv txs).length) : (rtxPs bs tv txs)[i] = rtxK bs i ((tv[i]?).getD .none) ((txs[i]?).getD .zero) := by simp [rtxPs]
theorem rtxPs_set {bs : List Nat} {tv : List RtxV} {txs : List Tx} {i : Nat} (hi : i < txs.length) (ht : i < tv.length) (v : RtxV) (x : Tx) : (rtxPs bs tv txs).set i (rtxK bs i v x) = rtxPs bs (tv.set i v) (txs.set i x) := by
 apply List.ext_getElem (by simp [rtxPs])
 intro j h1 h2
 rw [List.getElem_set]
 simp only [rtxPs, List.getElem_map, List.getElem_range, List.length_set, List.getElem?_set]
 by_cases h : i = j
 ·subst h; simp [hi, ht]
 ·simp [h]
theorem _root_.Go.Sep.S.ren_open (h : S w0 w (renP M T b bs e :: L)) : ∃ k K Qs, (Same e.V e.last K ∧ SameT e.t Qs ∧ Room M T k e) ∧ S w0 w (refP 47 109 b K e.last :: rtabP 3 b 2 Qs :: renO b bs k e :: L) := by
 obtain ⟨k, h⟩ := h.ex_elim
 obtain ⟨K, h⟩ := h.ex_elim
 obtain ⟨Qs, h⟩ := h.ex_elim
 obtain ⟨hp, h⟩ := h.sep_elim.pur_elim
 exact ⟨k, K, Qs, hp, h.conv (by simp only [all]; ac_rfl)⟩
theorem _root_.Go.Sep.S.ren_shut (hp : Same e.V e.last K ∧ SameT e.t Qs ∧ Room M T k e) (h : S w0 w (refP 47 109 b K e.last :: rtabP 3 b 2 Qs :: renO b bs k e :: L)) : S w0 w (renP M T b bs e :: L) :=
 .ex_intro k (.ex_intro K (.ex_intro Qs (.sep_intro (.pur_intro hp (h.conv (by simp only [all]; ac_rfl))))))
theorem _root_.Go.Sep.S.renG_parts (h : S w0 w (renG b bs txv hv wb n count wr hist ps :: L)) : (bs.length = n ∧ ps.length = n ∧ bs.Nodup) ∧
  S w0 w (cells b 12 [txv, .int .i64 count, .map (some wb), hv] :: sl 90 1 txv n (ptrs bs (List.range n)) :: mp encI (fun _ => True) wb (ienc wr) :: sl 129 4 hv hist.length (fcells opc hist) :: all ps :: shp b 56 16 :: L) := by
 obtain ⟨hp, h⟩ := h.sep_elim.pur_elim
 exact ⟨hp, h.conv (by simp only [all]; ac_rfl)⟩
theorem _root_.Go.Sep.S.renG_join (hp : bs.length = n ∧ ps.length = n ∧ bs.Nodup)
  (h : S w0 w (cells b 12 [txv, .int .i64 count, .map (some wb), hv] :: sl 90 1 txv n (ptrs bs (List.range n)) :: mp encI (fun _ => True) wb (ienc wr) :: sl 129 4 hv hist.length (fcells opc hist) :: all ps :: shp b 56 16 :: L)) :
  S w0 w (renG b bs txv hv wb n count wr hist ps :: L) :=
 .sep_intro (.pur_intro hp (h.conv (by simp only [all]; ac_rfl)))
theorem _root_.Go.Sep.S.renG_out (h : S w0 w (renG b bs txv hv wb n count wr hist ps :: L)) (i : Nat) (hi : i < ps.length) : S w0 w (ps[i] :: renG b bs txv hv wb n count wr hist (ps.set i emp) :: L) := by
 obtain ⟨⟨h1, h2, h3⟩, h⟩ := h.renG_parts
 have h4 : S w0 w (cells b 12 [txv, .int .i64 count, .map (some wb), hv] :: sl 90 1 txv n (ptrs bs (List.range n)) :: mp encI (fun _ => True) wb (ienc wr) :: sl 129 4 hv hist.length (fcells opc hist) :: all (ps.set i emp) :: shp b 56 16 :: ps[i] :: L) := by
  refine h.conv ?_
  simp only [all]
  rw [all_set ps i hi emp, emp_sep, all_pick ps i hi]
  ac_rfl
 exact (S.renG_join ⟨h1, by simpa using h2, h3⟩ h4).swap
theorem _root_.Go.Sep.S.renG_in {P : HProp} (hi : i < ps.length) (h : S w0 w (P :: renG b bs txv hv wb n count wr hist (ps.set i emp) :: L)) : S w0 w (renG b bs txv hv wb n count wr hist (ps.set i P) :: L) := by
 obtain ⟨⟨h1, h2, h3⟩, h⟩ := h.swap.renG_parts
 refine S.renG_join ⟨h1, by simpa using h2, h3⟩ (h.conv ?_)
 simp only [all]
 rw [all_set ps i hi emp, emp_sep, all_set ps i hi P]
 ac_rfl
theorem _root_.Go.Sep.S.renG_see (h : S w0 w (renG b bs txv hv wb n count wr hist ps :: L)) : w0.heap.size ≤ b ∧ (∀ j u, [txv, Value.int .i64 count, .map (some wb), hv][j]? = some u → w.cell? ⟨b, 12 + j, none⟩ = some u ∧ w.frozen? ⟨b, 12 + j, none⟩ = false) ∧
  (∃ a cap, txv = .slice a n cap ∧ n ≤ cap ∧ cap ≤ maxLen ∧ ∀ j, j < n → ∃ g o, a = some ⟨g, o, none⟩ ∧ w.cell? ⟨g, o + j, none⟩ = some (ptr bs j)) ∧ MapAt encI (fun _ => True) w wb (ienc wr) ∧ (wr.map (·.1)).Nodup := by
 obtain ⟨_, h⟩ := h.renG_parts
 have h2 := h.swap.sl_val
 have h3 := h.rot3.mapAt
 have h4 := h.rot3.nodup
 refine ⟨h.cells_new (by simp), fun j u hj => ⟨h.cells_cell j hj, h.cells_free j hj⟩, ?_, h3, by simpa [ienc, List.map_map, Function.comp_def] using h4⟩
 obtain ⟨a, cap, h5, h6, h7, h8⟩ := h2
 refine ⟨a, cap, h5, h6, h7, fun j hj => ?_⟩
 obtain ⟨g, o, h9, h10, _⟩ := h8 j (ptr bs j) (by simp [ptrs, hj])
 exact ⟨g, o, h9, h10⟩
structure RtxC (w : World) (bs : List Nat) (p : Nat) (i : Nat) (v : RtxV) (x : Tx) : Prop where
 lt : p < w.heap.size
 free : ∀ j, w.frozen? ⟨p, j, Option.none⟩ = false
 level : w.cell? ⟨p, 0, Option.none⟩ = some (.int .i64 x.level)
 state : w.cell? ⟨p, 1, Option.none⟩ = some (.int .i64 x.state)
 why : w.cell? ⟨p, 2, Option.none⟩ = some (.int .i64 x.why)
 start : w.cell? ⟨p, 3, Option.none⟩ = some (.int .i64 x.start)
 begun : w.cell? ⟨p, 4, Option.none⟩ = some (.int .i64 x.begun)
 ended : w.cell? ⟨p, 5, Option.none⟩ = some (.int .i64 x.ended)
 reads : w.cell? ⟨p, 6, Option.none⟩ = some v.rv
 owns : w.cell? ⟨p, 7, Option.none⟩ = some v.ov
 want1 : w.cell? ⟨p, 8, Option.none⟩ = some (.int .i64 x.want.1)
 want2 : w.cell? ⟨p, 9, Option.none⟩ = some (.int .i64 x.want.2)
 aft : w.cell? ⟨p, 10, Option.none⟩ = some v.av
 fore : w.cell? ⟨p, 11, Option.none⟩ = some v.fv
 map : x.writes = ownMap v.own
 rs : ∃ a cap, v.rv = .slice a x.reads.length cap ∧ x.reads.length ≤ cap ∧ cap ≤ maxLen ∧ ∀ j p, x.reads[j]? = some p → ∃ g o, a = some ⟨g, o, Option.none⟩ ∧ w.cell? ⟨g, o + j * 4, Option.none⟩ = some (.int .i64 ((i : Int) + 1)) ∧ w.cell? ⟨g, o + j * 4 + 1, Option.none⟩ = some (.int .i64 p.1) ∧ w.cell? ⟨g, o + j * 4 + 2, Option.none⟩ = some (.bool false) ∧ w.cell? ⟨g, o + j * 4 + 3, Option.none⟩ = some (.int .i64 p.2)
 os : ∃ a cap, v.ov = .slice a v.own.length cap ∧ v.own.length ≤ cap ∧ cap ≤ maxLen ∧ ∀ j p, v.own[j]? = some p → ∃ g o, a = some ⟨g, o, Option.none⟩ ∧ w.cell? ⟨g, o + j * 2, Option.none⟩ = some (.int .i64 p.1) ∧ w.cell? ⟨g, o + j * 2 + 1, Option.none⟩ = some (.int .i64 p.2)
 as_ : ∃ a cap, v.av = .slice a x.aft.length cap ∧ x.aft.length ≤ cap ∧ cap ≤ maxLen ∧ ∀ j p, x.aft[j]? = some p → ∃ g o, a = some ⟨g, o, Option.none⟩ ∧ w.cell? ⟨g, o + j, Option.none⟩ = some (ptr bs p)
 fs : ∃ a cap, v.fv = .slice a x.fore.length cap ∧ x.fore.length ≤ cap ∧ cap ≤ maxLen ∧ ∀ j p, x.fore[j]? = some p → ∃ g o, a = some ⟨g, o, Option.none⟩ ∧ w.cell? ⟨g, o + j, Option.none⟩ = some (ptr bs p)
theorem opc_length (o : Op1) : (opc o).length = 4 := rfl
theorem _root_.Go.Sep.S.rtx_see {v : RtxV} {x : Tx} (h : S w0 w (rtxK bs i v x :: L)) : w0.heap.size ≤ blkOf bs i ∧ RtxC w bs (blkOf bs i) i v x := by
 have hp := h.sep_elim.tail.sep_elim.pur_elim.1
 have h0 : S w0 w (blk (blkOf bs i) 103 (rtxF v x) :: sl 129 4 v.rv x.reads.length (fcells opc (readOps ((i : Int) + 1) x.reads)) :: sl 101 2 v.ov v.own.length (pcells v.own) :: sl 90 1 v.av x.aft.length (ptrs bs x.aft) :: sl 90 1 v.fv x.fore.length (ptrs bs x.fore) :: L) :=
  (h.sep_elim.swap.sep_elim.pur_elim.2).conv (by simp only [all]; ac_rfl)
 have h1 := h0.swap
 have h2 := h0.tail.tail
 have h3 := h2.tail
 have h4 := h3.tail
 refine ⟨h0.blk_new, h0.blk_lt, fun j => h0.blk_free j, h0.blk_cell 0 rfl, h0.blk_cell 1 rfl, h0.blk_cell 2 rfl, h0.blk_cell 3 rfl, h0.blk_cell 4 rfl, h0.blk_cell 5 rfl, h0.blk_cell 6 rfl, h0.blk_cell 7 rfl, h0.blk_cell 8 rfl, h0.blk_cell 9 rfl, h0.blk_cell 10 rfl, h0.blk_cell 11 rfl, hp, ?_, ?_, ?_, ?_⟩
 ·obtain ⟨a, cap, h5, h6, h7, h8⟩ := h1.sl_val
  refine ⟨a, cap, h5, h6, h7, fun j p hj => ?_⟩
  have hj2 : (readOps ((i : Int) + 1) x.reads)[j]? = some ⟨(i : Int) + 1, p.1, false, p.2⟩ := by unfold readOps; rw [List.getElem?_map, hj]; rfl
  have hl : (readOps ((i : Int) + 1) x.reads).length = x.reads.length := by simp [readOps]
  rw [h5, ← hl] at h1
  obtain ⟨g, o, ha, _, hc⟩ := h1.sl_f opc_length hj2 (by omega)
  exact ⟨g, o, ha, by have := hc 0 _ rfl; rwa [Nat.add_zero] at this, hc 1 _ rfl, hc 2 _ rfl, hc 3 _ rfl⟩
 ·obtain ⟨a, cap, h5, h6, h7, _⟩ := h2.sl_val
  refine ⟨a, cap, h5, h6, h7, fun j p hj => ?_⟩
  rw [h5] at h2
  obtain ⟨g, o, h8, _, h9, h10⟩ := h2.sl_pair hj
  exact ⟨g, o, h8, h9, h10⟩
 ·obtain ⟨a, cap, h5, h6, h7, h8⟩ := h3.sl_val
  refine ⟨a, cap, h5, h6, h7, fun j p hj => ?_⟩
  obtain ⟨g, o, h9, h10, _⟩ := h8 j (ptr bs p) (by simp [ptrs, hj])
  exact ⟨g, o, h9, h10⟩
 ·obtain ⟨a, cap, h5, h6, h7, h8⟩ := h4.sl_val
  refine ⟨a, cap, h5, h6, h7, fun j p hj => ?_⟩
  obtain ⟨g, o, h9, h10, _⟩ := h8 j (ptr bs p) (by simp [ptrs, hj])
  exact ⟨g, o, h9, h10⟩
theorem _root_.Go.Sep.S.ren_tx (h : S w0 w (renO b bs k e :: L)) (hi : i < e.txs.length) : S w0 w (rtxK bs i (k.v i) (e.tx i) :: renX b bs k e i :: L) := by
 obtain ⟨hp, h⟩ := h.sep_elim.pur_elim
 have hl : i < (rtxPs bs k.tv e.txs).length := by rw [rtxPs_length]; exact hi
 have h1 := h.renG_out i hl
 rw [rtxPs_get hl] at h1
 exact S.swap (.sep_intro (.pur_intro hp h1.swap))
theorem _root_.Go.Sep.S.ren_back {v : RtxV} {x : Tx} (hi : i < e.txs.length) (h : S w0 w (rtxK bs i v x :: renX b bs k e i :: L)) : S w0 w (renO b bs (k.set i v) { e with txs := e.txs.set i x } :: L) := by
 obtain ⟨hp, h⟩ := h.swap.sep_elim.pur_elim
 have hl : i < (rtxPs bs k.tv e.txs).length := by rw [rtxPs_length]; exact hi
 have h1 := h.swap.renG_in hl
 rw [rtxPs_set hi (by omega)] at h1
 refine .sep_intro (.pur_intro (by simpa [RenV.set] using hp) ?_)
 simp only [RenV.set, List.length_set] at h1 ⊢
 exact h1
theorem _root_.Go.Sep.S.ren_txc (h : S w0 w (renO b bs k e :: L)) (hi : i < e.txs.length) : w0.heap.size ≤ blkOf bs i ∧ RtxC w bs (blkOf bs i) i (k.v i) (e.tx i) := (h.ren_tx hi).rtx_see
structure RenC (w : World) (b : Nat) (bs : List Nat) (k : RenV) (e : Eng) : Prop where
 txs : w.cell? ⟨b, 12, Option.none⟩ = some k.txv
 count : w.cell? ⟨b, 13, Option.none⟩ = some (.int .i64 e.count)
 wr : w.cell? ⟨b, 14, Option.none⟩ = some (.map (some k.wb))
 hist : w.cell? ⟨b, 15, Option.none⟩ = some k.hv
 free : ∀ j, 12 ≤ j → j ≤ 15 → w.frozen? ⟨b, j, Option.none⟩ = false
 row : ∃ a cap, k.txv = .slice a e.txs.length cap ∧ e.txs.length ≤ cap ∧ cap ≤ maxLen ∧ ∀ j, j < e.txs.length → ∃ g o, a = some ⟨g, o, Option.none⟩ ∧ w.cell? ⟨g, o + j, Option.none⟩ = some (ptr bs j)
 map : MapAt encI (fun _ => True) w k.wb (ienc e.wr)
 keys : (e.wr.map (·.1)).Nodup
 len : bs.length = e.txs.length ∧ bs.Nodup
theorem _root_.Go.Sep.S.ren_c (h : S w0 w (renO b bs k e :: L)) : w0.heap.size ≤ b ∧ RenC w b bs k e := by
 obtain ⟨_, h⟩ := h.sep_elim.pur_elim
 obtain ⟨h1, h2, h3, h4, h5⟩ := h.renG_see
 obtain ⟨h6, _⟩ := h.renG_parts
 refine ⟨h1, (h2 0 _ rfl).1, (h2 1 _ rfl).1, (h2 2 _ rfl).1, (h2 3 _ rfl).1, fun j h7 h8 => ?_, h3, h4, h5, h6.1, h6.2.2⟩
 have : j = 12 + 0 ∨ j = 12 + 1 ∨ j = 12 + 2 ∨ j = 12 + 3 := by omega
 rcases this with rfl | rfl | rfl | rfl
 ·exact (h2 0 _ rfl).2
 ·exact (h2 1 _ rfl).2
 ·exact (h2 2 _ rfl).2
 ·exact (h2 3 _ rfl).2
theorem RenV.set_v (k : RenV) (i : Nat) : k.set i (k.v i) = k := by
 unfold RenV.set RenV.v
 by_cases h : i < k.tv.length
 ·have : k.tv.set i ((k.tv[i]?).getD .none) = k.tv := by simp [h]
  rw [this]
 ·rw [List.set_eq_of_length_le (by omega)]
theorem _root_.Go.Sep.S.ren_set {j : Nat} {u : Value} (h : S w0 w (renO b bs k e :: L)) (hi : i < e.txs.length) (f : Tx → Tx) (hj : j < 12) (hF : rtxF (k.v i) (f (e.tx i)) = (rtxF (k.v i) (e.tx i)).set j u)
  (h1 : (f (e.tx i)).reads = (e.tx i).reads) (h2 : (f (e.tx i)).writes = (e.tx i).writes) (h3 : (f (e.tx i)).fore = (e.tx i).fore) (h4 : (f (e.tx i)).aft = (e.tx i).aft) :
  S w0 (w.setCell ⟨blkOf bs i, j, Option.none⟩ u) (renO b bs k (e.upd i f) :: L) := by
 have g1 := (h.ren_tx hi).sep_elim.blk_set j (by simpa [rtxF] using hj) u
 rw [← hF] at g1
 have hR : rtxR bs i (k.v i) (f (e.tx i)) = rtxR bs i (k.v i) (e.tx i) := by unfold rtxR; rw [h1, h2, h3, h4]
 have g2 : S w0 (w.setCell ⟨blkOf bs i, j, Option.none⟩ u) (rtxK bs i (k.v i) (f (e.tx i)) :: renX b bs k e i :: L) := by
  refine .sep_intro ?_
  rw [hR]; exact g1
 have g3 := S.ren_back hi g2
 rw [RenV.set_v] at g3
 have e2 : { e with txs := e.txs.set i (f (e.tx i)) } = e.upd i f := by
  have := Eng.upd_set hi f
  unfold Eng.upd at this ⊢
  simp only at this
  rw [this]
 rwa [e2] at g3
end Go.Proofs.YtmfngjclccehaaaGreatDoor
/- errors.As at an error with a place; what Tell answers then. -/
namespace Go.Proofs.YtmfngjclccehaaaGreatDoor
open Go Go.RowKit Go.Sep Go.Extern.Stop Go.Stop Go.Extern
theorem Tryz.noAs (v : Value) (w : World) : (Instr.typeAssert (.iface 112 v) 32 191 true).run Tryz.prog w = .ok (.tuple #[.nilIface, .bool false]) w :=
 run_typeAssert_lacksB Tryz.underlying191 (by kernel_rfl) (by kernel_rfl) v 32 w
theorem Tryz.hasUnwrap (v : Value) (w : World) : (Instr.typeAssert (.iface 112 v) 32 116 true).run Tryz.prog w = .ok (.tuple #[.iface 112 v, .bool true]) w :=
 run_typeAssert_hasB Tryz.underlying116 (by kernel_rfl) v 32 w
theorem Tryz.methodUnwrap (p : Option Addr) (w : World) : (Go.method 347 112 (.pointer p) "Unwrap").run Tryz.prog w = .ok (148, .pointer p) w := by kernel_rfl
set_option maxRecDepth 20000 in
set_option maxHeartbeats 4000000 in
theorem as_at (e p : Int) (ga t : Nat) (old : Value) (w0 w : World) (L : List HProp) (hE : ErrT w0) (hs : S w0 w (blk t 25 [old] :: blk ga 113 [.int .i64 e, .int .i64 p] :: L)) :
  Calls Tryz.prog 78 #[.iface 112 (.pointer (some ⟨ga, 0, none⟩)), .iface 151 (.pointer (some ⟨t, 0, none⟩))] w fun ev w' => ev = .returned (.bool true) ∧ S w0 w' (blk t 25 [.int .i64 e] :: blk ga 113 [.int .i64 e, .int .i64 p] :: L) := by
 have hg := hE.of hs
 unfold ErrT at hg
 have hlt := (hE.of hs).lt
 have hs1 := hs.alloc #[.pointer (some ⟨t, 0, none⟩)] 151
 have hs2 := hs1.alloc #[.pointer (some ⟨1, 151, none⟩), .pointer (some ⟨w.heap.size, 0, none⟩), .int .u64 150] 169
 have hs3 := hs2.alloc #[.pointer (some ⟨1, 151, none⟩), .pointer (some ⟨w.heap.size, 0, none⟩), .int .u64 150] 169
 have hs4 := hs3.alloc #[.int .i64 e] 25
 simp only [World.size_alloc] at hs2 hs3 hs4
 have hfin := hs4.tail.tail.tail.tail.blk_set 0 (by simp) (.int .i64 e)
 have h6 := @run_callFunc_extern Tryz.prog 95 _ (fun args => ReflectliteValue.unpack (args.getD 0 (.tuple #[]))) Tryz.func95 (by kernel_rfl) (by kernel_rfl) (by kernel_rfl) (by kernel_rfl)
 have h7 := @run_callFunc_extern Tryz.prog 96 _ (ReflectliteValue.methodAny (ReflectliteValue.valueError "reflectlite.Value.Type" 0) (fun t _ _ _ => ReflectliteType.toType t)) Tryz.func96 (by kernel_rfl) (by kernel_rfl) (by kernel_rfl) (by kernel_rfl)
 have h8 := @run_callFunc_extern Tryz.prog 97 _ (ReflectliteValue.method (ReflectliteValue.valueError "reflectlite.Value.IsNil" 0) ReflectliteValue.isNil) Tryz.func97 (by kernel_rfl) (by kernel_rfl) (by kernel_rfl) (by kernel_rfl)
 have h27 := @run_callFunc_extern Tryz.prog 143 _ (ReflectliteType.abiMethod fun t => do pure (.int .u8 (← Rtype.kind t))) Tryz.func143 (by kernel_rfl) (by kernel_rfl) (by kernel_rfl) (by kernel_rfl)
 have h37 := @run_callFunc_extern Tryz.prog 155 _ (ReflectliteType.method ReflectliteType.elem) Tryz.func155 (by kernel_rfl) (by kernel_rfl) (by kernel_rfl) (by kernel_rfl)
 have h38 := @run_callFunc_extern Tryz.prog 156 _ (ReflectliteType.relation "Implements" ReflectliteType.implements_) Tryz.func156 (by kernel_rfl) (by kernel_rfl) (by kernel_rfl) (by kernel_rfl)
 have h10 := @run_callFunc_extern Tryz.prog 107 _ ReflectliteType.typeOf Tryz.func107 (by kernel_rfl) (by kernel_rfl) (by kernel_rfl) (by kernel_rfl)
 have h35 := @run_callFunc_extern Tryz.prog 153 _ (ReflectliteType.relation "AssignableTo" ReflectliteType.assignableTo) Tryz.func153 (by kernel_rfl) (by kernel_rfl) (by kernel_rfl) (by kernel_rfl)
 have h11 := @run_callFunc_extern Tryz.prog 108 _ (ReflectliteValue.method (ReflectliteValue.valueError "reflectlite.Value.Elem" 0) ReflectliteValue.elem) Tryz.func108 (by kernel_rfl) (by kernel_rfl) (by kernel_rfl) (by kernel_rfl)
 have h12 := @run_callFunc_extern Tryz.prog 109 _ ReflectliteValue.set Tryz.func109 (by kernel_rfl) (by kernel_rfl) (by kernel_rfl) (by kernel_rfl)
 have tO := Tryz.typeOfE
 have tA := Tryz.typeOfA
 have nA := Tryz.noAs
 have hU := Tryz.hasUnwrap
 have mU := Tryz.methodUnwrap
 have a26 := Tryz.assignableA
 have ca := (hs3.tail.tail.tail.swap.blk_cell 0 rfl)
 have mA := Tryz.methodAssignableTo
 have a25 := Tryz.assignableE
 have v25 := Tryz.valueOfE
 have f6 := Tryz.valueOfT
 have f7 := Tryz.typeT
 have mK := Tryz.methodKind
 have mE := Tryz.methodElem
 have mI := Tryz.methodImplements
 have k27 := Tryz.kindT
 have k25 := Tryz.kindE
 have e27 := Tryz.elemT
 have i25 := Tryz.implementsE
 have n8 := Tryz.isNilT ⟨w.heap.size, 0, none⟩ ⟨t, 0, none⟩ _ (hs2.tail.blk_cell 0 rfl)
 have el := Tryz.elemVT ⟨w.heap.size, 0, none⟩ ⟨t, 0, none⟩ _ (hs3.tail.tail.blk_cell 0 rfl)
 have st := Tryz.setE ⟨t, 0, none⟩ ⟨w.heap.size + 1 + 1 + 1, 0, none⟩ e old _ (hs4.blk_cell 0 rfl) (hs4.tail.tail.tail.tail.blk_cell 0 rfl) (hs4.tail.tail.tail.tail.blk_free 0)
 have hg2 : ((w.alloc (.cells #[.pointer (some ⟨t, 0, none⟩)] 151)).alloc (.cells #[.pointer (some ⟨1, 151, none⟩), .pointer (some ⟨w.heap.size, 0, none⟩), .int .u64 150] 169)).cell? ⟨0, 0, none⟩ = some (.iface 186 (.agg #[.pointer (some ⟨1, 32, none⟩)])) := hE.of hs2
 have HF := hid hfin
 clear hs1 hs2 hs3 hs4 hfin hs
 go_enter Tryz.func78, Tryz.ntmps78
 go_wp2
 refine wp_loop_rounds 2 ?_
 rw [rounds_succ]
 go_wp2
 rw [rounds_succ]
 go_wp2
 go_ret
 exact ⟨rfl, HF.out⟩
set_option maxHeartbeats 1000000 in
theorem tell_at (e p : Int) (g : Nat) (w0 w : World) (L : List HProp) (hE : ErrT w0) (hs : S w0 w (blk g 113 [.int .i64 e, .int .i64 p] :: L)) :
  Calls Tryz.prog 46 #[.iface 112 (.pointer (some ⟨g, 0, none⟩))] w fun ev w' => ev = .returned (.int .i64 e) ∧ S w0 w' (blk g 113 [.int .i64 e, .int .i64 p] :: L) := by
 have hs1 := hs.alloc #[.int .i64 0] 25
 have H1 := hid hs1
 clear hs1 hs
 go_enter Tryz.func46, Tryz.ntmps46
 go_wp2_with (go_at_call 78; refine (as_at _ _ _ _ _ w0 _ L hE H1.out).mono ?_; rintro ev w' ⟨rfl, hs2⟩; have d1 := hs2.blk_cell 0 rfl; have H2 := hid hs2; clear hs2)
 go_ret
 exact ⟨rfl, H2.out.tail⟩
theorem tell_any (x : Err) (v : Value) (w0 w : World) (L : List HProp) (hE : ErrT w0) (hs : S w0 w (errP 25 113 112 v x :: L)) :
  Calls Tryz.prog 46 #[v] w fun ev w' => ev = .returned (.int .i64 (Err.errno x)) ∧ S w0 w' (errP 25 113 112 v x :: L) := by
 cases x with
 | nil =>
  obtain ⟨rfl, h⟩ := S.pur_elim hs
  exact (tell_nil w).mono fun ev w' ⟨h1, h2⟩ => ⟨h1, by rw [← h2]; exact hs⟩
 | no e =>
  obtain ⟨rfl, h⟩ := S.pur_elim hs
  exact (tell_no e w0 w L hE h).mono fun ev w' ⟨h1, h2⟩ => ⟨h1, S.pur_intro rfl h2⟩
 | at_ e p =>
  obtain ⟨g, hs1⟩ := S.ex_elim hs
  obtain ⟨rfl, hs2⟩ := S.pur_elim (S.sep_elim hs1)
  exact (tell_at e p g w0 w L hE hs2).mono fun ev w' ⟨h1, h2⟩ => ⟨h1, .ex_intro g (.sep_intro (.pur_intro rfl h2))⟩
end Go.Proofs.YtmfngjclccehaaaGreatDoor
/- plain.Place, of whatever error; what the laws ask of two errors. -/
namespace Go.Sep
def Err.place : Err → Int
 | .nil => -1
 | .no _ => -1
 | .at_ _ p => p
end Go.Sep
namespace Go.Proofs.YtmfngjclccehaaaGreatDoor
open Go Go.RowKit Go.Sep Go.Stop
theorem Tryz.noUnwrap (v : Value) (w : World) : (Instr.typeAssert (.iface 25 v) 32 116 true).run Tryz.prog w = .ok (.tuple #[.nilIface, .bool false]) w :=
 run_typeAssert_lacksB Tryz.underlying116 (by kernel_rfl) (by kernel_rfl) v 32 w
theorem Tryz.atNo (v : Value) (w : World) : (Instr.typeAssert (.iface 25 v) 32 112 true).run Tryz.prog w = .ok (.tuple #[.pointer none, .bool false]) w := by kernel_rfl
theorem Tryz.atYes (p : Option Addr) (w : World) : (Instr.typeAssert (.iface 112 (.pointer p)) 32 112 true).run Tryz.prog w = .ok (.tuple #[.pointer p, .bool true]) w := by kernel_rfl
set_option maxRecDepth 20000 in
set_option maxHeartbeats 1000000 in
theorem place_any (x : Err) (v : Value) (w0 w : World) (L : List HProp) (hE : ErrT w0) (hs : S w0 w (errP 25 113 112 v x :: L)) :
  Calls Tryz.prog 14 #[v] w fun ev w' => ev = .returned (.tuple #[.int .i64 (Err.errno x), .int .i64 (Err.place x)]) ∧ S w0 w' (errP 25 113 112 v x :: L) := by
 have hcall := tell_any x v w0 w L hE hs
 have HC := hid hcall
 have nU := Tryz.noUnwrap
 have aN := Tryz.atNo
 have aY := Tryz.atYes
 clear hcall
 cases x with
 | nil =>
  obtain ⟨rfl, _⟩ := S.pur_elim hs
  clear hs
  go_enter Tryz.func14, Tryz.ntmps14
  go_wp2_with fail
  with_reducible refine HC.out.mono ?_
  rintro e w1 ⟨rfl, hs1⟩
  have H1 := hid hs1
  clear hs1 HC
  go_wp2_with fail
  refine wp_loop_rounds 1 ?_
  rw [rounds_succ]
  go_wp2_with fail
  go_ret2
  exact ⟨rfl, H1.out⟩
 | no e =>
  obtain ⟨rfl, _⟩ := S.pur_elim hs
  clear hs
  go_enter Tryz.func14, Tryz.ntmps14
  go_wp2_with fail
  with_reducible refine HC.out.mono ?_
  rintro e w1 ⟨rfl, hs1⟩
  have H1 := hid hs1
  clear hs1 HC
  go_wp2_with fail
  refine wp_loop_rounds 1 ?_
  rw [rounds_succ]
  go_wp2_with fail
  go_ret2
  exact ⟨rfl, H1.out⟩
 | at_ e p =>
  obtain ⟨g, hs1⟩ := S.ex_elim hs
  obtain ⟨rfl, _⟩ := S.pur_elim (S.sep_elim hs1)
  clear hs hs1
  go_enter Tryz.func14, Tryz.ntmps14
  go_wp2_with fail
  with_reducible refine HC.out.mono ?_
  rintro e w1 ⟨rfl, hs1⟩
  obtain ⟨g', hs2⟩ := S.ex_elim hs1
  obtain ⟨hg, hs3⟩ := S.pur_elim (S.sep_elim hs2)
  obtain rfl : g = g' := by simpa using hg
  have d1 := hs3.blk_cell 1 rfl
  have H1 := hid hs1
  clear hs1 hs2 hs3 hg HC
  go_wp2_with fail
  refine wp_loop_rounds 1 ?_
  rw [rounds_succ]
  go_wp2_with fail
  go_region
  go_wp2_with fail
  go_ret2
  exact ⟨rfl, H1.out.drew⟩
def isE (x : Err) (e p : Int) : Bool := decide (Err.errno x = e ∧ Err.place x = p)
set_option maxHeartbeats 1000000 in
theorem is_any (x : Err) (v : Value) (e p : Int) (w0 w : World) (L : List HProp) (hE : ErrT w0) (hs : S w0 w (errP 25 113 112 v x :: L)) :
  Calls Tryz.prog 6 #[v, .agg #[.int .i64 e, .int .i64 p]] w fun ev w' => ev = .returned (.bool (isE x e p)) ∧ S w0 w' (errP 25 113 112 v x :: L) := by
 have hs1 := (hs.alloc #[.int .i64 e, .int .i64 p] 27)
 have hcall := place_any x v w0 _ _ hE hs1.swap
 have HC := hid hcall
 clear hcall hs hs1
 unfold isE
 by_cases h1 : Err.errno x = e
 ·subst h1
  by_cases h2 : Err.place x = p
  ·subst h2
   go_enter Tryz.func6, Tryz.ntmps6
   go_wp2_with fail
   with_reducible refine HC.out.mono ?_
   rintro e w1 ⟨rfl, hs1⟩
   have d0 := hs1.swap.blk_cell 0 rfl
   have d1 := hs1.swap.blk_cell 1 rfl
   have H1 := hid hs1.swap.tail
   clear hs1 HC
   go_wp2_with fail
   go_ret
   exact ⟨by simp, H1.out⟩
  ·have h2' : (Err.place x == p) = false := by simpa using h2
   go_enter Tryz.func6, Tryz.ntmps6
   go_wp2_with fail
   with_reducible refine HC.out.mono ?_
   rintro e w1 ⟨rfl, hs1⟩
   have d0 := hs1.swap.blk_cell 0 rfl
   have d1 := hs1.swap.blk_cell 1 rfl
   have H1 := hid hs1.swap.tail
   clear hs1 HC
   go_wp2_with fail
   go_ret
   exact ⟨by simp [h2], H1.out⟩
 ·have h1' : (Err.errno x == e) = false := by simpa using h1
  go_enter Tryz.func6, Tryz.ntmps6
  go_wp2_with fail
  with_reducible refine HC.out.mono ?_
  rintro e w1 ⟨rfl, hs1⟩
  have d0 := hs1.swap.blk_cell 0 rfl
  have d1 := hs1.swap.blk_cell 1 rfl
  have H1 := hid hs1.swap.tail
  clear hs1 HC
  go_wp2_with fail
  go_ret
  exact ⟨by simp [h1], H1.out⟩
theorem Bare_any (e : Int) (w : World) : Calls Tryz.prog 11 #[.int .i64 e] w fun ev w' => ev = .returned (.agg #[.int .i64 e, .int .i64 (-1)]) ∧ Below w.heap.size w w' := by
 go_enter Tryz.func11, Tryz.ntmps11
 go_wp2
 exact bodyPost_ret (v := .agg #[.int .i64 e, .int .i64 (-1)]) (by simp [results, Tryz.results11, go_sem]) rfl ⟨rfl, (Below.refl _ _).alloc (Nat.le_refl _) _⟩
theorem in_any (n lo hi : Int) (w : World) : Calls Tryz.prog 44 #[.int .i64 n, .int .i64 lo, .int .i64 hi] w fun ev w' => ev = .returned (.bool (decide (lo ≤ n ∧ n ≤ hi))) ∧ w = w' := by
 by_cases h1 : lo ≤ n
 ·by_cases h2 : n ≤ hi
  ·go_enter Tryz.func44, Tryz.ntmps44
   go_wp2
   go_ret
   exact ⟨by simp [h1, h2], rfl⟩
  ·go_enter Tryz.func44, Tryz.ntmps44
   go_wp2
   go_ret
   exact ⟨by rw [decide_eq_false (show ¬ n ≤ hi by omega)]; rfl, rfl⟩
 ·go_enter Tryz.func44, Tryz.ntmps44
  go_wp2
  go_ret
  exact ⟨by rw [decide_eq_false (show ¬ lo ≤ n by omega)]; rfl, rfl⟩
theorem bare_any (x : Err) (v : Value) (e : Int) (w0 w : World) (L : List HProp) (hE : ErrT w0) (hs : S w0 w (errP 25 113 112 v x :: L)) :
  Calls Tryz.prog 17 #[v, .int .i64 e] w fun ev w' => ev = .returned (.bool (isE x e (-1))) ∧ S w0 w' (errP 25 113 112 v x :: L) := by
 have H := hid hs
 clear hs
 go_enter Tryz.func17, Tryz.ntmps17
 go_wp2_with fail
 with_reducible refine (Bare_any _ _).mono ?_
 rintro e w1 ⟨rfl, hb⟩
 have H1 := hid (H.out.onto hb)
 clear hb H
 go_wp2_with fail
 with_reducible refine (is_any x v _ _ w0 _ L hE H1.out).mono ?_
 rintro e w1 ⟨rfl, hs1⟩
 have H2 := hid hs1
 clear hs1 H1
 go_wp2_with fail
 go_ret
 exact ⟨rfl, H2.out⟩
end Go.Proofs.YtmfngjclccehaaaGreatDoor
/- The reference's table: Holds, Waits, Line. -/
namespace Go.Sep
open Go Go.RowKit
theorem rwaits_at {Qs : List (List Int)} {tx : Int} {k : Nat} {q : List Int} (hq : Qs[k]? = some q) (h : tx ∈ q.tail) (hl : ∀ j < k, ∀ q, Qs[j]? = some q → tx ∉ q.tail) : rwaits Qs tx = k := by
 have hk := (List.getElem?_eq_some_iff.1 hq)
 have : Qs.findIdx? (waitsAt tx) = some k := by
  rw [List.findIdx?_eq_some_iff_getElem]
  refine ⟨hk.1, ?_, fun j hj => ?_⟩
  ·rw [hk.2]; simpa [waitsAt] using h
  ·have hjl : j < Qs.length := Nat.lt_trans hj hk.1
   have := hl j hj Qs[j] (List.getElem?_eq_getElem hjl)
   simpa [waitsAt] using this
 unfold rwaits; rw [this]
theorem rwaits_none {Qs : List (List Int)} {tx : Int} (hl : ∀ j < Qs.length, ∀ q, Qs[j]? = some q → tx ∉ q.tail) : rwaits Qs tx = -1 := by
 have : Qs.findIdx? (waitsAt tx) = none := by
  rw [List.findIdx?_eq_none_iff]
  intro q hq
  obtain ⟨j, hj⟩ := List.getElem?_of_mem hq
  have := hl j (List.getElem?_eq_some_iff.1 hj).1 q hj
  simpa [waitsAt] using this
 unfold rwaits; rw [this]
theorem tail_not {q : List Int} {tx : Int} (h : ∀ m, 0 < m → ∀ y, q[m]? = some y → y ≠ tx) : tx ∉ q.tail := by
 intro hm
 obtain ⟨j, hj⟩ := List.getElem?_of_mem hm
 rw [List.getElem?_tail] at hj
 exact h (j + 1) (by omega) _ hj rfl
theorem tail_mem {q : List Int} {tx : Int} {m : Nat} (hm : 0 < m) (h : q[m]? = some tx) : tx ∈ q.tail := by
 refine List.mem_of_getElem? (i := m - 1) ?_
 rw [List.getElem?_tail, show m - 1 + 1 = m by omega]; exact h
end Go.Sep
namespace Go.Proofs.YtmfngjclccehaaaGreatDoor
open Go Go.RowKit Go.Sep
theorem Tryz.size48 : (Tryz.prog.info? 48).map (·.size) = some 1 := by kernel_rfl
theorem Tryz.size49 : (Tryz.prog.info? 49).map (·.size) = some 10 := by kernel_rfl
set_option maxRecDepth 20000 in
set_option maxHeartbeats 2000000 in
theorem rholds_any (w0 w : World) {bo : Nat} (b : Nat) (kv : List Value) (Qs : List (List Int)) (key : Int) (L : List HProp) (hs : S w0 w (rtabK 3 b bo kv Qs :: L)) :
  Calls Tryz.prog 76 #[.pointer (some ⟨b, bo, none⟩), .int .i64 key] w fun e w' => e = .returned (.int .i64 (rholds Qs key)) ∧ w = w' := by
 by_cases hk : 0 ≤ key ∧ key ≤ 9
 ·obtain ⟨k, rfl⟩ : ∃ k : Nat, key = k := ⟨key.toNat, by omega⟩
  have hk10 : k < 10 := by omega
  obtain ⟨v, q, X, hkv, hQ, hsl, hcell, _, _⟩ := hs.rtabK_key k hk10
  obtain ⟨c0, _⟩ := hcell w L hsl.tail
  have hr : rholds Qs k = q.headD 0 := by unfold rholds; rw [qf_nat, hQ]; rfl
  have hb0 : (0 : Int) ≤ (k : Int) := by omega
  have hb1 : (k : Int) ≤ 9 := by omega
  have hb2 : (k : Int) < 10 := by omega
  rw [hr]
  clear hcell hkv hQ hs hk hr
  cases q with
  | nil =>
   obtain ⟨a, c, rfl, _⟩ := hsl.sl_val
   clear hsl
   go_enter Tryz.func76, Tryz.ntmps76
   go_wp2_with (go_at_call 44; with_reducible refine (in_any _ _ _ _).mono ?_; rintro e w' ⟨rfl, rfl⟩)
   go_ret
   exact ⟨rfl, rfl⟩
  | cons x l =>
   obtain ⟨a, c, rfl, _⟩ := hsl.sl_val
   obtain ⟨g, o, rfl, _, d0⟩ := hsl.sl_int (i := 0) (x := x) rfl
   rw [Nat.add_zero] at d0
   have hl : ((((x :: l).length : Nat) : Int) == 0) = false := by simp only [List.length_cons, beq_eq_false_iff_ne, ne_eq]; omega
   have hl2 : (0 : Int) < (((x :: l).length : Nat) : Int) := by simp only [List.length_cons]; omega
   clear hsl
   generalize (x :: l).length = n at *
   go_enter Tryz.func76, Tryz.ntmps76
   go_wp2_with (go_at_call 44; with_reducible refine (in_any _ _ _ _).mono ?_; rintro e w' ⟨rfl, rfl⟩)
   go_ret
   exact ⟨rfl, rfl⟩
 ·have hr : rholds Qs key = 0 := by
   unfold rholds
   rw [qf_out (by rw [hs.rtabK_len.2]; omega)]; rfl
  have hb : decide ((0 : Int) ≤ key ∧ key ≤ 9) = false := decide_eq_false hk
  rw [hr]
  clear hs hk hr
  go_enter Tryz.func76, Tryz.ntmps76
  go_wp2_with (go_at_call 44; with_reducible refine (in_any _ _ _ _).mono ?_; rw [hb]; rintro e w' ⟨rfl, rfl⟩)
  go_ret
  exact ⟨rfl, rfl⟩
set_option maxRecDepth 20000 in
set_option maxHeartbeats 4000000 in
theorem rwaits_any (w0 w : World) {bo : Nat} (b : Nat) (kv : List Value) (Qs : List (List Int)) (tx : Int) (L : List HProp) (hs : S w0 w (rtabK 3 b bo kv Qs :: L)) (hN : ∀ q ∈ Qs, q.length ≤ 1000000) :
  Calls Tryz.prog 77 #[.pointer (some ⟨b, bo, none⟩), .int .i64 tx] w fun e w' => e = .returned (.int .i64 (rwaits Qs tx)) ∧ w = w' := by
 have hlen := hs.rtabK_len
 have harr := hs.rtabK_arr
 have hadd : ∀ j u, kv[j]? = some u → w.cell? ((⟨b, bo, none⟩ : Addr).add j) = some u := by
  intro j u hj
  rw [addr_add']; exact harr j u hj
 have hkl := hlen.1
 have HA := hid hadd; have HL := hid hlen; have HK := hid hkl; have HS := hid hs; have HN := hid hN
 clear hadd harr hs hlen hkl hN
 go_enter Tryz.func77, Tryz.ntmps77
 go_wp2_with (refine wpList_load_arr rfl 49 (.tmp 11) rfl ⟨b, bo, none⟩ rfl 10 48 Tryz.underlying49 kv (by rw [HK.out]; exact Tryz.size49) HA.out ?_)
 go_loop [13] (fun c => ∃ k : Nat, k ≤ 10 ∧ c = .int .i64 k ∧ Hid (∀ j < k, ∀ q, Qs[j]? = some q → tx ∉ q.tail)) (fun c => 10 - (intOf c).toNat)
 case atStart => exact ⟨0, Nat.zero_le _, rfl, hid (fun j hj => by omega)⟩
 case round =>
  obtain ⟨k, hk, rfl, hno⟩ := hrel
  by_cases hlt : k < 10
  ·obtain ⟨v, q, X, hkv, hQ, hsl, _, _, _⟩ := HS.out.rtabK_key k hlt
   obtain ⟨a, c, rfl, hc1, hc2, _⟩ := hsl.sl_val
   have hix := run_index_arr (w := w) Tryz.underlying49 Tryz.underlying48 rfl Tryz.size48 hlt hkv
   have hql := HN.out q (List.mem_of_getElem? hQ)
   have HQ := hid hQ; have HSL := hid hsl
   clear hkv hQ hsl
   go_wp2_with fail
   go_loop [19] (fun c => ∃ j : Nat, j ≤ q.length ∧ c = .int .i64 j ∧ Hid (∀ m < j, 0 < m → ∀ y, q[m]? = some y → y ≠ tx)) (fun c => q.length - (intOf c).toNat)
   case atStart => exact ⟨0, Nat.zero_le _, rfl, hid (fun m hm => by omega)⟩
   case round =>
    obtain ⟨j, hj, rfl, hnj⟩ := hrel
    by_cases hjl : j < q.length
    ·have hp : q[j]? = some q[j] := by simp [hjl]
     generalize q[j] = y at hp
     obtain ⟨g, o, rfl, _, d0⟩ := HSL.out.sl_int hp
     by_cases hj0 : j = 0
     ·subst hj0
      have hnx : ∀ m < 0 + 1, 0 < m → ∀ y, q[m]? = some y → y ≠ tx := fun m hm h0 => by omega
      have HX := hid hnx
      rw [Nat.add_zero] at d0
      clear hnj hnx hp
      go_wp2_with fail
      go_round
      case rel => exact ⟨0 + 1, by omega, by go_num, HX⟩
      case measure => simp [intOf]; omega
     ·have hjb : (0 : Int) < (j : Int) := by omega
      by_cases hy : y = tx
      ·subst hy
       have hr := rwaits_at HQ.out (tail_mem (by omega) hp) hno.out
       have HR := hid hr
       clear hnj hp hr
       go_wp2_with fail
       go_ret
       exact ⟨by rw [HR.out]; rfl, rfl⟩
      ·have hyb : (y == tx) = false := by simpa using hy
       have hnx : ∀ m < j + 1, 0 < m → ∀ y, q[m]? = some y → y ≠ tx := by
        intro m hm h0 z hz
        by_cases e : m = j
        ·subst e; rw [hp] at hz; cases hz; exact hy
        ·exact hnj.out m (by omega) h0 z hz
       have HX := hid hnx
       clear hnj hnx hp hy
       go_wp2_with fail
       go_round
       case rel => exact ⟨j + 1, by omega, by go_num, HX⟩
       case measure => simp [intOf]; omega
    ·obtain rfl : j = q.length := by omega
     have hnx : ∀ j < k + 1, ∀ q, Qs[j]? = some q → tx ∉ q.tail := by
      intro i hi q' hq'
      by_cases e : i = k
      ·subst e; rw [HQ.out] at hq'; cases hq'
       exact tail_not fun m h0 y hy => hnj.out m (List.getElem?_eq_some_iff.1 hy).1 h0 y hy
      ·exact hno.out i (by omega) q' hq'
     have HX := hid hnx
     clear hnj hnx hno
     go_wp2_with fail
     go_round
     case rel => exact ⟨k + 1, by omega, by go_num, HX⟩
     case measure => simp [intOf]; omega
  ·obtain rfl : k = 10 := by omega
   have hr := rwaits_none (tx := tx) (Qs := Qs) (by rw [HL.out.2]; exact hno.out)
   have HR := hid hr
   clear hno hr
   go_wp2
   go_ret
   exact ⟨by rw [HR.out]; rfl, rfl⟩
end Go.Proofs.YtmfngjclccehaaaGreatDoor
namespace Go.Sep
open Go Go.RowKit
variable {w w0 w' : World} {L M : List HProp} {A : HProp}
theorem S.join (h : S w0 w L) (hM : S w w' M) : S w0 w' (M ++ L) := S.unpack (h.add hM.1 hM.2)
theorem S.nth (h : S w0 w L) (i : Nat) (hi : L[i]? = some A) : S w0 w (A :: L.eraseIdx i) := by
 obtain ⟨hl, rfl⟩ := List.getElem?_eq_some_iff.1 hi
 exact h.conv (by rw [all_pick L i hl]; rfl)
theorem S.alloc_sl {e : TypeId} (h : S w0 w L) (xs : List Value) (b : Nat) (hb : w.heap.size = b) (hm : xs.length ≤ maxLen) :
  S w0 (w.alloc (.cells xs.toArray e)) (sl e 1 (.slice (some ⟨b, 0, none⟩) xs.length xs.length) xs.length xs :: L) := by
 subst hb
 exact (h.alloc xs.toArray e).sl_blk (by simp) hm
def SB (w0 w : World) (n : Nat) (L : List HProp) : Prop := S w0 w L ∧ w.heap.size = n
theorem SB.base (h : S w0 w L) : SB w0 w w.heap.size L := ⟨h, rfl⟩
theorem SB.alloc_sl {e : TypeId} {n : Nat} (h : SB w0 w n L) (xs : List Value) (hm : xs.length ≤ maxLen) :
  SB w0 (w.alloc (.cells xs.toArray e)) (n + 1) (sl e 1 (.slice (some ⟨n, 0, none⟩) xs.length xs.length) xs.length xs :: L) := ⟨h.1.alloc_sl xs n h.2 hm, by rw [World.size_alloc, h.2]⟩
theorem SB.getD {n : Nat} (h : SB w0 w n L) : S w0 w.drew L := h.1.drew
theorem S.headTwo {B : HProp} {R : List HProp} (h : S w0 w (A :: B :: R)) : S w0 w [A, B] :=
 (h.conv (M := all R :: [A, B]) (by simp only [all, sep_emp]; rw [sep_comm (all R), sep_assoc])).tail
theorem S.news_sl {e : TypeId} {ad : Option Addr} {m c : Nat} {xs : List Value} (h : S w0 w L) (k : Nat) (hk : L[k]? = some (sl e 1 (.slice ad m c) m xs)) : ∀ j u, xs[j]? = some u → ∃ b, ad = some b ∧ w.cell? (b.add j) = some u := by
 intro j u hj
 obtain ⟨a, cap, hv, _, _, hc⟩ := (h.nth k hk).sl_val
 obtain ⟨g, o, ha, hcell, _⟩ := hc j u hj
 simp only [Value.slice.injEq] at hv
 refine ⟨⟨g, o, none⟩, by rw [hv.1, ha], ?_⟩
 have e1 : (⟨g, o, none⟩ : Addr).add j = ⟨g, o + j, none⟩ := by unfold Addr.add; split <;> simp_all
 rw [e1]; exact hcell
theorem news_old {ad : Option Addr} {xs : List Value} (h : ∀ j u, xs[j]? = some u → ∃ g o, ad = some ⟨g, o, none⟩ ∧ g < w.heap.size ∧ w.cell? ⟨g, o + j, none⟩ = some u) :
  ∀ W M, S w W M → ∀ j u, xs[j]? = some u → ∃ b, ad = some b ∧ W.cell? (b.add j) = some u := by
 intro W M hW j u hj
 obtain ⟨g, o, ha, hlt, hc⟩ := h j u hj
 refine ⟨⟨g, o, none⟩, ha, ?_⟩
 have e1 : (⟨g, o, none⟩ : Addr).add j = ⟨g, o + j, none⟩ := by unfold Addr.add; split <;> simp_all
 rw [e1, hW.1.cell (p := ⟨g, o + j, none⟩) hlt]; exact hc
theorem S.norm0 {e : TypeId} {v : Value} {n : Nat} {xs : List Value} (h : S w0 w (sl e 1 v (0 + n) ([] ++ xs) :: L)) : S w0 w (sl e 1 v n xs :: L) := by
 rw [Nat.zero_add] at h; exact h
variable {P : Program}
theorem step_app {ops : Array Oper} {o : Oper} {a : Act} {K : Act → World → Prop} {Q : Exit → Act → World → Prop} {E : Prop} (hg : o.guard = none) (s x : Operand) (t : TypeId)
  (hop : o.op = .call { callee := .builtin .append, args := #[s, x], argTypes := #[t, t] })
  (e : TypeId) (i : TypeInfo) (z : Value) (bytes : Nat) (ht : P.underlying t = some (.slice e)) (hi : P.info? e = some i) (hz : i.zero = some z)
  (hsize : i.size = 1) (hby : i.bytes = bytes) (hzs : z.cells.size = 1) (hW : S w0 w L) (ix : Nat) {v : Value} {n : Nat} {xs : List Value} (hix : L[ix]? = some (sl e 1 v n xs)) (hv : a.eval s = v)
  (ad : Option Addr) (m c : Nat) (news : List Value) (hx : a.eval x = .slice ad m c) (hl : news.length = m) (hnews : ∀ j u, news[j]? = some u → ∃ b, ad = some b ∧ w.cell? (b.add j) = some u) (h1 : ∀ u ∈ news, u.oneCell' = true)
  (h63 : n + m ≤ 1000000) (hb8 : bytes ≤ 8)
  (h : ∀ v' w', S w0 w' (sl e 1 v' (n + m) (xs ++ news) :: L.eraseIdx ix) → K (a.put o.dst v') w') : if Region.wanted o (yielded ops a.tmps) = true then Oper.wp P o a w K Q else E :=
 step_append hg s x t hop e i z 1 bytes ht hi hz hsize hby hzs (by omega) (hW.nth ix hix) hv ad m c news hx (by rw [hl, Nat.mul_one]) hnews h1 (by unfold maxLen; omega)
  (by have := Nat.mul_le_mul h63 hb8; omega) h
end Go.Sep
namespace Go.Proofs.YtmfngjclccehaaaGreatDoor
open Go Go.RowKit Go.Sep
theorem nil_max : ([] : List Value).length ≤ maxLen := Nat.zero_le _
theorem one_max (x : Int) : ([Value.int .i64 x] : List Value).length ≤ maxLen := by simp only [List.length_cons, List.length_nil]; unfold maxLen; omega
theorem icells_one (l : List Int) : ∀ u ∈ icells l, u.oneCell' = true := fun u hu => by
 obtain ⟨x, _, rfl⟩ := List.mem_map.1 hu
 rfl
end Go.Proofs.YtmfngjclccehaaaGreatDoor
