/- The answers of the program's store and the reference's, side by side. -/
import Derived.Test.YtbcoddibdipjkaaDoorRefF
import Derived.Test.YtbcoddibdipjkaaDoorRefG
import Derived.Test.YtbcoddibdipjkaaDoorRefI
import Derived.Test.YtbcoddibdipjkaaDoorPlace
import Derived.Test.YtbcoddibdipjkaaDoorStoreW3
import Derived.Test.YtbcoddibdipjkaaDoorArgPut
namespace Go.Proofs.YtbcoddibdipjkaaDoor
open Go Go.RowKit Go.Sep

theorem _root_.Go.Sep.S.store_new2 {w0 w : World} {L : List HProp} {b T T' : Nat} (h : S w0 w (blk b T (List.replicate 10 (.slice none 0 0) ++ [.int .i64 0]) :: L)) : S w0 w (storeP T' b 0 (List.replicate 10 []) 0 :: L) := by
  refine .ex_intro (List.replicate 10 (.slice none 0 0)) (.sep_intro (.pur_intro ⟨rfl, rfl⟩ (.sep_intro ?_)))
  have h1 := h.blk_cells
  have h2 : ∀ n, S w0 w (cells b 0 (List.replicate 10 (.slice none 0 0) ++ [.int .i64 0]) :: all (List.replicate n (sl T' 2 (.slice none 0 0) 0 [])) :: L) := by
    intro n
    induction n with
    | zero => exact h1.conv (by simp [all, emp_sep])
    | succ n ih => exact (S.sl_nil (e := T') (size := 2) ih).conv (by simp only [all, List.replicate_succ]; rw [sep_left_comm]; simp only [sep_assoc])
  exact h2 10
theorem _root_.Go.Sep.S.ref_new {w0 w : World} {L : List HProp} {b T TK : Nat} (h : S w0 w (blk b T [.slice none 0 0, .int .i64 0] :: L)) : S w0 w (refP T TK b [] 0 :: L) :=
  S.ref_intro (S.swap (S.sl_nil (e := TK) (size := 3) h))
theorem Same.row_le {V : List Vers} {last : Int} {K : List Kep} (h : Same V last K) : ∀ vs ∈ V, vs.length ≤ K.length := by
  intro vs hv
  obtain ⟨j, hj⟩ := List.getElem?_of_mem hv
  have hl := (List.getElem?_eq_some_iff.1 hj).1
  rw [h.len] at hl
  rw [h.key j hl] at hj
  rw [← Option.some.inj hj]
  unfold proj
  rw [List.length_map]
  exact List.length_filter_le _ _
theorem Same.size {V : List Vers} {last : Int} {K : List Kep} (h : Same V last K) (at_ : Int) : (((V.map (sweptN at_)).sum : Nat) : Int) = (K.length : Int) - (rswept K at_).length := by
  have := h.swept_sum at_; omega
theorem rswept_le (K : List Kep) (at_ : Int) : (rswept K at_).length ≤ K.length := List.length_filter_le _ _

/-! Install. -/
def instErr (last at_ : Int) (l : Vers) : Err := if last < at_ ∧ at_ ≤ 1099511627776 then (match badAt 0 l with | none => .nil | some (x, p) => .at_ x p) else .no 10
def instOk (last at_ : Int) (l : Vers) : Bool := decide (last < at_ ∧ at_ ≤ 1099511627776) && (badAt 0 l).isNone
theorem install2 (w0 w : World) (b o : Nat) (V : List Vers) (last at_ : Int) (v : Value) (l : Vers) (L : List HProp) (N : Nat)
    (hs : S w0 w (storeP 38 b o V last :: L)) (hr : RdK w0 L v l.length (pcells l)) (hN : ∀ vs ∈ V, vs.length ≤ N) (hb : N + l.length ≤ 1000000) :
    Calls Tryd.prog 12 #[.pointer (some ⟨b, o, none⟩), .int .i64 at_, v] w fun e w' => ∃ u, e = .returned u ∧
      S w0 w' (errP 44 106 105 u (instErr last at_ l) :: storeP 38 b o (if instOk last at_ l then putAll at_ V l else V) (if instOk last at_ l then at_ else last) :: L) := by
  refine (install_any w0 w b o V last at_ v l L N hs hr hN hb).mono fun e w' h => ?_
  unfold InstPost at h
  unfold instErr instOk
  by_cases hc : last < at_ ∧ at_ ≤ 1099511627776
  · rw [if_pos hc] at h
    cases hba : badAt 0 l with
    | none =>
      rw [hba] at h
      obtain ⟨rfl, h⟩ := h
      simp only [hc, and_self, decide_true, Option.isNone_none, Bool.and_self, ↓reduceIte]
      exact ⟨_, rfl, S.pur_intro rfl h⟩
    | some x =>
      obtain ⟨x, p⟩ := x
      rw [hba] at h
      obtain ⟨u, rfl, h⟩ := h
      simp only [hc, and_self, decide_true, Option.isNone_some, Bool.and_false, Bool.false_eq_true, ↓reduceIte]
      exact ⟨_, rfl, h⟩
  · rw [if_neg hc] at h
    obtain ⟨rfl, h⟩ := h
    simp only [hc, decide_false, Bool.false_and, Bool.false_eq_true, ↓reduceIte]
    exact ⟨_, rfl, S.pur_intro rfl h⟩
theorem rinstall2 (w0 w : World) (b : Nat) (K : List Kep) (last at_ : Int) (v : Value) (l : Vers) (L : List HProp) (hs : S w0 w (refP 74 129 b K last :: L)) (hr : RdK w0 L v l.length (pcells l)) (hb : K.length ≤ 900000) :
    Calls Tryd.prog 30 #[.pointer (some ⟨b, 0, none⟩), .int .i64 at_, v] w fun e w' => e = .returned (.agg #[.int .i64 (Err.errno (instErr last at_ l)), .int .i64 (Err.place (instErr last at_ l))]) ∧
      S w0 w' (refP 74 129 b (if instOk last at_ l then K ++ rrows at_ l 10 else K) (if instOk last at_ l then at_ else last) :: L) := by
  refine (rinstall_any w0 w b K last at_ v l L hs hr hb).mono fun e w' h => ?_
  unfold RInstPost at h
  unfold instErr instOk
  by_cases hc : last < at_ ∧ at_ ≤ 1099511627776
  · rw [if_pos hc] at h
    cases hba : badAt 0 l with
    | none =>
      rw [hba] at h
      simp only [hc, and_self, decide_true, Option.isNone_none, Bool.and_self, ↓reduceIte]
      exact h
    | some x =>
      obtain ⟨x, p⟩ := x
      rw [hba] at h
      simp only [hc, and_self, decide_true, Option.isNone_some, Bool.and_false, Bool.false_eq_true, ↓reduceIte]
      exact h
  · rw [if_neg hc] at h
    simp only [hc, decide_false, Bool.false_and, Bool.false_eq_true, ↓reduceIte]
    exact h
theorem instErr_is (last at_ : Int) (l : Vers) : isE (instErr last at_ l) (Err.errno (instErr last at_ l)) (Err.place (instErr last at_ l)) = true := by
  unfold isE; simp
theorem Same.inst {V : List Vers} {last : Int} {K : List Kep} (h : Same V last K) (at_ : Int) (l : Vers) : Same (if instOk last at_ l then putAll at_ V l else V) (if instOk last at_ l then at_ else last) (if instOk last at_ l then K ++ rrows at_ l 10 else K) ∧ (if instOk last at_ l then K ++ rrows at_ l 10 else K).length ≤ K.length + 10 := by
  by_cases hk : instOk last at_ l = true
  · rw [if_pos hk, if_pos hk, if_pos hk]
    unfold instOk at hk
    rw [Bool.and_eq_true, decide_eq_true_eq, Option.isNone_iff_eq_none] at hk
    refine ⟨h.put l (fun p hp => (badAt_none hk.2 p hp).1) hk.1.1, ?_⟩
    rw [List.length_append]
    have := rrows_le at_ l 10; omega
  · rw [if_neg hk, if_neg hk, if_neg hk]
    exact ⟨h, by omega⟩

/-! Read, Newer, All. -/
def errBV (e : Int) : Value := if e = 0 then .nilIface else .iface 44 (.int .i64 e)
def errB (er : Int) : Err := if er = 0 then .nil else .no er
theorem errB_S {w0 w : World} {L : List HProp} (er : Int) (h : S w0 w L) : S w0 w (errP 44 106 105 (errBV er) (errB er) :: L) := by
  unfold errB errBV
  by_cases e : er = 0
  · rw [if_pos e, if_pos e]; exact S.pur_intro rfl h
  · rw [if_neg e, if_neg e]; exact S.pur_intro rfl h
theorem errB_is (er : Int) : isE (errB er) er (-1) = true := by
  unfold isE errB
  by_cases e : er = 0
  · rw [if_pos e, e]; rfl
  · rw [if_neg e]; simp [Err.errno, Err.place]
theorem bare2 (er : Int) (w0 w : World) (L : List HProp) (hE : ErrT w0) (hs : S w0 w L) :
    Calls Tryd.prog 34 #[errBV er, .int .i64 er] w fun ev w' => ev = .returned (.bool true) ∧ S w0 w' L := by
  have h := bare_any (errB er) (errBV er) er w0 w L hE (errB_S er hs)
  rw [errB_is] at h
  exact h.mono fun e w' h => ⟨h.1, h.2.tail⟩
def readOut (K : List Kep) (k at_ : Int) : Int × Int × Int := if 0 ≤ k ∧ k ≤ 9 then (match rread K k at_ with | some p => (p.1, p.2, 0) | none => (0, 0, 8)) else (0, 0, 2)
theorem read2 (w0 w : World) (b o : Nat) (V : List Vers) (last k at_ : Int) (K : List Kep) (L : List HProp) (hst : Same V last K) (hb : K.length ≤ 2000000)
    (hs : S w0 w (storeP 38 b o V last :: L)) :
    Calls Tryd.prog 14 #[.pointer (some ⟨b, o, none⟩), .int .i64 k, .int .i64 at_] w fun e w' => e = .returned (.tuple #[.agg #[.int .i64 (readOut K k at_).1, .int .i64 (readOut K k at_).2.1], errBV (readOut K k at_).2.2]) ∧ S w0 w' (storeP 38 b o V last :: L) := by
  unfold readOut
  by_cases hk : 0 ≤ k ∧ k ≤ 9
  · rw [if_pos hk]
    obtain ⟨n, rfl⟩ : ∃ n : Nat, k = n := ⟨k.toNat, by omega⟩
    have hn : n < 10 := by omega
    have hV := hst.key n hn
    have hle := hst.row_le _ (List.mem_of_getElem? hV)
    have hr := hst.read n hn at_
    refine (read_any b o V last at_ n _ w0 w L hn hs hV (by omega)).mono fun e w' h => ?_
    rw [← hr] at h
    refine ⟨?_, h.2⟩
    rw [h.1]
    unfold readAns
    cases rread K n at_ with
    | none => rfl
    | some p => rfl
  · rw [if_neg hk]
    exact read_no b o k at_ w0 w _ hs (by unfold keyOk; omega)
theorem rread2 (w0 w : World) (b : Nat) (K : List Kep) (last k at_ : Int) (L : List HProp) (hs : S w0 w (refP 74 129 b K last :: L)) :
    Calls Tryd.prog 32 #[.pointer (some ⟨b, 0, none⟩), .int .i64 k, .int .i64 at_] w fun e w' => e = .returned (.tuple #[.agg #[.int .i64 (readOut K k at_).1, .int .i64 (readOut K k at_).2.1], .int .i64 (readOut K k at_).2.2]) ∧ S w0 w' (refP 74 129 b K last :: L) := by
  refine (rread_any w0 w b K last k at_ L hs).mono fun e w' h => ⟨?_, h.2⟩
  rw [h.1]
  unfold readOut rreadAns
  by_cases hk : 0 ≤ k ∧ k ≤ 9
  · rw [if_pos hk, if_pos hk]
    cases rread K k at_ with
    | none => rfl
    | some p => rfl
  · rw [if_neg hk, if_neg hk]
def newOut (K : List Kep) (k at_ : Int) : List Int := if 0 ≤ k ∧ k ≤ 9 then rnewer K k at_ else []
def newErr (k : Int) : Int := if 0 ≤ k ∧ k ≤ 9 then 0 else 2
theorem newOut_le (K : List Kep) (k at_ : Int) : (newOut K k at_).length ≤ K.length := by
  unfold newOut; split
  · exact rnewer_le K k at_
  · simp
theorem newer2 (w0 w : World) (b o : Nat) (V : List Vers) (last k at_ : Int) (K : List Kep) (L : List HProp) (hst : Same V last K) (hb : K.length ≤ 2000000)
    (hs : S w0 w (storeP 38 b o V last :: L)) :
    Calls Tryd.prog 15 #[.pointer (some ⟨b, o, none⟩), .int .i64 k, .int .i64 at_] w fun e w' => ∃ v, e = .returned (.tuple #[v, errBV (newErr k)]) ∧ S w0 w' (sl 3 1 v (newOut K k at_).length (icells (newOut K k at_)) :: storeP 38 b o V last :: L) := by
  unfold newOut newErr
  by_cases hk : 0 ≤ k ∧ k ≤ 9
  · rw [if_pos hk, if_pos hk]
    obtain ⟨n, rfl⟩ : ∃ n : Nat, k = n := ⟨k.toNat, by omega⟩
    have hn : n < 10 := by omega
    have hV := hst.key n hn
    have hle := hst.row_le _ (List.mem_of_getElem? hV)
    refine (newer_any w0 w b o V last at_ n _ L hn hs hV (by omega)).mono fun e w' h => ?_
    unfold NewPost at h
    rw [rnewer_eq]
    exact h
  · rw [if_neg hk, if_neg hk]
    refine (newer_no b o k at_ w (by unfold keyOk; omega)).mono fun e w' h => ?_
    obtain ⟨rfl, rfl⟩ := h
    exact ⟨_, rfl, hs.sl_nil⟩
theorem rnewer2 (w0 w : World) (b : Nat) (V : List Vers) (K : List Kep) (last k at_ : Int) (L : List HProp) (hst : Same V last K) (hs : S w0 w (refP 74 129 b K last :: L)) (hb : K.length ≤ 1000000) :
    Calls Tryd.prog 33 #[.pointer (some ⟨b, 0, none⟩), .int .i64 k, .int .i64 at_] w fun e w' => ∃ v, e = .returned (.tuple #[v, .int .i64 (newErr k)]) ∧ S w0 w' (sl 3 1 v (newOut K k at_).length (icells (newOut K k at_)) :: refP 74 129 b K last :: L) := by
  refine (rnewer_any w0 w b K last k at_ L hs hb).mono fun e w' h => ?_
  unfold RNewPost at h
  unfold newOut newErr
  by_cases hk : 0 ≤ k ∧ k ≤ 9
  · rw [if_pos hk] at h
    rw [if_pos hk, if_pos hk]
    have hso : sortI (rnewer K k at_) = rnewer K k at_ := by
      obtain ⟨n, rfl⟩ : ∃ n : Nat, k = n := ⟨k.toNat, by omega⟩
      rw [rnewer_eq]
      unfold sortI
      exact List.mergeSort_of_pairwise ((newerL_sorted (hst.inc n (by omega)) at_).imp fun h => by simpa using h)
    rw [hso] at h
    exact h
  · rw [if_neg hk] at h
    rw [if_neg hk, if_neg hk]
    obtain ⟨rfl, h⟩ := h
    exact ⟨_, rfl, h.sl_nil⟩
def allOut (K : List Kep) (at_ : Int) : List (Int × Int) := allL (fun k => rread K k at_) 10
theorem all2 (w0 w : World) (b : Nat) (V : List Vers) (last at_ : Int) (K : List Kep) (L : List HProp) (hst : Same V last K) (hb : K.length ≤ 2000000) (hs : S w0 w (storeP 38 b 0 V last :: L)) :
    Calls Tryd.prog 38 #[.pointer (some ⟨b, 0, none⟩), .int .i64 at_] w fun e w' => ∃ v, e = .returned v ∧ S w0 w' (sl 31 2 v (allOut K at_).length (pcells (allOut K at_)) :: storeP 38 b 0 V last :: L) := by
  have he : allL (fun k => readV ((V[k.toNat]?).getD []) at_) 10 = allOut K at_ := allL_congr fun n hn => by
    show readV ((V[((n : Nat) : Int).toNat]?).getD []) at_ = rread K n at_
    rw [Int.toNat_natCast, hst.key n hn, hst.read n hn]; rfl
  have h := sall_any w0 w b V last at_ L hs (fun vs hv => by have := hst.row_le vs hv; omega)
  rwa [he] at h
theorem many2 (w0 w : World) (b o : Nat) (V : List Vers) (last : Int) (K : List Kep) (L : List HProp) (hst : Same V last K) (hb : K.length ≤ 2000000) (hs : S w0 w (storeP 38 b o V last :: L)) :
    Calls Tryd.prog 13 #[.pointer (some ⟨b, o, none⟩)] w fun e w' => e = .returned (.int .i64 K.length) ∧ w = w' := by
  have h := many_any w0 w b o V last L hs (fun vs hv => by have := hst.row_le vs hv; omega)
  rwa [hst.many] at h
theorem rall2 (w0 w : World) (b : Nat) (kv : Value) (K : List Kep) (last at_ : Int) (L : List HProp) (hs : S w0 w (refK 74 129 b kv K last :: L)) :
    Calls Tryd.prog 39 #[.pointer (some ⟨b, 0, none⟩), .int .i64 at_] w fun e w' => ∃ v, e = .returned v ∧ S w0 w' (sl 31 2 v (allOut K at_).length (pcells (allOut K at_)) :: refK 74 129 b kv K last :: L) :=
  rallK_any w0 w b kv K last at_ L hs
theorem last2 (w0 w : World) (b : Nat) (V : List Vers) (last : Int) (L : List HProp) (hs : S w0 w (storeP 38 b 0 V last :: L)) :
    Calls Tryd.prog 36 #[.pointer (some ⟨b, 0, none⟩)] w fun e w' => e = .returned (.int .i64 last) ∧ w = w' :=
  last_any b 0 last w hs.store_last.1
theorem neqV2 (p : Int × Int) (w : World) : (binOp .neq 38 (.agg #[.int .i64 p.1, .int .i64 p.2]) (.agg #[.int .i64 p.1, .int .i64 p.2])).run Tryd.prog w = .ok (.bool false) w := by
  rw [Tryd.neqV p p w]; simp
end Go.Proofs.YtbcoddibdipjkaaDoor
