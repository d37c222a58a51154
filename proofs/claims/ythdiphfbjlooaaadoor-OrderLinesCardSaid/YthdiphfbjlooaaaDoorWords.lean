/- Small words for walks: focus on one of many, errors, readings of arguments. -/
import Derived.Test.YthdiphfbjlooaaaDoorSlices
import Derived.Deep.QuietTactic
namespace Go.Sep
open Go Go.RowKit
theorem hid {p : Prop} (h : p) : Hid p := h
theorem retB {a b : Bool} (h : a = b) : Ending.returned (.bool a) = .returned (.bool b) := by rw [h]
theorem retI {k : IntKind} {a b : Int} (h : a = b) : Ending.returned (.int k a) = .returned (.int k b) := by rw [h]
theorem retV {a b : Value} (h : a = b) : Ending.returned a = .returned b := by rw [h]

theorem all_pick : ∀ (L : List HProp) (i : Nat) (h : i < L.length), all L = sep L[i] (all (L.eraseIdx i))
  | P :: L, 0, _ => rfl
  | P :: L, i + 1, h => by
    simp only [all, List.getElem_cons_succ, List.eraseIdx_cons_succ]
    rw [all_pick L i (by simpa using h), sep_left_comm]
theorem all_set (L : List HProp) (i : Nat) (h : i < L.length) (P : HProp) : all (L.set i P) = sep P (all (L.eraseIdx i)) := by
  rw [all_pick (L.set i P) i (by simpa using h)]
  congr 1
  · simp
  · rw [List.eraseIdx_set_eq]

variable {w w0 : World} {L : List HProp}
theorem S.swap {P Q : HProp} (h : S w0 w (P :: Q :: L)) : S w0 w (Q :: P :: L) := h.perm (List.Perm.swap _ _ _)
theorem S.rot3 {P Q R : HProp} (h : S w0 w (P :: Q :: R :: L)) : S w0 w (R :: P :: Q :: L) := (h.conv (by simp only [all]; rw [sep_left_comm Q R, sep_left_comm P R]))
/-- One of a list that stands as one assertion, taken out; and put back. -/
theorem S.pick {M : List HProp} (h : S w0 w (all M :: L)) (i : Nat) (hi : i < M.length) : S w0 w (M[i] :: all (M.eraseIdx i) :: L) := h.conv (by simp only [all]; rw [all_pick M i hi, sep_assoc])
theorem S.unpick {M : List HProp} {i : Nat} (hi : i < M.length) {P : HProp} (h : S w0 w (P :: all (M.eraseIdx i) :: L)) : S w0 w (all (M.set i P) :: L) := h.conv (by simp only [all]; rw [all_set M i hi P, sep_assoc])

/-- What a call may read of memory that it doesn't own: the cells of a slice. -/
def Rd (w : World) (v : Value) (n : Nat) (xs : List Value) : Prop :=
  ∃ a cap, v = .slice a n cap ∧ n ≤ cap ∧ cap ≤ maxLen ∧ ∀ j u, xs[j]? = some u → ∃ b o, a = some ⟨b, o, none⟩ ∧ w.cell? ⟨b, o + j, none⟩ = some u
/-- .. as long as the rest is as the list says. -/
def RdK (w0 : World) (L : List HProp) (v : Value) (n : Nat) (xs : List Value) : Prop := ∀ w, S w0 w L → Rd w v n xs
theorem RdK.pos {v : Value} {n : Nat} {xs : List Value} (h : RdK w0 L v n xs) (hs : S w0 w L) (hx : 0 < xs.length) :
    ∃ b o cap, v = .slice (some ⟨b, o, none⟩) n cap ∧ n ≤ cap ∧ cap ≤ maxLen ∧ ∀ w', S w0 w' L → ∀ j u, xs[j]? = some u → w'.cell? ⟨b, o + j, none⟩ = some u := by
  obtain ⟨a, cap, hv, h1, h2, h3⟩ := h w hs
  obtain ⟨b, o, hb, _⟩ := h3 0 xs[0] (by simp)
  refine ⟨b, o, cap, by rw [hv, hb], h1, h2, fun w' hs' j u hj => ?_⟩
  obtain ⟨a', cap', hv', _, _, h3'⟩ := h w' hs'
  obtain ⟨b', o', hb', hc⟩ := h3' j u hj
  rw [hv, hb] at hv'
  simp at hv'
  rw [hb'] at hv'
  simp at hv'
  obtain ⟨⟨rfl, rfl⟩, _⟩ := hv'
  exact hc
theorem RdK.zero {v : Value} {xs : List Value} (h : RdK w0 L v 0 xs) (hs : S w0 w L) : ∃ a cap, v = .slice a 0 cap := by
  obtain ⟨a, cap, hv, _⟩ := h w hs; exact ⟨a, cap, hv⟩
theorem RdK.mono {v : Value} {n : Nat} {xs : List Value} {M : List HProp} (h : RdK w0 L v n xs) (hm : ∀ w, S w0 w M → S w0 w L) : RdK w0 M v n xs := fun w hs => h w (hm w hs)
/-- A slice that somebody owns may be read. -/
theorem RdK.own {e : TypeId} {size n : Nat} {v : Value} {xs : List Value} : RdK w0 (sl e size v n xs :: L) v n xs := by
  intro w hs
  obtain ⟨a, cap, hv, h1, h2, h3⟩ := hs.sl_val
  refine ⟨a, cap, hv, h1, h2, fun j u hj => ?_⟩
  obtain ⟨g, o, hg, hc, _⟩ := h3 j u hj
  exact ⟨g, o, hg, hc⟩
/-- What lay there when all began may be read. -/
theorem RdK.old {v : Value} {n : Nat} {xs : List Value} (h : Rd w0 v n xs) (hlt : ∀ b o cap, v = .slice (some ⟨b, o, none⟩) n cap → xs ≠ [] → b < w0.heap.size) : RdK w0 L v n xs := by
  intro w hs
  obtain ⟨a, cap, hv, h1, h2, h3⟩ := h
  refine ⟨a, cap, hv, h1, h2, fun j u hj => ?_⟩
  obtain ⟨b, o, hb, hc⟩ := h3 j u hj
  refine ⟨b, o, hb, ?_⟩
  rw [hs.1.cell (p := ⟨b, o + j, none⟩) (hlt b o cap (by rw [hv, hb]) (by intro e; rw [e] at hj; simp at hj))]
  exact hc

theorem S.drewN (h : S w0 w L) (n : Nat) : S w0 (w.drewN n) L := by
  induction n with
  | zero => exact h
  | succ n ih => exact ⟨ih.1.drew, ih.2⟩

section
variable {P : Program} {e : TypeId} {size : Nat} {v : Value} {n : Nat} {xs : List Value}
/-- append as one operation: what goes on behind it. -/
theorem wp_append {o : Oper} {a : Act} {K : Act → World → Prop} {Q : Exit → Act → World → Prop} (s x : Operand) (t : TypeId)
    (hop : o.op = .call { callee := .builtin .append, args := #[s, x], argTypes := #[t, t] })
    (e : TypeId) (i : TypeInfo) (z : Value) (size bytes : Nat) (ht : P.underlying t = some (.slice e)) (hi : P.info? e = some i) (hz : i.zero = some z)
    (hsize : i.size = size) (hby : i.bytes = bytes) (hzs : z.cells.size = size) (hsz : 0 < size)
    (hs : S w0 w (sl e size v n xs :: L)) (hv : a.eval s = v)
    (ad : Option Addr) (m c : Nat) (news : List Value) (hx : a.eval x = .slice ad m c) (hl : news.length = m * size) (hnews : ∀ j u, news[j]? = some u → ∃ b, ad = some b ∧ w.cell? (b.add j) = some u) (h1 : ∀ u ∈ news, u.oneCell' = true)
    (h63 : n + m ≤ maxLen) (hbytes : (n + m) * bytes ≤ 140737488355328)
    (h : ∀ v' w', S w0 w' (sl e size v' (n + m) (xs ++ news) :: L) → K (a.put o.dst v') w') : o.wp P a w K Q := by
  obtain ⟨v', w', hr, hs'⟩ := hs.append (P := P) t o.type i z bytes ht hi hz hsize hby hzs hsz ad m c news hl hnews h1 h63 hbytes
  unfold Oper.wp execOp
  simp only [hop, resolve, invoke, builtin, Sem.run_bind, Sem.run_pure, Result.andThen_ok, List.map_toArray, List.map_cons, List.map_nil, hv, hx, hr]
  exact h v' w' hs'
/-- .. in a region that draws its order. -/
theorem step_append {ops : Array Oper} {o : Oper} {a : Act} {K : Act → World → Prop} {Q : Exit → Act → World → Prop} {E : Prop} (hg : o.guard = none) (s x : Operand) (t : TypeId)
    (hop : o.op = .call { callee := .builtin .append, args := #[s, x], argTypes := #[t, t] })
    (e : TypeId) (i : TypeInfo) (z : Value) (size bytes : Nat) (ht : P.underlying t = some (.slice e)) (hi : P.info? e = some i) (hz : i.zero = some z)
    (hsize : i.size = size) (hby : i.bytes = bytes) (hzs : z.cells.size = size) (hsz : 0 < size)
    (hs : S w0 w (sl e size v n xs :: L)) (hv : a.eval s = v)
    (ad : Option Addr) (m c : Nat) (news : List Value) (hx : a.eval x = .slice ad m c) (hl : news.length = m * size) (hnews : ∀ j u, news[j]? = some u → ∃ b, ad = some b ∧ w.cell? (b.add j) = some u) (h1 : ∀ u ∈ news, u.oneCell' = true)
    (h63 : n + m ≤ maxLen) (hbytes : (n + m) * bytes ≤ 140737488355328)
    (h : ∀ v' w', S w0 w' (sl e size v' (n + m) (xs ++ news) :: L) → K (a.put o.dst v') w') : if Region.wanted o (yielded ops a.tmps) = true then Oper.wp P o a w K Q else E := by
  rw [if_pos (by simp [Region.wanted, hg])]
  exact wp_append s x t hop e i z size bytes ht hi hz hsize hby hzs hsz hs hv ad m c news hx hl hnews h1 h63 hbytes h
/-- .. in the order of the text. -/
theorem wpList_append {ops : Array Oper} {rest : List Oper} {o : Oper} {a : Act} {Q : Exit → Act → World → Prop} (hg : o.guard = none) (s x : Operand) (t : TypeId)
    (hop : o.op = .call { callee := .builtin .append, args := #[s, x], argTypes := #[t, t] })
    (e : TypeId) (i : TypeInfo) (z : Value) (size bytes : Nat) (ht : P.underlying t = some (.slice e)) (hi : P.info? e = some i) (hz : i.zero = some z)
    (hsize : i.size = size) (hby : i.bytes = bytes) (hzs : z.cells.size = size) (hsz : 0 < size)
    (hs : S w0 w (sl e size v n xs :: L)) (hv : a.eval s = v)
    (ad : Option Addr) (m c : Nat) (news : List Value) (hx : a.eval x = .slice ad m c) (hl : news.length = m * size) (hnews : ∀ j u, news[j]? = some u → ∃ b, ad = some b ∧ w.cell? (b.add j) = some u) (h1 : ∀ u ∈ news, u.oneCell' = true)
    (h63 : n + m ≤ maxLen) (hbytes : (n + m) * bytes ≤ 140737488355328)
    (h : ∀ v' w', S w0 w' (sl e size v' (n + m) (xs ++ news) :: L) → wpList P ops Q rest (a.put o.dst v') w') : wpList P ops Q (o :: rest) a w :=
  wpList_plain hg fun _ hK => wp_append s x t hop e i z size bytes ht hi hz hsize hby hzs hsz hs hv ad m c news hx hl hnews h1 h63 hbytes fun v' w' h2 => hK _ _ (h v' w' h2)
/-- The cells of a block that was just laid. -/
theorem news_blk {b : Nat} {e : TypeId} {vs : List Value} {M : List HProp} (h : S w0 w (blk b e vs :: M)) : ∀ j u, vs[j]? = some u → ∃ a, (some ⟨b, 0, none⟩ : Option Addr) = some a ∧ w.cell? (a.add j) = some u := by
  intro j u hj
  refine ⟨_, rfl, ?_⟩
  have hadd : (⟨b, 0, none⟩ : Addr).add j = ⟨b, j, none⟩ := by unfold Addr.add; split <;> simp_all
  rw [hadd]; exact h.blk_cell j hj
end

/-- Errors: none, a number, a number at a place. -/
inductive Err where
  | nil
  | no (e : Int)
  | at_ (e p : Int)
def errP (T A Ap : TypeId) (v : Value) : Err → HProp
  | .nil => pur (v = .nilIface)
  | .no e => pur (v = .iface T (.int .i64 e))
  | .at_ e p => ex fun g => sep (pur (v = .iface Ap (.pointer (some ⟨g, 0, none⟩)))) (blk g A [.int .i64 e, .int .i64 p])

/-- Lists of pairs as cells. -/
def pcells (l : List (Int × Int)) : List Value := l.flatMap fun p => [.int .i64 p.1, .int .i64 p.2]
theorem pcells_length (l : List (Int × Int)) : (pcells l).length = l.length * 2 := by
  induction l with
  | nil => rfl
  | cons p l ih => simp only [pcells, List.flatMap_cons, List.length_append, List.length_cons, List.length_nil] at ih ⊢; rw [ih]; omega
theorem pcells_append (l m : List (Int × Int)) : pcells (l ++ m) = pcells l ++ pcells m := by simp [pcells]
theorem pcells_at : ∀ (l : List (Int × Int)) (j : Nat) (p : Int × Int), l[j]? = some p → (pcells l)[j * 2]? = some (.int .i64 p.1) ∧ (pcells l)[j * 2 + 1]? = some (.int .i64 p.2)
  | [], _, _, h => by simp at h
  | q :: l, 0, p, h => by simp at h; subst h; simp [pcells]
  | q :: l, j + 1, p, h => by
    have := pcells_at l j p (by simpa using h)
    have e : pcells (q :: l) = .int .i64 q.1 :: .int .i64 q.2 :: pcells l := rfl
    rw [e, show (j + 1) * 2 = j * 2 + 1 + 1 from by omega, show j * 2 + 1 + 1 + 1 = (j * 2 + 1) + 1 + 1 from by omega]
    simpa using this
theorem pcells_set (l : List (Int × Int)) (j : Nat) (p : Int × Int) (v : Int) (h : l[j]? = some p) : (pcells l).set (j * 2 + 1) (.int .i64 v) = pcells (l.set j (p.1, v)) := by
  induction l generalizing j with
  | nil => simp at h
  | cons q l ih =>
    have e : ∀ q l, pcells (q :: l) = .int .i64 q.1 :: .int .i64 q.2 :: pcells l := fun _ _ => rfl
    cases j with
    | zero => simp at h; subst h; simp [e]
    | succ j =>
      rw [e, show (j + 1) * 2 + 1 = (j * 2 + 1) + 1 + 1 from by omega]
      simp only [List.set_cons_succ, e]
      rw [ih j (by simpa using h)]
/-- Element 'i' of a slice of pairs that may be read. -/
theorem RdK.pair {w0 w : World} {L : List HProp} {a : Option Addr} {cap : Nat} {l : List (Int × Int)} (h : RdK w0 L (.slice a l.length cap) l.length (pcells l)) (hs : S w0 w L) {i : Nat} {p : Int × Int} (hp : l[i]? = Option.some p) :
    ∃ b o, a = Option.some ⟨b, o, none⟩ ∧ w.cell? ⟨b, o + i * 2, none⟩ = Option.some (.int .i64 p.1) ∧ w.cell? ⟨b, o + i * 2 + 1, none⟩ = Option.some (.int .i64 p.2) := by
  have hi := (List.getElem?_eq_some_iff.1 hp).1
  obtain ⟨b, o, cap', hv, _, _, hrd⟩ := h.pos hs (by rw [pcells_length]; omega)
  simp only [Value.slice.injEq] at hv
  obtain ⟨rfl, -, rfl⟩ := hv
  exact ⟨b, o, rfl, hrd w hs _ _ (pcells_at l i p hp).1, hrd w hs _ _ (pcells_at l i p hp).2⟩
/-- Element 'i' of a slice of pairs that is owned. -/
theorem S.sl_pair {w0 w : World} {L : List HProp} {e : TypeId} {a : Option Addr} {n cap : Nat} {l : List (Int × Int)} (h : S w0 w (sl e 2 (.slice a n cap) n (pcells l) :: L)) {i : Nat} {p : Int × Int} (hp : l[i]? = Option.some p) :
    ∃ b o, a = Option.some ⟨b, o, none⟩ ∧ b < w.heap.size ∧ w.cell? ⟨b, o + i * 2, none⟩ = Option.some (.int .i64 p.1) ∧ w.cell? ⟨b, o + i * 2 + 1, none⟩ = Option.some (.int .i64 p.2) := by
  have hi := (List.getElem?_eq_some_iff.1 hp).1
  obtain ⟨b, o, cap', hv, _, _, _, hlt, hrd, _⟩ := h.sl_some (by rw [pcells_length]; omega)
  simp only [Value.slice.injEq] at hv
  obtain ⟨rfl, -, rfl⟩ := hv
  exact ⟨b, o, rfl, hlt, hrd _ _ (pcells_at l i p hp).1, hrd _ _ (pcells_at l i p hp).2⟩
/-- Lists of integers as cells. -/
def icells (l : List Int) : List Value := l.map (.int .i64)
theorem icells_length (l : List Int) : (icells l).length = l.length := by simp [icells]
theorem icells_append (l m : List Int) : icells (l ++ m) = icells l ++ icells m := by simp [icells]
theorem icells_at {l : List Int} {j : Nat} {x : Int} (h : l[j]? = Option.some x) : (icells l)[j]? = Option.some (.int .i64 x) := by simp [icells, h]
theorem S.sl_int {w0 w : World} {L : List HProp} {e : TypeId} {a : Option Addr} {n cap : Nat} {l : List Int} (h : S w0 w (sl e 1 (.slice a n cap) n (icells l) :: L)) {i : Nat} {x : Int} (hp : l[i]? = Option.some x) :
    ∃ b o, a = Option.some ⟨b, o, none⟩ ∧ b < w.heap.size ∧ w.cell? ⟨b, o + i, none⟩ = Option.some (.int .i64 x) := by
  have hi := (List.getElem?_eq_some_iff.1 hp).1
  obtain ⟨b, o, cap', hv, _, _, _, hlt, hrd, _⟩ := h.sl_some (by rw [icells_length]; omega)
  simp only [Value.slice.injEq] at hv
  obtain ⟨rfl, -, rfl⟩ := hv
  exact ⟨b, o, rfl, hlt, hrd _ _ (icells_at hp)⟩
theorem take_succ_get {α : Type} {l : List α} {i : Nat} {x : α} (h : l[i]? = Option.some x) : l.take (i + 1) = l.take i ++ [x] := by
  obtain ⟨hi, rfl⟩ := List.getElem?_eq_some_iff.1 h
  exact List.take_succ_eq_append_getElem hi
end Go.Sep
