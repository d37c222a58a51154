/- Slices whose array is the call's own: reading, writing, append. No program in sight. -/
import Derived.Test.YthdiphfbjlooaaaDoorMaps
namespace Go.Sep
open Go Go.RowKit
section
variable {P : Program} {w w0 : World} {L : List HProp}

theorem S.blk_cells {b : Nat} {e : TypeId} {vs : List Value} (h : S w0 w (blk b e vs :: L)) : S w0 w (cells b 0 vs :: L) := h.sep_elim.tail
theorem S.blk_heap {b : Nat} {e : TypeId} {vs : List Value} (h : S w0 w (blk b e vs :: L)) : w.heap[b]? = some (.cells vs.toArray e (0, 0)) := by
  have h1 := h.sep_elim
  obtain ⟨c, hc, hs⟩ := holds_shape (h1.at (b := b) (i := none) (t := .shape e vs.length) (by rintro _ rfl; simp)).2
  have : c = vs.toArray := by
    apply Array.ext'
    apply List.ext_getElem?
    intro j
    rcases Nat.lt_or_ge j vs.length with hj | hj
    · have hv : vs[j]? = some vs[j] := by simp [hj]
      have := h.blk_cells.cells_cell j hv
      simp only [Nat.zero_add] at this
      rw [cell_of_row w b j c e (0, 0) hc] at this
      simp [this, hj]
    · simp [hj, hs]
  rw [hc, this]
theorem S.blk_new {b : Nat} {e : TypeId} {vs : List Value} (h : S w0 w (blk b e vs :: L)) : w0.heap.size ≤ b := (h.sep_elim.at (b := b) (i := none) (t := .shape e vs.length) (by rintro _ rfl; simp)).1
theorem S.blk_lt {b : Nat} {e : TypeId} {vs : List Value} (h : S w0 w (blk b e vs :: L)) : b < w.heap.size := (Array.getElem?_eq_some_iff.1 h.blk_heap).1
theorem S.blk_cell {b : Nat} {e : TypeId} {vs : List Value} (h : S w0 w (blk b e vs :: L)) (j : Nat) {v : Value} (hj : vs[j]? = some v) : w.cell? ⟨b, j, none⟩ = some v := by
  have := h.blk_cells.cells_cell j hj; rwa [Nat.zero_add] at this
theorem S.blk_free {b : Nat} {e : TypeId} {vs : List Value} (h : S w0 w (blk b e vs :: L)) (j : Nat) : w.frozen? ⟨b, j, none⟩ = false := by
  simp [World.frozen?, h.blk_heap]
theorem S.blk_set {b : Nat} {e : TypeId} {vs : List Value} (h : S w0 w (blk b e vs :: L)) (j : Nat) (hj : j < vs.length) (u : Value) : S w0 (w.setCell ⟨b, j, none⟩ u) (blk b e (vs.set j u) :: L) := by
  have h1 := (h.sep_elim.perm (List.Perm.swap _ _ _)).set j hj u
  have h2 := (h1.perm (List.Perm.swap _ _ _)).sep_intro
  rw [Nat.zero_add] at h2
  simpa [blk] using h2

/-- The block's cells are others now; nothing else has turned. -/
theorem S.blk_turn {b : Nat} {e e' : TypeId} {vs vs' : List Value} {w' : World} (h : S w0 w (blk b e vs :: L)) (hg : w.grownBy w' (some b)) (hb : w'.heap[b]? = some (.cells vs'.toArray e' (0, 0))) : S w0 w' (blk b e' vs' :: L) := by
  have hn := h.blk_new
  have hh0 := h.blk_heap
  have hcell := fun j v hj => h.blk_cells.cells_cell (j := j) (v := v) hj
  obtain ⟨b0, x, ⟨g, k, d, rfl, p, q⟩, hh⟩ := h
  obtain ⟨g', p', hg'⟩ := blk_hp b e' vs'
  have hkb : ∀ i, k b i = none := by
    intro i
    cases hk : k b i with
    | none => rfl
    | some t =>
      have h1 := (d b i).resolve_right (by rw [hk]; simp)
      have h2 := (hh b i t (by simp [Hp.join, h1, hk])).2
      obtain ⟨gs, gc, ds, rfl, ps, pc⟩ := p
      have ps' : gs = _ := ps
      cases i with
      | none => simp [Hp.join, ps'] at h1
      | some i =>
        unfold holds at h2
        rw [hh0] at h2
        simp at h2
        obtain ⟨v, hv, rfl⟩ := h2
        have := cells_at vs b 0 i v hv gc pc
        rw [Nat.zero_add] at this
        simp only [Hp.join] at h1
        rw [this] at h1
        simp at h1
  refine ⟨b0.trans ⟨hg.os, hg.tape, hg.output, hg.size, fun j hj => hg.block j (Nat.lt_of_lt_of_le hj b0.size) (by intro e; cases e; omega)⟩, _, ⟨g', k, ?_, rfl, p', q⟩, ?_⟩
  · intro b' i
    cases hgi : g' b' i with
    | none => exact .inl rfl
    | some t => right; rw [(hg' b' i t hgi).1]; exact hkb i
  · intro b' i t e1
    simp only [Hp.join] at e1
    cases hgi : g' b' i with
    | some t' =>
      rw [hgi] at e1; simp at e1; subst e1
      obtain ⟨rfl, ht⟩ := hg' b' i t' hgi
      refine ⟨hn, ?_⟩
      unfold holds
      rw [hb]
      cases i with
      | none => simp at ht; subst ht; simp
      | some i => obtain ⟨v, hv, rfl⟩ := ht; simp [hv]
    | none =>
      rw [hgi] at e1; simp at e1
      have h1 : g b' i = none := (d b' i).resolve_right (by rw [e1]; simp)
      have h2 := hh b' i t (by simp [Hp.join, h1, e1])
      refine ⟨h2.1, ?_⟩
      have hne : b' ≠ b := by intro e; subst e; rw [hkb i] at e1; simp at e1
      rw [← h2.2]
      have hlt : b' < w.heap.size := by
        rcases Nat.lt_or_ge b' w.heap.size with h' | h'
        · exact h'
        · have := h2.2; unfold holds at this; rw [Array.getElem?_eq_none h'] at this; simp at this
      unfold holds
      rw [hg.block b' hlt (by simpa using hne)]

/-- The slice value 'v' of 'n' elements ('size' cells each) owns its array; 'xs': its elements' cells. -/
structure SlAt (e : TypeId) (size : Nat) (v : Value) (n : Nat) (xs : List Value) (g cap : Nat) (pre sp post : List Value) : Prop where
  val : v = .slice (some ⟨g, pre.length, none⟩) n cap
  len : xs.length = n * size
  room : xs.length + sp.length = cap * size
  le : n ≤ cap
  max : cap ≤ maxLen
def slAt (e : TypeId) (size : Nat) (v : Value) (n : Nat) (xs : List Value) : HProp :=
  ex fun g => ex fun cap => ex fun pre => ex fun sp => ex fun post => sep (pur (SlAt e size v n xs g cap pre sp post)) (blk g e (pre ++ (xs ++ (sp ++ post))))
def sl (e : TypeId) (size : Nat) (v : Value) (n : Nat) (xs : List Value) : HProp := fun h => pur (v = .slice none 0 0 ∧ n = 0 ∧ xs = []) h ∨ slAt e size v n xs h

variable {e : TypeId} {size : Nat} {v : Value} {n : Nat} {xs : List Value}
theorem S.or_elim {A B : HProp} (h : S w0 w ((fun h => A h ∨ B h) :: L)) : S w0 w (A :: L) ∨ S w0 w (B :: L) := by
  obtain ⟨hb, h, ⟨g, k, d, rfl, p, q⟩, hh⟩ := h
  rcases p with p | p
  · exact .inl ⟨hb, _, ⟨g, k, d, rfl, p, q⟩, hh⟩
  · exact .inr ⟨hb, _, ⟨g, k, d, rfl, p, q⟩, hh⟩
theorem S.slAt_elim (h : S w0 w (slAt e size v n xs :: L)) : ∃ g cap pre sp post, SlAt e size v n xs g cap pre sp post ∧ S w0 w (blk g e (pre ++ (xs ++ (sp ++ post))) :: L) := by
  obtain ⟨g, h⟩ := h.ex_elim
  obtain ⟨cap, h⟩ := h.ex_elim
  obtain ⟨pre, h⟩ := h.ex_elim
  obtain ⟨sp, h⟩ := h.ex_elim
  obtain ⟨post, h⟩ := h.ex_elim
  obtain ⟨hp, h⟩ := h.sep_elim.pur_elim
  exact ⟨g, cap, pre, sp, post, hp, h⟩
theorem S.sl_elim (h : S w0 w (sl e size v n xs :: L)) : (v = .slice none 0 0 ∧ n = 0 ∧ xs = [] ∧ S w0 w L) ∨ ∃ g cap pre sp post, SlAt e size v n xs g cap pre sp post ∧ S w0 w (blk g e (pre ++ (xs ++ (sp ++ post))) :: L) := by
  rcases S.or_elim h with h | h
  · obtain ⟨⟨h1, h2, h3⟩, h⟩ := h.pur_elim; exact .inl ⟨h1, h2, h3, h⟩
  · exact .inr h.slAt_elim
theorem S.sl_nil (h : S w0 w L) : S w0 w (sl e size (.slice none 0 0) 0 [] :: L) := (S.pur_intro (p := Value.slice none 0 0 = .slice none 0 0 ∧ (0 : Nat) = 0 ∧ ([] : List Value) = []) ⟨rfl, rfl, rfl⟩ h).mono fun _ p => .inl p
theorem S.sl_intro {g cap : Nat} {pre sp post : List Value} (hp : SlAt e size v n xs g cap pre sp post) (h : S w0 w (blk g e (pre ++ (xs ++ (sp ++ post))) :: L)) : S w0 w (sl e size v n xs :: L) :=
  S.mono (P := slAt e size v n xs) (.ex_intro g (.ex_intro cap (.ex_intro pre (.ex_intro sp (.ex_intro post (.sep_intro (.pur_intro hp h))))))) fun _ p => .inr p
/-- A new array, taken whole. -/
theorem S.sl_blk {g : Nat} (hl : xs.length = n * size) (hm : n ≤ maxLen) (h : S w0 w (blk g e xs :: L)) : S w0 w (sl e size (.slice (some ⟨g, 0, none⟩) n n) n xs :: L) :=
  .sl_intro (g := g) (cap := n) (pre := []) (sp := []) (post := []) ⟨rfl, hl, by simp [hl], Nat.le_refl _, hm⟩ (by simpa using h)

theorem S.sl_len (h : S w0 w (sl e size v n xs :: L)) : xs.length = n * size := by
  rcases h.sl_elim with ⟨rfl, rfl, rfl, _⟩ | ⟨g, cap, pre, sp, post, hp, _⟩
  · simp
  · exact hp.len
/-- What a slice's value looks like, and where its cells lie. -/
theorem S.sl_val (h : S w0 w (sl e size v n xs :: L)) : ∃ a cap, v = .slice a n cap ∧ n ≤ cap ∧ cap ≤ maxLen ∧ (∀ j u, xs[j]? = some u → ∃ g o, a = some ⟨g, o, none⟩ ∧ w.cell? ⟨g, o + j, none⟩ = some u ∧ w.frozen? ⟨g, o + j, none⟩ = false) := by
  rcases h.sl_elim with ⟨rfl, rfl, rfl, _⟩ | ⟨g, cap, pre, sp, post, hp, h⟩
  · exact ⟨none, 0, rfl, Nat.le_refl _, by simp, by simp⟩
  · refine ⟨_, cap, hp.val, hp.le, hp.max, fun j u hj => ⟨g, pre.length, rfl, h.blk_cell (pre.length + j) ?_, h.blk_free _⟩⟩
    rw [List.getElem?_append_right (by omega), Nat.add_sub_cancel_left, List.getElem?_append_left (List.getElem?_eq_some_iff.1 hj).1, hj]
/-- A slice that has an element has an address. -/
theorem S.sl_some (h : S w0 w (sl e size v n xs :: L)) (hn : 0 < xs.length) : ∃ g o cap, v = .slice (some ⟨g, o, none⟩) n cap ∧ n ≤ cap ∧ cap ≤ maxLen ∧ w0.heap.size ≤ g ∧ g < w.heap.size ∧ (∀ j u, xs[j]? = some u → w.cell? ⟨g, o + j, none⟩ = some u) ∧ (∀ j, w.frozen? ⟨g, j, none⟩ = false) := by
  rcases h.sl_elim with ⟨rfl, rfl, rfl, _⟩ | ⟨g, cap, pre, sp, post, hp, h⟩
  · simp at hn
  · refine ⟨g, pre.length, cap, hp.val, hp.le, hp.max, h.blk_new, h.blk_lt, fun j u hj => h.blk_cell (pre.length + j) ?_, fun j => h.blk_free _⟩
    rw [List.getElem?_append_right (by omega), Nat.add_sub_cancel_left, List.getElem?_append_left (List.getElem?_eq_some_iff.1 hj).1, hj]
/-- One cell of it is written. -/
theorem S.sl_set (h : S w0 w (sl e size v n xs :: L)) {g o cap : Nat} (hv : v = .slice (some ⟨g, o, none⟩) n cap) (j : Nat) (hj : j < xs.length) (u : Value) : S w0 (w.setCell ⟨g, o + j, none⟩ u) (sl e size v n (xs.set j u) :: L) := by
  rcases h.sl_elim with ⟨rfl, rfl, rfl, _⟩ | ⟨g', cap', pre, sp, post, hp, h⟩
  · simp at hj
  · have := hp.val
    rw [hv] at this
    simp at this
    obtain ⟨⟨rfl, rfl⟩, rfl⟩ := this
    have h1 := h.blk_set (pre.length + j) (by simp; omega) u
    rw [List.set_append_right _ _ (by omega), Nat.add_sub_cancel_left, List.set_append_left _ _ hj] at h1
    exact .sl_intro ⟨hp.val, by simpa using hp.len, by simpa using hp.room, hp.le, hp.max⟩ h1

theorem grownBy_setRow {g : Nat} {c : Array Value} : w.grownBy (w.setRow g c) (some g) :=
  ⟨rfl, rfl, rfl, by simp [World.setRow], fun k _ hk => setRow_other w g k _ (by simpa using hk)⟩

/-- append, of elements that lie anywhere. -/
theorem S.append (h : S w0 w (sl e size v n xs :: L)) (t ty : TypeId) (i : TypeInfo) (z : Value) (bytes : Nat) (ht : P.underlying t = some (.slice e)) (hi : P.info? e = some i) (hz : i.zero = some z)
    (hsize : i.size = size) (hby : i.bytes = bytes) (hzs : z.cells.size = size) (hsz : 0 < size)
    (a : Option Addr) (m c : Nat) (news : List Value) (hl : news.length = m * size) (hnews : ∀ j u, news[j]? = some u → ∃ b, a = some b ∧ w.cell? (b.add j) = some u) (h1 : ∀ u ∈ news, u.oneCell' = true)
    (h63 : n + m ≤ maxLen) (hbytes : (n + m) * bytes ≤ 140737488355328) :
    ∃ v' w', (Builtin.append_ #[t, t] ty #[v, .slice a m c]).run P w = .ok v' w' ∧ S w0 w' (sl e size v' (n + m) (xs ++ news) :: L) := by
  subst hsize; subst hby
  by_cases hm : m = 0
  · subst hm
    have hn0 : news = [] := List.eq_nil_of_length_eq_zero (by simpa using hl)
    subst hn0
    simp only [List.append_nil, Nat.add_zero]
    have hf : (Builtin.firstCells i.size 0 (.slice a 0 c)).run P w = .ok #[] w := by cases a <;> simp [Builtin.firstCells, loadCells, loadCellsFrom]
    obtain ⟨a', cap, hv, hle, _, _⟩ := h.sl_val
    subst hv
    refine ⟨_, w, ?_, h⟩
    cases a' with
    | none => simp [Builtin.append_, run_underlying ht, sizeOf, typeInfo, hi, Builtin.lenOf, hle, hf]
    | some a' => simp [Builtin.append_, run_underlying ht, sizeOf, typeInfo, hi, Builtin.lenOf, hle, hf, storeCells]
  · have hpos : 0 < news.length := by rw [hl]; exact Nat.mul_pos (by omega) hsz
    obtain ⟨b, rfl⟩ : ∃ b, a = some b := by
      obtain ⟨b, hb, _⟩ := hnews 0 news[0] (by simp)
      exact ⟨b, hb⟩
    have hnews' : ∀ j u, news[j]? = some u → w.cell? (b.add j) = some u := by
      intro j u hj
      obtain ⟨b', hb', hc⟩ := hnews j u hj
      cases hb'; exact hc
    have h63' : n + m ≤ 9223372036854775807 := by simp only [maxLen] at h63; omega
    have grown : ∀ old, old < n + m → ∀ L', S w0 w L' → xs.length = n * i.size →
        S w0 (w.drew.alloc (.cells (xs.toArray ++ news.toArray ++ Builtin.zeroCells z.cells (grownCap w (n + m) old e - (n + m))) e)) (sl e i.size (.slice (some ⟨w.heap.size, 0, none⟩) (n + m) (grownCap w (n + m) old e)) (n + m) (xs ++ news) :: L') := by
      intro old ho L' hL' hxl
      have hge := grownCap_ge w (n + m) old e
      have h2 := hL'.drew.alloc (xs.toArray ++ news.toArray ++ Builtin.zeroCells z.cells (grownCap w (n + m) old e - (n + m))) e
      refine .sl_intro (g := w.heap.size) (cap := grownCap w (n + m) old e) (pre := []) (sp := (Builtin.zeroCells z.cells (grownCap w (n + m) old e - (n + m))).toList) (post := []) ⟨rfl, ?_, ?_, hge, grownCap_le_maxLen w (n + m) old e h63⟩ ?_
      · rw [List.length_append, hxl, hl, Nat.add_mul]
      · simp only [List.length_append, Array.length_toList, size_zeroCells, hzs, hxl, hl, ← Nat.add_mul]; congr 1; omega
      · simpa [List.append_assoc] using h2
    rcases h.sl_elim with ⟨rfl, rfl, rfl, h'⟩ | ⟨g, cap, pre, sp, post, hp, h'⟩
    · have hr := run_append_nil (P := P) w t ty e i z ht hi hz b m c news hl hnews' (by omega) (by omega) (by have hb := hbytes; simp only [Nat.zero_add] at hb; omega)
      have hg := grown 0 (by omega) L h' (by simp)
      simp only [Nat.zero_add, List.nil_append, Array.empty_append] at hg ⊢
      exact ⟨_, _, hr, by simpa using hg⟩
    · have hv := hp.val
      subst hv
      by_cases hroom : n + m ≤ cap
      · have hb := h'.blk_heap
        have hml : news.length ≤ sp.length := by
          have h5 := hp.room
          have h6 := hp.len
          have : (n + m) * i.size ≤ cap * i.size := Nat.mul_le_mul_right _ hroom
          rw [Nat.add_mul] at this
          rw [hl]; omega
        have hf := run_firstCells_some (P := P) w i.size m b m c news hl hnews'
        have hst := run_storeCells_at P g (pre.length + n * i.size) e news 0 _ w hb (by simp; rw [← hp.len]; omega) h1
        simp only [Nat.add_zero] at hst
        have hcs : List.take (pre.length + n * i.size) (pre ++ (xs ++ (sp ++ post))) ++ news ++ List.drop (pre.length + n * i.size + news.length) (pre ++ (xs ++ (sp ++ post))) = pre ++ ((xs ++ news) ++ (sp.drop news.length ++ post)) := by
          rw [← hp.len]
          simp only [List.take_append, List.drop_append, Nat.add_sub_cancel_left, Nat.le_add_right, List.take_of_length_le]
          simp only [Nat.sub_self, List.take_zero, List.append_assoc]
          have e1 : pre.length + xs.length + news.length - pre.length - xs.length = news.length := by omega
          have e2 : List.drop (pre.length + xs.length + news.length) pre = [] := List.drop_of_length_le (by omega)
          have e3 : List.drop (pre.length + xs.length + news.length - pre.length) xs = [] := List.drop_of_length_le (by omega)
          have e4 : List.drop (news.length - sp.length) post = post := by rw [show news.length - sp.length = 0 from by omega]; rfl
          rw [e1, e2, e3, e4]; simp
        rw [hcs] at hst
        have hrow := setRow_heap w g _ (pre ++ ((xs ++ news) ++ (sp.drop news.length ++ post))).toArray e _ hb
        have h3 := h'.blk_turn grownBy_setRow hrow
        refine ⟨.slice (some ⟨g, pre.length, none⟩) (n + m) cap, w.setRow g (pre ++ ((xs ++ news) ++ (sp.drop news.length ++ post))).toArray, ?_, ?_⟩
        · have hadd : (⟨g, pre.length, none⟩ : Addr).add (n * i.size) = ⟨g, pre.length + n * i.size, none⟩ := by unfold Addr.add; split <;> simp_all
          simp [Builtin.append_, run_underlying ht, sizeOf, typeInfo, hi, Builtin.lenOf, hroom, hf, hadd, hst]
        · refine .sl_intro ⟨rfl, ?_, ?_, hroom, hp.max⟩ h3
          · rw [List.length_append, hp.len, hl, Nat.add_mul]
          · have := hp.room; simp only [List.length_append, List.length_drop]; omega
      · have holds' : ∀ j u, xs[j]? = some u → w.cell? ((⟨g, pre.length, none⟩ : Addr).add j) = some u := by
          intro j u hj
          have hadd : (⟨g, pre.length, none⟩ : Addr).add j = ⟨g, pre.length + j, none⟩ := by unfold Addr.add; split <;> simp_all
          rw [hadd]
          refine h'.blk_cell _ ?_
          rw [List.getElem?_append_right (by omega), Nat.add_sub_cancel_left, List.getElem?_append_left (List.getElem?_eq_some_iff.1 hj).1, hj]
        have hr := run_append_grow (P := P) w t ty e i z ht hi hz ⟨g, pre.length, none⟩ n cap xs hp.len holds' b m c news hl hnews' (by omega) (by omega) (growslice_fits (by omega) hbytes)
        exact ⟨_, _, hr, grown cap (by omega) L h'.tail hp.len⟩
end
end Go.Sep
