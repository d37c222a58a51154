/- Regions in which several slices are made: what each step leaves, whatever the order. -/
import Derived.Test.YtbcoddibdipjkaaDoorSlices2
import Derived.Test.YtbcoddibdipjkaaDoorWords2
import Derived.Deep.RegionHeldLaw
namespace Go.Sep
open Go Go.RowKit
variable {w w0 w' : World} {L M : List HProp} {A : HProp}
theorem S.join (h : S w0 w L) (hM : S w w' M) : S w0 w' (M ++ L) := S.unpack (h.add hM.1 hM.2)
theorem S.nth (h : S w0 w L) (i : Nat) (hi : L[i]? = some A) : S w0 w (A :: L.eraseIdx i) := by
  obtain ⟨hl, rfl⟩ := List.getElem?_eq_some_iff.1 hi
  exact h.conv (by rw [all_pick L i hl]; rfl)
theorem S.alloc_sl {e : TypeId} (h : S w0 w L) (xs : List Value) (b : Nat) (hb : w.heap.size = b) (hm : xs.length ≤ maxLen) :
    S w0 (w.alloc (.cells xs.toArray e)) (sl e 1 (.slice (some ⟨b, 0, none⟩) xs.length xs.length) xs.length xs :: L) := by
  subst hb
  exact (h.alloc xs.toArray e).sl_blk (by simp) hm

/-- .. and how many blocks there are. -/
def SB (w0 w : World) (n : Nat) (L : List HProp) : Prop := S w0 w L ∧ w.heap.size = n
theorem SB.base (h : S w0 w L) : SB w0 w w.heap.size L := ⟨h, rfl⟩
theorem SB.alloc_sl {e : TypeId} {n : Nat} (h : SB w0 w n L) (xs : List Value) (hm : xs.length ≤ maxLen) :
    SB w0 (w.alloc (.cells xs.toArray e)) (n + 1) (sl e 1 (.slice (some ⟨n, 0, none⟩) xs.length xs.length) xs.length xs :: L) := ⟨h.1.alloc_sl xs n h.2 hm, by rw [World.size_alloc, h.2]⟩
theorem SB.get {n : Nat} (h : SB w0 w n L) : S w0 w L := h.1
theorem SB.getD {n : Nat} (h : SB w0 w n L) : S w0 w.drew L := h.1.drew
theorem S.headTwo {B : HProp} {R : List HProp} (h : S w0 w (A :: B :: R)) : S w0 w [A, B] :=
  (h.conv (M := all R :: [A, B]) (by simp only [all, sep_emp]; rw [sep_comm (all R), sep_assoc])).tail
theorem S.news_sl {e : TypeId} {ad : Option Addr} {m c : Nat} {xs : List Value} (h : S w0 w L) (k : Nat) (hk : L[k]? = some (sl e 1 (.slice ad m c) m xs)) : ∀ j u, xs[j]? = some u → ∃ b, ad = some b ∧ w.cell? (b.add j) = some u := by
  intro j u hj
  obtain ⟨a, cap, hv, _, _, hc⟩ := (h.nth k hk).sl_val
  obtain ⟨g, o, ha, hcell, _⟩ := hc j u hj
  simp only [Value.slice.injEq] at hv
  refine ⟨⟨g, o, none⟩, by rw [hv.1, ha], ?_⟩
  have e1 : (⟨g, o, none⟩ : Addr).add j = ⟨g, o + j, none⟩ := by unfold Addr.add; split <;> simp_all
  rw [e1]; exact hcell
/-- Cells that were there are there. -/
theorem news_old {ad : Option Addr} {xs : List Value} (h : ∀ j u, xs[j]? = some u → ∃ g o, ad = some ⟨g, o, none⟩ ∧ g < w.heap.size ∧ w.cell? ⟨g, o + j, none⟩ = some u) :
    ∀ W M, S w W M → ∀ j u, xs[j]? = some u → ∃ b, ad = some b ∧ W.cell? (b.add j) = some u := by
  intro W M hW j u hj
  obtain ⟨g, o, ha, hlt, hc⟩ := h j u hj
  refine ⟨⟨g, o, none⟩, ha, ?_⟩
  have e1 : (⟨g, o, none⟩ : Addr).add j = ⟨g, o + j, none⟩ := by unfold Addr.add; split <;> simp_all
  rw [e1, hW.1.cell (p := ⟨g, o + j, none⟩) hlt]; exact hc

theorem S.norm0 {e : TypeId} {v : Value} {n : Nat} {xs : List Value} (h : S w0 w (sl e 1 v (0 + n) ([] ++ xs) :: L)) : S w0 w (sl e 1 v n xs :: L) := by
  rw [Nat.zero_add] at h; exact h
variable {P : Program}
/-- append, wherever its slice stands in the list. -/
theorem step_app {ops : Array Oper} {o : Oper} {a : Act} {K : Act → World → Prop} {Q : Exit → Act → World → Prop} {E : Prop} (hg : o.guard = none) (s x : Operand) (t : TypeId)
    (hop : o.op = .call { callee := .builtin .append, args := #[s, x], argTypes := #[t, t] })
    (e : TypeId) (i : TypeInfo) (z : Value) (bytes : Nat) (ht : P.underlying t = some (.slice e)) (hi : P.info? e = some i) (hz : i.zero = some z)
    (hsize : i.size = 1) (hby : i.bytes = bytes) (hzs : z.cells.size = 1) (hW : S w0 w L) (ix : Nat) {v : Value} {n : Nat} {xs : List Value} (hix : L[ix]? = some (sl e 1 v n xs)) (hv : a.eval s = v)
    (ad : Option Addr) (m c : Nat) (news : List Value) (hx : a.eval x = .slice ad m c) (hl : news.length = m) (hnews : ∀ j u, news[j]? = some u → ∃ b, ad = some b ∧ w.cell? (b.add j) = some u) (h1 : ∀ u ∈ news, u.oneCell' = true)
    (h63 : n + m ≤ 1000000) (hb8 : bytes ≤ 8)
    (h : ∀ v' w', S w0 w' (sl e 1 v' (n + m) (xs ++ news) :: L.eraseIdx ix) → K (a.put o.dst v') w') : if Region.wanted o (yielded ops a.tmps) = true then Oper.wp P o a w K Q else E :=
  step_append hg s x t hop e i z 1 bytes ht hi hz hsize hby hzs (by omega) (hW.nth ix hix) hv ad m c news hx (by rw [hl, Nat.mul_one]) hnews h1 (by unfold maxLen; omega)
    (by have := Nat.mul_le_mul h63 hb8; omega) h
end Go.Sep
namespace Go.Proofs.YtbcoddibdipjkaaDoor
open Go Go.RowKit Go.Sep

theorem nil_max : ([] : List Value).length ≤ maxLen := Nat.zero_le _
theorem one_max (x : Int) : ([Value.int .i64 x] : List Value).length ≤ maxLen := by simp only [List.length_cons, List.length_nil]; unfold maxLen; omega
theorem icells_one (l : List Int) : ∀ u ∈ icells l, u.oneCell' = true := fun u hu => by
  obtain ⟨x, _, rfl⟩ := List.mem_map.1 hu
  rfl
end Go.Proofs.YtbcoddibdipjkaaDoor
