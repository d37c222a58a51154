/- Regions in which slices of structs are made: what each step leaves, whatever the order. -/
import Derived.Test.YtbcoddibdipjkaaDoorRegS
namespace Go.Sep
open Go Go.RowKit
variable {w w0 : World} {L : List HProp}
theorem S.alloc_slK {e size : Nat} (h : S w0 w L) (xs : List Value) (n : Nat) (hl : xs.length = n * size) (hm : n ≤ maxLen) :
    S w0 (w.alloc (.cells xs.toArray e)) (sl e size (.slice (some ⟨w.heap.size, 0, none⟩) n n) n xs :: L) := (h.alloc xs.toArray e).sl_blk (by simpa using hl) hm
theorem S.news_slK {e size : Nat} {ad : Option Addr} {m c : Nat} {xs : List Value} (h : S w0 w L) (k : Nat) (hk : L[k]? = some (sl e size (.slice ad m c) m xs)) : ∀ j u, xs[j]? = some u → ∃ b, ad = some b ∧ w.cell? (b.add j) = some u := by
  intro j u hj
  obtain ⟨a, cap, hv, _, _, hc⟩ := (h.nth k hk).sl_val
  obtain ⟨g, o, ha, hcell, _⟩ := hc j u hj
  simp only [Value.slice.injEq] at hv
  refine ⟨⟨g, o, none⟩, by rw [hv.1, ha], ?_⟩
  have e1 : (⟨g, o, none⟩ : Addr).add j = ⟨g, o + j, none⟩ := by unfold Addr.add; split <;> simp_all
  rw [e1]; exact hcell
theorem S.norm0K {e size : Nat} {v : Value} {n : Nat} {xs : List Value} (h : S w0 w (sl e size v (0 + n) ([] ++ xs) :: L)) : S w0 w (sl e size v n xs :: L) := by
  rw [Nat.zero_add] at h; exact h
theorem S.rest {M N : List HProp} (h : S w0 w (M ++ N)) : S w0 w N := (S.pack M N h).tail
variable {P : Program}
theorem step_appK {ops : Array Oper} {o : Oper} {a : Act} {K : Act → World → Prop} {Q : Exit → Act → World → Prop} {E : Prop} (hg : o.guard = none) (s x : Operand) (t : TypeId)
    (hop : o.op = .call { callee := .builtin .append, args := #[s, x], argTypes := #[t, t] })
    (e : TypeId) (i : TypeInfo) (z : Value) (size bytes : Nat) (ht : P.underlying t = some (.slice e)) (hi : P.info? e = some i) (hz : i.zero = some z)
    (hsize : i.size = size) (hby : i.bytes = bytes) (hzs : z.cells.size = size) (hsz : 0 < size) (hW : S w0 w L) (ix : Nat) {v : Value} {n : Nat} {xs : List Value} (hix : L[ix]? = some (sl e size v n xs)) (hv : a.eval s = v)
    (ad : Option Addr) (m c : Nat) (news : List Value) (hx : a.eval x = .slice ad m c) (hl : news.length = m * size) (hnews : ∀ j u, news[j]? = some u → ∃ b, ad = some b ∧ w.cell? (b.add j) = some u) (h1 : ∀ u ∈ news, u.oneCell' = true)
    (h63 : n + m ≤ 1000000) (hb8 : bytes ≤ 100)
    (h : ∀ v' w', S w0 w' (sl e size v' (n + m) (xs ++ news) :: L.eraseIdx ix) → K (a.put o.dst v') w') : if Region.wanted o (yielded ops a.tmps) = true then Oper.wp P o a w K Q else E :=
  step_append hg s x t hop e i z size bytes ht hi hz hsize hby hzs hsz (hW.nth ix hix) hv ad m c news hx hl hnews h1 (by unfold maxLen; omega)
    (by have := Nat.mul_le_mul h63 hb8; omega) h
end Go.Sep
