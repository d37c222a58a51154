/- More words for walks: whole arrays, clones. -/
import Derived.Test.YthdiphfbjlooaaaDoorWords
namespace Go.Sep
open Go Go.RowKit
variable {P : Program} {w w0 : World} {L : List HProp}
/-- A whole array is loaded. -/
theorem wpList_load_arr {ops : Array Oper} {rest : List Oper} {o : Oper} {a : Act} {Q : Exit → Act → World → Prop} (hg : o.guard = none) (t : TypeId) (x : Operand) (hop : o.op = .load t x)
    (ad : Addr) (hx : a.eval x = .pointer (some ad)) (n : Nat) (e : TypeId) (ht : P.underlying t = some (.array n e)) (cs : List Value) (hsz' : (P.info? t).map (·.size) = some cs.length)
    (hc : ∀ j u, cs[j]? = some u → w.cell? (ad.add j) = some u) (h : wpList P ops Q rest (a.put o.dst (.agg cs.toArray)) w) : wpList P ops Q (o :: rest) a w :=
  wpList_plain hg fun K hK => by
    obtain ⟨i, hi, hsz⟩ := Option.map_eq_some_iff.1 hsz'
    have hl := run_loadCells_list (P := P) w ad cs hc
    have hrun : (loadVar t ad).run P w = .ok (.agg cs.toArray) w := by simp [loadVar, isAgg, run_underlying ht, sizeOf, typeInfo, hi, hsz, hl]
    unfold Oper.wp execOp
    simp only [hop, hx, Instr.loadAt, Instr.sureAddr, Sem.run_bind, Sem.run_pure, Result.andThen_ok, hrun]
    exact hK _ _ h
/-- An element of an array that is held as a value: one cell each. -/
theorem run_index_arr {t e : TypeId} {n : Nat} {d : TypeDesc} (ht : P.underlying t = some (.array n e)) (he : P.underlying e = some d) (hd : (match d with | .struct _ | .array _ _ => false | _ => true) = true)
    (hsz : (P.info? e).map (·.size) = some 1) {cs : List Value} {i : Nat} {v : Value} (hi : i < n) (hv : cs[i]? = some v) (w : World) :
    (Instr.index t (.agg cs.toArray) (.int .i64 i)).run P w = .ok v w := by
  obtain ⟨info, h1, h2⟩ := Option.map_eq_some_iff.1 hsz
  have ha : (isAgg e).run P w = .ok false w := by
    simp only [isAgg, Sem.run_bind, run_underlying he, Result.andThen_ok]
    cases d <;> simp_all
  simp [Instr.index, asIntOf, run_underlying ht, hi, sizeOf, typeInfo, h1, h2, part, ha, hv]
end Go.Sep
