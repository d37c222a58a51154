/- Maps whose keys are pairs of whole numbers. -/
import Derived.Test.YthdiphfbjlooaaaDoorMaps
import Derived.WideKeyRuns
namespace Go.Sep
open Go Go.RowKit

def encP (p : Int × Int) : Value := .agg #[.int .i64 p.1, .int .i64 p.2]
theorem findAsking_pair {P : Program} {kt : TypeId} (heq : ∀ p q w, (Op.equal kt (encP p) (encP q)).run P w = .ok (decide (p = q)) w) (k : Int × Int) (w : World) : ∀ (es : List MapEntry) (ks : List (Int × Int)) (n : Nat), es.map (·.key) = ks.map encP →
    (Instr.findAsking kt (encP k) es n).run P w = .ok ((((ks.zip es).zipIdx n).find? fun x => decide (x.1.1 = k)).map fun x => (x.2, x.1.2.val)) w
  | [], [], _, _ => rfl
  | [], _ :: _, _, h => by simp at h
  | _ :: _, [], _, h => by simp at h
  | e :: es, x :: ks, n, h => by
    simp only [List.map_cons, List.cons.injEq] at h
    simp only [Instr.findAsking, Sem.run_bind, h.1, heq, Result.andThen_ok, List.zip_cons_cons, List.zipIdx_cons, List.find?_cons]
    by_cases hk : k = x
    · subst hk; simp
    · have hk' : ¬ x = k := fun e => hk e.symm
      simp only [hk, hk', decide_false, Bool.false_eq_true, ↓reduceIte]
      exact findAsking_pair heq k w es ks (n + 1) h.2
theorem keyOk_pair {P : Program} {kt : TypeId} (hwide : (match P.underlying kt with | some (.array _ _) | some (.struct _) => true | _ => false) = true)
    (hck : ∀ em p w, (Instr.checkKey em 10000 kt (encP p)).run P w = .ok () w) (heq : ∀ p q w, (Op.equal kt (encP p) (encP q)).run P w = .ok (decide (p = q)) w) : KeyOk P kt encP (fun _ => True) where
  check := hck
  find k es ks w _ _ h := by rw [run_findKey_eq w hwide, findAsking_pair heq k w es ks 0 h]
  inj a b h := by
    obtain ⟨a1, a2⟩ := a
    obtain ⟨b1, b2⟩ := b
    simpa [encP] using h
  stays k w := by simp [Instr.keyThatStays, Instr.sameBits, encP]
end Go.Sep
