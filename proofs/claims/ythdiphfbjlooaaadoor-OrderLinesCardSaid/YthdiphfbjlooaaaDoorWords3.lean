/- Still more words: the first ones of a list alone. -/
import Derived.Test.YthdiphfbjlooaaaDoorRange
namespace Go.Sep
open Go Go.RowKit
variable {w0 w : World} {L M : List HProp}
theorem S.left (M : List HProp) (h : S w0 w (M ++ L)) : S w0 w M := by
  have h1 := h.perm (List.perm_append_comm)
  induction L with
  | nil => simpa using h
  | cons P L ih =>
    have h2 : S w0 w (P :: (L ++ M)) := h1
    exact ih (h2.tail.perm List.perm_append_comm) h2.tail
theorem S.head2 {A B : HProp} (h : S w0 w (A :: B :: L)) : S w0 w [A, B] := S.left [A, B] h
theorem S.head3 {A B C : HProp} (h : S w0 w (A :: B :: C :: L)) : S w0 w [A, B, C] := S.left [A, B, C] h
end Go.Sep
