/- What came in, as the abstract machine sees it: shapes by type. -/
import Derived.Test.YtdpdlmjlahehoaaG9
namespace Go.Ab
/-- Cells that a value of this type may hold: whole numbers, truth values, strings, rows and structs of such. -/
def Shaped (P : Program) : Nat → TypeId → List AV → Prop
  | 0, _, _ => False
  | n + 1, t, us => match P.underlying t with
    | some .bool => ∃ b, us = [.bool b]
    | some (.int k) => ∃ m, us = [.int k m] ∧ (Lit.int k m).wf = true
    | some .string => ∃ s : ByteArray, us = [.str s] ∧ s.size ≤ maxLen
    | some (.slice e) => ∃ nl xs, us = [.ro nl xs] ∧ (nl = true → xs = []) ∧ xs.length ≤ maxLen ∧ ∀ x ∈ xs, x.cells.length = P.cellsOf e ∧ Shaped P n e x.cells
    | some (.struct fs) => us.length = P.cellsOf t ∧ ∀ f ∈ fs.toList, Shaped P n f.type ((us.drop f.offset).take (P.cellsOf f.type))
    | _ => False
/-- The fields lie one behind the other. -/
def tiles (P : Program) : Nat → List Field → Nat → Bool
  | k, [], n => k == n
  | k, f :: r, n => f.offset == k && tiles P (k + P.cellsOf f.type) r n
/-- Types of such values. -/
def Plain (P : Program) : Nat → TypeId → Bool
  | 0, _ => false
  | n + 1, t => match P.underlying t with
    | some .bool | some (.int _) | some .string => true
    | some (.slice e) => P.cellsOf e > 0 && Plain P n e
    | some (.struct fs) => tiles P 0 fs.toList (P.cellsOf t) && fs.toList.all fun f => Plain P n f.type
    | _ => false
end Go.Ab
