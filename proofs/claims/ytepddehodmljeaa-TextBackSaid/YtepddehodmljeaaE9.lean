/- How a string is read that was handed in. -/
import Derived.ChangeMaps5
import Derived.Test.YtepddehodmljeaaE5
namespace Go.Proofs.Ytepddehodmljeaa
open Go.ChangeShapes Go.WideShapes Go.ChangeAt Go.RowKit

variable {H : Type} {enc : TypeId × Value → H} {W : World}
set_option maxRecDepth 100000 in
theorem open_string_arg {v : Value} {d : DataW H} {p : List MemPlace} {r : Reach} {b0 : Nat} (hval : Value.okWide Try.prog W r b0 9 v)
    (h : DataW.Trod enc Try.prog W 0 (fun _ => true) true 9 v d p) : ∃ s : List UInt8, v = .string ⟨s.toArray⟩ ∧ s.length ≤ 9223372036854775807 := by
  obtain ⟨s, rfl, -, -, hs⟩ := Go.ChangeMaps.open_string (P := Try.prog) (by kernel_rfl) hval h
  obtain ⟨⟨l⟩⟩ := s
  exact ⟨l, rfl, maxLen_le hs⟩

end Go.Proofs.Ytepddehodmljeaa
