/- Walks: the reader takes a byte. -/
import Derived.WalkLawsBesides
import Derived.Defers
import Derived.Recover
import Derived.Test.YtepddehodmljeaaPt
namespace Go.Proofs.Ytepddehodmljeaa
open Go.RowKit

theorem tail_bytes (c : UInt8) (r : List UInt8) : ({ data := (c :: r).toArray } : ByteArray).extract 1 (r.length + 1) = ⟨r.toArray⟩ := by
  apply ByteArray.ext
  rw [ByteArray.data_extract]
  simp

set_option maxRecDepth 100000 in
theorem take_calls (B : Nat) (c : UInt8) (r : List UInt8) (w : World) (h0 : w.cell? ⟨B, 0, none⟩ = some (.string ⟨(c :: r).toArray⟩)) (hf : w.frozen? ⟨B, 0, none⟩ = false) (hl : r.length ≤ 5000) :
    Calls Try.prog 186 #[.pointer (some ⟨B, 0, none⟩)] w fun e w' => e = .returned (.int .u8 (c.toNat : Int)) ∧ w' = w.setCell ⟨B, 0, none⟩ (.string ⟨r.toArray⟩) := by
  go_enter Try.func186, Try.ntmps186
  go_wp2_with fail
  go_ret
  exact ⟨rfl, by rw [tail_bytes]⟩

/-- What is thrown. -/
def broke : List PanicEntry := [{ v := .iface 161 (.agg #[]), recovered := false }]
set_option maxRecDepth 100000 in
theorem take_no (B : Nat) (w : World) (h0 : w.cell? ⟨B, 0, none⟩ = some (.string ⟨#[]⟩)) :
    Calls Try.prog 186 #[.pointer (some ⟨B, 0, none⟩)] w fun e w' => e = .panicked broke ∧ w' = w := by
  go_enter Try.func186, Try.ntmps186
  go_wp2_with fail
  exact ⟨rfl, rfl, rfl⟩

end Go.Proofs.Ytepddehodmljeaa
