/- PairsModel for whatever is handed in. -/
import Derived.Test.YtepddehodmljeaaE6
import Derived.Test.YtepddehodmljeaaYk
namespace Go.Proofs.Ytepddehodmljeaa
open Go.RowKit

theorem PairsModel_all (l : Rus) (i j : Int) (m : List Int) (v y : Value) (w : World) (hv : IsRules Any w v l) (hm : ∃ mv, y = .agg mv ∧ IsMod m mv) :
    Calls Try.prog 26 #[v, .int .i64 i, .int .i64 j, y] w fun e w' => e = .returned (.bool true) ∧ Below w.heap.size w w' := by
  obtain ⟨mv, rfl, h⟩ := hm
  exact PairsModel_calls l i j m v mv w hv h

end Go.Proofs.Ytepddehodmljeaa
