/- Walks: haspref.FitOf, errors. -/
import Derived.Test.YtepddehodmljeaaM2
namespace Go.Proofs.Ytepddehodmljeaa
open Go.RowKit Go.Maps

/-- What Fit answers. -/
def fitT (p t : List Int) : List (List Int) := if chk2 p t = 0 then (fitL p t).getD [] else []
def fitB (p t : List Int) : Bool := if chk2 p t = 0 then (fitL p t).isSome else false
theorem chk2_zero {p t : List Int} (h : chk2 p t = 0) : chk p = 0 ∧ chk t = 0 := by
  unfold chk2 at h
  split at h
  · exact ⟨by assumption, h⟩
  · contradiction

theorem FitOf_calls (p t : List Int) (u v : Value) (w : World) (hu : IsInts Any w u p) (hv : IsInts Any w v t) :
    Calls Try.prog 47 #[u, v] w fun e w' => ∃ x, e = .returned (.tuple #[x, .bool (fitB p t), .int .i64 (chk2 p t)]) ∧ IsTerms (Fr w.heap.size) w' x (fitT p t) ∧ Below w.heap.size w w' := by
  have h1 := Lib.hid (twoErrors_calls p t u v w hu hv)
  by_cases h : chk2 p t = 0
  · have hr : Hid (fitT p t = (fitL p t).getD [] ∧ fitB p t = (fitL p t).isSome) := by rw [Hid, fitT, fitB, if_pos h, if_pos h]; exact ⟨rfl, rfl⟩
    have h2 := Lib.hid (fitted_calls p t (chk2_zero h).1 (chk2_zero h).2 u v w hu hv)
    have hh := Lib.hid h
    clear hu hv h
    go_enter Try.func47, Try.ntmps47
    go_wp2_with fail
    refine h1.out.mono ?_
    rintro e w' ⟨rfl, rfl⟩
    rw [hh.out]
    go_wp2_with fail
    refine h2.out.mono ?_
    rintro e w1 ⟨x, rfl, hx, hB⟩
    have hX := Lib.hid hx
    clear hx
    go_wp2_with fail
    go_ret3
    exact ⟨x, by rw [hr.out.2, hh.out]; rfl, by rw [hr.out.1]; exact hX.out, hB⟩
  · have hr : Hid (fitT p t = [] ∧ fitB p t = false) := by rw [Hid, fitT, fitB, if_neg h, if_neg h]; exact ⟨rfl, rfl⟩
    have h' : (chk2 p t != 0) = true := by simpa using h
    clear hu hv h
    go_enter Try.func47, Try.ntmps47
    go_wp2_with fail
    refine h1.out.mono ?_
    rintro e w' ⟨rfl, rfl⟩
    clear h1
    go_wp2_with fail
    go_ret3
    exact ⟨.slice none 0 0, by rw [hr.out.2]; rfl, by rw [hr.out.1]; exact .nil _ _, .refl _ _⟩

end Go.Proofs.Ytepddehodmljeaa
