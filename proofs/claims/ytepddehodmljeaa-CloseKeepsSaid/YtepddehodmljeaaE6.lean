/- How a world of three things is read that was handed in; NormModel for whatever is handed in. -/
import Derived.Test.YtepddehodmljeaaE5
import Derived.Test.YtepddehodmljeaaV5
namespace Go.Proofs.Ytepddehodmljeaa
open Go.ChangeShapes Go.WideShapes Go.ChangeAt Go.RowKit

theorem Try.cellTypes57 : Try.prog.cellTypes Try.prog.depth 57 = some (List.replicate 26 3) := by kernel_rfl
theorem Try.cells57 : Try.prog.cellsOf 57 = 26 := by kernel_rfl

theorem cell_int {P : Program} {w : World} {r : Reach} {base : Nat} {t : TypeId} {v : Value} (ht : P.underlying t = some (.int .i64)) (h : Cell.okWide P w r base t v) : ∃ x, v = .int .i64 x ∧ -9223372036854775808 ≤ x ∧ x ≤ 9223372036854775807 := by
  simp only [Cell.okWide, ht] at h
  cases v with
  | int k x =>
    simp only [Cell.ok, ht] at h
    obtain ⟨rfl, h1⟩ := h
    refine ⟨x, rfl, ?_⟩
    simpa [IntKind.has, IntKind.min, IntKind.max, IntKind.signed, IntKind.bits] using h1
  | _ => simp [Cell.ok, ht] at h

variable {H : Type} {enc : TypeId × Value → H} {W : World}
set_option maxRecDepth 100000 in
theorem open_model_arg {v : Value} {d : DataW H} {p : List MemPlace} {r : Reach} {b0 : Nat} (hval : Value.okWide Try.prog W r b0 57 v)
    (_ : DataW.Trod enc Try.prog W 0 (fun _ => true) true 57 v d p) : ∃ m mv, v = .agg mv ∧ IsMod m mv := by
  have hu := Try.underlying57
  simp only [Value.okWide, hu] at hval
  obtain ⟨cs, rfl, hsz, ts, hts, -, hall⟩ := hval
  rw [Try.cellTypes57] at hts
  cases hts
  rw [Try.cells57] at hsz
  have key : ∀ i, i < 26 → ∃ x, cs[i]? = some (.int .i64 x) ∧ -9223372036854775808 ≤ x ∧ x ≤ 9223372036854775807 := by
    intro i hi
    have h1 : cs[i]? = some cs[i] := Array.getElem?_eq_getElem (by omega)
    obtain ⟨u, h2, h3⟩ := hall i _ h1
    rw [List.getElem?_replicate, if_pos (by rw [List.length_replicate]; exact Nat.mod_lt _ (by omega))] at h2
    cases h2
    obtain ⟨x, h4, h5⟩ := cell_int Try.underlying3 h3
    exact ⟨x, by rw [h1, h4], h5⟩
  have hch : ∃ f : Nat → Int, ∀ i, i < 26 → cs[i]? = some (.int .i64 (f i)) ∧ -9223372036854775808 ≤ f i ∧ f i ≤ 9223372036854775807 :=
    ⟨fun i => if h : i < 26 then Classical.choose (key i h) else 0, fun i hi => by simp only [hi, dite_true]; exact Classical.choose_spec (key i hi)⟩
  obtain ⟨f, hf⟩ := hch
  obtain ⟨m, hn⟩ : ∃ m : List Int, ∀ i, i < 26 → nth m i = f i := ⟨(List.range 26).map f, fun i hi => by rw [nth, List.getD, List.getElem?_map, List.getElem?_range hi]; rfl⟩
  exact ⟨m, cs, rfl, hsz, fun i hi => by rw [hn i hi]; exact (hf i hi).1, fun i hi => by rw [hn i hi]; exact (hf i hi).2.1, fun i hi => by rw [hn i hi]; exact (hf i hi).2.2⟩

theorem NormModel_all (l : Rus) (t m : List Int) (v x y : Value) (w : World) (hv : IsRules Any w v l) (hx : IsInts Any w x t) (hm : ∃ mv, y = .agg mv ∧ IsMod m mv) :
    Calls Try.prog 23 #[v, x, y] w fun e w' => e = .returned (.bool true) ∧ Below w.heap.size w w' := by
  obtain ⟨mv, rfl, h⟩ := hm
  exact NormModel_calls l t m v x mv w hv hx h

end Go.Proofs.Ytepddehodmljeaa
