/- How rules, pairs, a pair and a string are read that were handed in. -/
import Derived.Test.YtepddehodmljeaaE3
import Derived.Test.YtepddehodmljeaaG6
import Derived.ChangeSame
namespace Go.Proofs.Ytepddehodmljeaa
open Go.ChangeShapes Go.WideShapes Go.ChangeAt Go.RowKit

def fieldsOf (d : Option TypeDesc) : List (TypeId × Nat) := match d with | some (.struct fs) => fs.toList.map fun f => (f.type, f.offset) | _ => []
theorem two_fields {P : Program} {t a b : TypeId} {i j : Nat} (h : fieldsOf (P.underlying t) = [(a, i), (b, j)]) :
    ∃ f0 f1 : Field, P.underlying t = some (.struct #[f0, f1]) ∧ f0.type = a ∧ f0.offset = i ∧ f1.type = b ∧ f1.offset = j := by
  unfold fieldsOf at h
  split at h
  · rename_i fs hd
    obtain ⟨l⟩ := fs
    match l, h with
    | [f0, f1], h =>
      simp at h
      exact ⟨f0, f1, hd, h.1.1, h.1.2, h.2.1, h.2.2⟩
  · cases h
theorem Try.fields102 : fieldsOf (Try.prog.underlying 102) = [(24, 0), (24, 1)] := by kernel_rfl
theorem Try.fields65 : fieldsOf (Try.prog.underlying 65) = [(24, 0), (24, 1)] := by kernel_rfl
theorem Try.cells102 : Try.prog.cellsOf 102 = 2 := by kernel_rfl
theorem Try.cells65 : Try.prog.cellsOf 65 = 2 := by kernel_rfl

variable {H : Type} {enc : TypeId × Value → H} {W : World}

theorem ints_cell1 {u : Value} {n : Nat} {y : DataW H × List MemPlace} (hy : DataW.trod enc Try.prog W 0 (fun _ => true) true n 24 [u] = some y) : ∃ xs, IsInts Any W u xs := by
  have hu : u.cells = #[u] := by
    rcases Go.Deep.open_slice Try.underlying24 hy with ⟨e, _⟩ | ⟨_, _, _, _, _, _, _, e, _⟩ <;> (simp only [List.cons.injEq, and_true] at e; subst e; rfl)
  exact open_ints_cells Try.underlying24 hu hy

theorem open_two {t : TypeId} (hf : fieldsOf (Try.prog.underlying t) = [(24, 0), (24, 1)]) {n : Nat} {us : List Value} {y : DataW H × List MemPlace} (hl : us.length = 2)
    (hy : DataW.trod enc Try.prog W 0 (fun _ => true) true n t us = some y) : ∃ z, RuleR Any W us z := by
  obtain ⟨f0, f1, h0, h1, h2, h3, h4⟩ := two_fields hf
  obtain ⟨u, v, rfl⟩ : ∃ u v, us = [u, v] := by match us, hl with | [u, v], _ => exact ⟨u, v, rfl⟩
  obtain ⟨y0, y1, k, -, -, g0, g1⟩ := trod_struct2 h0 hy
  rw [h1, h2, Try.cells24] at g0
  rw [h3, h4, Try.cells24] at g1
  obtain ⟨a, ha⟩ := ints_cell1 (by simpa using g0)
  obtain ⟨b, hb⟩ := ints_cell1 (by simpa using g1)
  exact ⟨(a, b), u, v, rfl, ha, hb⟩

set_option maxRecDepth 100000 in
theorem open_rules_arg {v : Value} {d : DataW H} {p : List MemPlace} {r : Reach} {b0 : Nat} (hval : Value.okWide Try.prog W r b0 49 v)
    (h : DataW.Trod enc Try.prog W 0 (fun _ => true) true 49 v d p) : ∃ l, IsRules Any W v l := by
  obtain ⟨a0, len, cap, rfl⟩ := okWide_slice Try.underlying49 hval
  obtain ⟨fuel, hf⟩ := h
  exact open_rows (by decide) Try.underlying49 Try.cells102 (fun n us y hl hy => open_two Try.fields102 hl hy) hf
set_option maxRecDepth 100000 in
theorem open_pairs_arg {v : Value} {d : DataW H} {p : List MemPlace} {r : Reach} {b0 : Nat} (hval : Value.okWide Try.prog W r b0 50 v)
    (h : DataW.Trod enc Try.prog W 0 (fun _ => true) true 50 v d p) : ∃ l, IsRules Any W v l := by
  obtain ⟨a0, len, cap, rfl⟩ := okWide_slice Try.underlying50 hval
  obtain ⟨fuel, hf⟩ := h
  exact open_rows (by decide) Try.underlying50 Try.cells65 (fun n us y hl hy => open_two Try.fields65 hl hy) hf
set_option maxRecDepth 100000 in
/-- A pair that is handed in by value. -/
theorem open_pair_arg {v : Value} {d : DataW H} {p : List MemPlace} {r : Reach} {b0 : Nat} (hval : Value.okWide Try.prog W r b0 65 v)
    (h : DataW.Trod enc Try.prog W 0 (fun _ => true) true 65 v d p) : ∃ u x a b, v = .agg #[u, x] ∧ IsInts Any W u a ∧ IsInts Any W x b := by
  obtain ⟨f0, f1, h0, -⟩ := two_fields Try.fields65
  obtain ⟨cs, rfl, hcs⟩ := okWide_struct h0 hval
  obtain ⟨fuel, hf⟩ := h
  rw [Try.cells65] at hcs
  obtain ⟨l⟩ := cs
  have hl : l.length = 2 := by simpa using hcs
  have hc : (Value.agg ⟨l⟩).cells.toList = l := by simp [Value.cells]
  rw [hc] at hf
  obtain ⟨⟨a, b⟩, u, x, rfl, ha, hb⟩ := open_two Try.fields65 hl hf
  exact ⟨u, x, a, b, rfl, ha, hb⟩

end Go.Proofs.Ytepddehodmljeaa
