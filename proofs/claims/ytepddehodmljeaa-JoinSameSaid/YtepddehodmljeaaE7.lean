/- How numbers and a pair that were handed in are read; JoinTrue, JoinSame for whatever is handed in. -/
import Derived.Test.YtepddehodmljeaaE5
import Derived.Test.YtepddehodmljeaaYj
namespace Go.Proofs.Ytepddehodmljeaa
open Go.ChangeShapes Go.WideShapes Go.ChangeAt Go.RowKit

variable {H : Type} {enc : TypeId × Value → H} {W : World}
set_option maxRecDepth 100000 in
theorem open_intsb_cells {t : TypeId} {v : Value} {x : DataW H × List MemPlace} {fuel : Nat} (ht : Try.prog.underlying t = some (.slice 3)) (hv : v.cells = #[v])
    (h : DataW.trod enc Try.prog W 0 (fun _ => true) true fuel t [v] = some x) : ∃ xs, IsInts Any W v xs ∧ ∀ n ∈ xs, -9223372036854775808 ≤ n ∧ n ≤ 9223372036854775807 := by
  rcases open_ints ht Try.underlying3 Try.cells3 h with ⟨hcs, hx⟩ | ⟨a, len, cap, zs, hcs, _, hl, hm, hz, hx, hcell, hwz⟩
  · simp only [List.cons.injEq, and_true] at hcs
    subst hcs
    exact ⟨[], .nil _ _, fun n hn => by cases hn⟩
  · simp only [List.cons.injEq, and_true] at hcs
    subst hcs
    simp only [if_true] at hz
    have hm' := maxLen_le hm
    refine ⟨zs.take len, ⟨by rw [List.length_take]; omega, ?_⟩, fun n hn => wf_bounds (hwz n (List.mem_of_mem_take hn))⟩
    have hlen : (zs.take len).length = len := by rw [List.length_take]; omega
    by_cases hl0 : len = 0
    · subst hl0; exact .inl ⟨by simp, _, cap, rfl, by simp⟩
    · obtain ⟨b, off, spot⟩ := a
      have hspot : spot = none := by simpa [Addr.add] using World.cell?_spot (hcell 0 (by omega))
      subst hspot
      have hb : b < W.heap.size := World.block_lt_of_cell? _ _ (hcell 0 (by omega))
      refine .inr ⟨fun h => by rw [h] at hlen; simp at hlen; omega, b, off, cap, by rw [hlen], by omega, trivial, hb, fun j hj => ?_⟩
      rw [hlen] at hj
      have := hcell j (by omega)
      rw [add_plain] at this
      rw [this, nth_take hj]
      rfl


set_option maxRecDepth 100000 in
theorem open_intsb_arg {t : TypeId} {v : Value} {d : DataW H} {p : List MemPlace} {r : Reach} {b0 : Nat} (ht : Try.prog.underlying t = some (.slice 3)) (hval : Value.okWide Try.prog W r b0 t v)
    (h : DataW.Trod enc Try.prog W 0 (fun _ => true) true t v d p) : ∃ xs, IsInts Any W v xs ∧ ∀ n ∈ xs, -9223372036854775808 ≤ n ∧ n ≤ 9223372036854775807 := by
  obtain ⟨a0, len, cap, rfl⟩ := okWide_slice ht hval
  obtain ⟨fuel, hf⟩ := h
  exact open_intsb_cells ht rfl hf
set_option maxRecDepth 100000 in
theorem open_pair_arg2 {v : Value} {d : DataW H} {p : List MemPlace} {r : Reach} {b0 : Nat} (hval : Value.okWide Try.prog W r b0 65 v)
    (h : DataW.Trod enc Try.prog W 0 (fun _ => true) true 65 v d p) : ∃ q : Ru, ∃ u x, v = .agg #[u, x] ∧ IsInts Any W u q.1 ∧ IsInts Any W x q.2 := by
  obtain ⟨u, x, a, b, h1, h2, h3⟩ := open_pair_arg hval h
  exact ⟨(a, b), u, x, h1, h2, h3⟩

theorem JoinTrue_all (r : List Int) (l : Rus) (t q : List Int) (rv v x qv : Value) (w : World) (hr : IsInts Any w rv r) (hv : IsRules Any w v l) (hx : IsInts Any w x t) (hq : IsInts Any w qv q ∧ ∀ n ∈ q, -9223372036854775808 ≤ n ∧ n ≤ 9223372036854775807) :
    Calls Try.prog 29 #[rv, v, x, qv] w fun e w' => e = .returned (.bool true) ∧ Below w.heap.size w w' := JoinTrue_calls r l t q rv v x qv w hr hv hx hq.1 hq.2
theorem JoinSame_all (r : List Int) (l : Rus) (p : Ru) (s : List (List Int)) (rv v pv sv : Value) (w : World) (hr : IsInts Any w rv r) (hv : IsRules Any w v l) (hp : ∃ u x, pv = .agg #[u, x] ∧ IsInts Any w u p.1 ∧ IsInts Any w x p.2) (hs : IsTerms Any w sv s) :
    Calls Try.prog 32 #[rv, v, pv, sv] w fun e w' => e = .returned (.bool true) ∧ Below w.heap.size w w' := by
  obtain ⟨u, x, rfl, hu, hx⟩ := hp
  exact JoinSame_calls r l p s rv v u x sv w hr hv hu hx hs

end Go.Proofs.Ytepddehodmljeaa
