/- Base: a store into a box of the call's own (any cells). -/
import Derived.Test.YtepddehodmljeaaA3
namespace Go.Proofs.Ytepddehodmljeaa
open Go.RowKit Go.Maps

/-- A store into cells of the call's own, seen as a row of one-cell elements. -/
theorem store_own {P : Program} {w : World} {ops : Array Oper} {rest : List Oper} {o : Oper} {a : Act} {Q : Exit → Act → World → Prop} (p x : Operand) (t : TypeId) (hgd : o.guard = none) (hd : o.dst = none) (ho : o.op = Op.store t p x)
    (i : TypeInfo) (hi : P.info? t = some i) (hsize : i.size = 1)
    (base : Nat) (e : TypeId) (g k n c : Nat) (xs : List Value) (hp : a.eval p = .pointer (some ⟨g, k, none⟩)) (hown : w.ownsRow base e 1 (.slice (some ⟨g, 0, none⟩) n c) n xs) (hk : k < n)
    (h1 : (a.eval x).oneCell' = true)
    (h : ∀ w', w'.ownsRow base e 1 (.slice (some ⟨g, 0, none⟩) n c) n (xs.set k (a.eval x)) → w.grownBy w' (some g) → w'.heap.size = w.heap.size → wpList P ops Q rest a w') :
    wpList P ops Q (o :: rest) a w := by
  refine wpList_plain hgd fun K hK' => ?_
  have hl : xs.length = n := by have := hown.1; omega
  have hcu : w.cell? ⟨g, k, none⟩ = some xs[k] := by rw [hown.cellAt k (by omega), List.getElem?_eq_getElem (by omega)]
  have hfr := hown.frozenAt k
  have hcells : (a.eval x).cells = #[a.eval x] := by cases hx : a.eval x <;> simp_all [Value.cells, Value.oneCell']
  have hrun : (Instr.storeAt t (a.eval p) (a.eval x)).run P w = .ok () (w.setCell ⟨g, k, none⟩ (a.eval x)) := by
    have ha : ({ block := g, off := k } : Addr).add 0 = ⟨g, k, none⟩ := rfl
    simp [Instr.storeAt, Instr.sureAddr, hp, storeVar, sizeOf, typeInfo, hi, hsize, hcells, storeCells, run_store, h1, ha, hcu, hfr]
  unfold Oper.wp
  simp only [execOp, ho, Sem.run_bind, Sem.run_pure, Result.andThen_ok, hrun, Oper.upon_skip, hd, Act.put]
  have hst := hown.stored k (a.eval x)
  exact hK' _ _ (h _ hst.1 hst.2 (by simp))

end Go.Proofs.Ytepddehodmljeaa
