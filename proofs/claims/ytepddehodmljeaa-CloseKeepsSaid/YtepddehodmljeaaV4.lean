/- Walks: world, NormModel. -/
import Derived.Test.YtepddehodmljeaaV3
import Derived.Test.YtepddehodmljeaaN4
import Derived.Test.YtepddehodmljeaaF5
import Derived.StillTailTactics
namespace Go
theorem wpList_load_row_g {P : Program} {ops : Array Oper} {rest : List Oper} {o : Oper} {a : Act} {w : World} {Q : Exit → Act → World → Prop} (hgd : Region.wanted o (yielded ops a.tmps) = true) (ty : TypeId) (x : Operand) (ho : o.op = .load ty x)
    (g : Nat) (hx : a.eval x = .pointer (some ⟨g, 0, none⟩)) (t : TypeId) (cs : Array Value) (fr : Nat × Nat) (d : TypeDesc) (hg : w.heap[g]? = some (.cells cs t fr))
    (hu : P.underlying ty = some d) (hd : (match d with | .struct _ | .array _ _ => true | _ => false) = true) (hi : (P.info? ty).map (·.size) = some cs.size)
    (h : wpList P ops Q rest (a.put o.dst (.agg cs)) w) : wpList P ops Q (o :: rest) a w :=
  wpList_step fun _ hK => by
    rw [if_pos hgd]
    exact wp_load_row ty x ho g hx t cs fr d hg hu hd hi (hK _ _ h)

theorem wpStill_load_row {P : Program} {ops : Array Oper} {w : World} {Q : Act → Prop} {rest : List Oper} {o : Oper} {a : Act} (hgd : o.guard = none) (ty : TypeId) (x : Operand) (ho : o.op = .load ty x)
    (g : Nat) (hx : a.eval x = .pointer (some ⟨g, 0, none⟩)) (t : TypeId) (cs : Array Value) (fr : Nat × Nat) (d : TypeDesc) (hg : w.heap[g]? = some (.cells cs t fr))
    (hu : P.underlying ty = some d) (hd : (match d with | .struct _ | .array _ _ => true | _ => false) = true) (hi : (P.info? ty).map (·.size) = some cs.size)
    (h : wpStill P ops w Q rest (a.put o.dst (.agg cs))) : wpStill P ops w Q (o :: rest) a := by
  refine wpStill_step fun K hK => ?_
  rw [if_pos (by simp [Region.wanted, hgd])]
  unfold Oper.still execOp
  simp only [ho, hx, Instr.loadAt, Instr.sureAddr, Sem.run_bind, Sem.run_pure, Result.andThen_ok, run_loadVar_row w g t ty cs fr d hg hu hd hi]
  exact ⟨rfl, hK _ h⟩
end Go
namespace Go.Proofs.Ytepddehodmljeaa
open Go.RowKit Go.Maps

def worK (m : List Int) (l : Rus) (k : Nat) : Bool := decide (∀ j, j < k → holB m (nthR l j).1 (nthR l j).2 = true)
theorem worK_all (m : List Int) (l : Rus) : worB m l = decide (∀ j, j < l.length → holB m (nthR l j).1 (nthR l j).2 = true) := by
  unfold worB
  rw [Bool.eq_iff_iff, List.all_eq_true, decide_eq_true_iff]
  constructor
  · exact fun h j hj => h _ (nthR_mem hj)
  · intro h p hp
    obtain ⟨j, hj, rfl⟩ := List.getElem_of_mem hp
    have := h j hj
    rwa [nthR_eq hj] at this

set_option maxRecDepth 100000 in
set_option maxHeartbeats 2000000 in
theorem world_calls (m : List Int) (mv : Array Value) (hm : IsMod m mv) (l : Rus) (hl : Rul l) (v : Value) (w : World) (hv : IsRules Any w v l) :
    Calls Try.prog 64 #[.agg mv, v] w fun e w' => e = .returned (.bool (worB m l)) ∧ Below w.heap.size w w' := by
  obtain ⟨a, c, rfl⟩ := hv.isSlice
  have HV := Lib.hid hv
  have HBX := Lib.hid (below_alloc w (.cells mv 57))
  have hblk : Hid (∀ W, Below (w.alloc (.cells mv 57)).heap.size (w.alloc (.cells mv 57)) W → W.heap[w.heap.size]? = some (.cells mv 57 (0, 0))) := fun W hW => by
    rw [hW.block _ (by simp)]
    exact heap_alloc_new _ _
  have h57 : (Try.prog.info? 57).map (·.size) = some mv.size := by rw [hm.size]; kernel_rfl
  have hH := Lib.hid fun n (hn : n < l.length) u x W (hu : IsInts Any W u (nthR l n).1) (hx : IsInts Any W x (nthR l n).2) => holds_calls m mv hm _ _ (ruleE_chk (hl.2 _ (nthR_mem hn))).1 (ruleE_chk (hl.2 _ (nthR_mem hn))).2 u x W hu hx
  have hll : (l.length : Int) ≤ 8 := by have := hl.1; omega
  rw [worK_all]
  clear hv hl hm
  go_enter Try.func64, Try.ntmps64
  go_wp2_with fail
  go_loopw [5] (fun i wr => ∃ k : Nat, k ≤ l.length ∧ i = .int .i64 k ∧ Hid (Below (w.alloc (.cells mv 57)).heap.size (w.alloc (.cells mv 57)) wr ∧ ∀ j, j < k → holB m (nthR l j).1 (nthR l j).2 = true)) (fun i _ => l.length - (intOf i).toNat)
  case atStart => exact ⟨0, Nat.zero_le _, rfl, .refl _ _, fun _ h => by omega⟩
  case round =>
    obtain ⟨n, hn, rfl, hR⟩ := hrel
    by_cases hlt : n < l.length
    · obtain ⟨b, o, c, u, x, e1, -, hcu, hcx, hu, hx⟩ := rule_cell (HV.out.below RuleR.ok (ext_trans HBX.out hR.out.1)) hlt
      cases e1
      have hii : (n : Int) < l.length := by omega
      have hg : (wr.drewN 1).heap[w.heap.size]? = some (.cells mv 57 (0, 0)) := hblk.out wr hR.out.1
      have hC := Lib.hid (hH.out n hlt u x (wr.drewN 1) (hu.below (below_drewN _ _ _)) (hx.below (below_drewN _ _ _)))
      have hcu1 : (wr.drewN 1).cell? ⟨b, o + n * 2, none⟩ = some u := hcu
      have hcx1 : (wr.drewN 1).cell? ⟨b, o + n * 2 + 1, none⟩ = some x := hcx
      clear hu hx
      go_wp2_with fail
      refine wp_region_still_tail 11 (by kernel_rfl) (by kernel_rfl) ?_
      simp only [List.take_succ_cons, List.take_zero, List.drop_succ_cons, List.drop_zero]
      refine wpStill_load_row rfl 57 _ rfl w.heap.size rfl 57 mv (0, 0) _ hg Try.underlying57 rfl h57 ?_
      repeat still_step
      refine wpStill_nil ?_
      change wpList _ _ _ _ _ (wr.drewN 1)
      by_cases hb : holB m (nthR l n).1 (nthR l n).2 = true
      · have hN := Lib.hid hb
        rw [hb] at hC
        clear hb
        go_wp2_with fail
        refine hC.out.mono ?_
        rintro e w2 ⟨rfl, hB2⟩
        go_wp2_with fail
        go_roundw
        case rel =>
          refine ⟨n + 1, by omega, by go_num, ext_trans (ext_trans hR.out.1 (below_drewN _ wr 1)) hB2, fun j hj => ?_⟩
          by_cases e : j = n
          · rw [e]; exact hN.out
          · exact hR.out.2 j (by omega)
        case measure => simp [intOf]; omega
      · have hN := Lib.hid hb
        rw [Bool.not_eq_true] at hb
        rw [hb] at hC
        clear hb
        go_wp2_with fail
        refine hC.out.mono ?_
        rintro e w2 ⟨rfl, hB2⟩
        go_wp2_with fail
        go_ret
        refine ⟨?_, ext_trans HBX.out (ext_trans (ext_trans hR.out.1 (below_drewN _ wr 1)) hB2)⟩
        exact congrArg (fun c => Ending.returned (.bool c)) (decide_eq_false fun h => hN.out (h n hlt)).symm
    · obtain rfl : n = l.length := by omega
      go_wp2_with fail
      go_ret
      refine ⟨?_, ext_trans HBX.out hR.out.1⟩
      exact congrArg (fun c => Ending.returned (.bool c)) (decide_eq_true fun j hj => hR.out.2 j hj).symm

end Go.Proofs.Ytepddehodmljeaa
