/- Walks: slices.Grow of nil. -/
import Derived.Test.YtepddehodmljeaaT1
import Derived.Lib.AppendZerosOnto
namespace Go.Proofs.Ytepddehodmljeaa
open Go.RowKit Go.Maps

set_option maxRecDepth 100000 in
theorem Grow_calls (n : Nat) (hn : n ≤ 1000) (w : World) :
    Calls Try.prog 197 #[.slice none 0 0, .int .i64 n] w fun e w' => ∃ v, e = .returned v ∧ w'.ownsRow w.heap.size 3 1 v 0 [] ∧ Below w.heap.size w w' := by
  obtain ⟨i3, hi, hz, hsz, hby⟩ := info_parts Try.inf3
  have h1 : ¬ ((n : Int) < 0) := by omega
  by_cases h0 : n = 0
  · subst h0
    go_enter Try.func197, Try.ntmps197
    go_wp2_with fail
    go_ret
    exact ⟨_, rfl, World.ownsRow_nil _ _ _ _, .refl _ _⟩
  · have h2 : (0 : Int) < n := by omega
    have hnc : Builtin.nextslicecap (0 + n) 0 = 0 + n := nextslicecap_zero (by omega)
    have hrz : ∀ ty, (Builtin.append_ #[24, 3] ty #[.slice none 0 0, .int .i64 (n : Int)]).run Try.prog w =
        .ok (.slice (some ⟨w.heap.size, 0, none⟩) n (grownCap w n 0 3)) (w.drew.alloc (.cells (Builtin.zeroCells (Value.int .i64 0).cells n ++ Builtin.zeroCells (Value.int .i64 0).cells (grownCap w n 0 3 - n)) 3)) := by
      intro ty
      have := Lib.run_append_grow_zeros (P := Try.prog) w 24 3 ty 3 i3 (.int .i64 0) .i64 .i64 Try.underlying24 Try.underlying3 hi hz none 0 0 [] (run_firstCells_none w.drew i3.size 0 0 0) n (by omega) (by rw [hsz]; decide) (by omega) (by omega) (by rw [hby]; omega) (by rw [hnc, hby]; omega)
      simpa using this
    have hge := grownCap_ge w n 0 3
    have hle := grownCap_le_maxLen w n 0 3 (by simp only [maxLen]; omega)
    obtain ⟨G, hG⟩ : ∃ G, G = grownCap w n 0 3 := ⟨_, rfl⟩
    rw [← hG] at hrz hge hle
    clear hG hnc
    have hG63 : G ≤ 9223372036854775807 := by unfold maxLen at hle; omega
    have hO : Hid ((w.drew.alloc (.cells (Builtin.zeroCells (Value.int .i64 0).cells n ++ Builtin.zeroCells (Value.int .i64 0).cells (G - n)) 3)).ownsRow w.heap.size 3 1 (.slice (some ⟨w.heap.size, 0, none⟩) 0 G) 0 []) := by
      refine World.ownsRow_made w.drew _ _ (Nat.le_refl _) hle ?_
      simp [size_zeroCells, Value.cells]
      omega
    go_enter Try.func197, Try.ntmps197
    go_wp2_with (at_builtin; refine Lib.wpList_append_run _ rfl _ _ _ _ rfl _ _ rfl rfl _ _ (hrz _) ?_)
    go_ret
    exact ⟨_, rfl, hO.out, ext_alloc (a := w) (b := w.drewN 1) (below_drewN _ w 1) _⟩

end Go.Proofs.Ytepddehodmljeaa
