/- Walks: haspref.treeOf, flat. -/
import Derived.Test.YtepddehodmljeaaT7
namespace Go.Proofs.Ytepddehodmljeaa
open Go.RowKit Go.Maps

theorem treeOf_calls (x : Tm) (hx : x.ok) (v : Value) (w : World) (hv : IsInts Any w v x.flat) :
    Calls Try.prog 147 #[v] w fun e w' => ∃ p, e = .returned p ∧ IsTree (Fr w.heap.size) w' x p ∧ Below w.heap.size w w' := by
  have h := Lib.hid (grown_calls x [] hx Any v w (by rwa [List.append_nil]))
  obtain ⟨a, c, rfl⟩ := hv.isSlice
  clear hv hx
  go_enter Try.func147, Try.ntmps147
  go_wp2_with fail
  refine h.out.mono ?_
  rintro e w1 ⟨p, q, rfl, ht, -, hB⟩
  go_wp2_with fail
  go_ret
  exact ⟨_, rfl, ht, hB⟩

/-- A literal's row is the call's own. -/
theorem lit_own (w : World) (base : Nat) (xs : List Value) (e : TypeId) (hb : base ≤ w.heap.size) (hl : xs.length ≤ 1000000) :
    (w.alloc (.cells xs.toArray e)).ownsRow base e 1 (.slice (some ⟨w.heap.size, 0, none⟩) xs.length xs.length) xs.length xs :=
  ⟨by simp, .inr ⟨_, xs.length, xs.toArray, rfl, hb, Array.getElem?_push_size, Nat.le_refl _, by simp only [maxLen]; omega, by simp, by simp⟩⟩
theorem IsTree.below {S : Blk} {w w' : World} {x : Tm} {v : Value} (h : IsTree S w x v) (hb : Below w.heap.size w w') : IsTree S w' x v := h.mono (.of_below hb)
theorem IsTree.any {S : Blk} {w : World} {x : Tm} {v : Value} (h : IsTree S w x v) : IsTree Any w x v := h.mono .toAny

set_option maxRecDepth 100000 in
theorem flat_leaf (s : Int) (v : Value) (w : World) (hv : IsTree Any w (.leaf s) v) :
    Calls Try.prog 170 #[v] w fun e w' => ∃ u, e = .returned u ∧ IsInts (Fr w.heap.size) w' u (Tm.leaf s).flat ∧ Below w.heap.size w w' := by
  obtain ⟨B, rfl, -, hBl, hc0, hc1⟩ := hv
  go_enter Try.func170, Try.ntmps170
  go_wp2_with fail
  refine wp_loop_rounds 1 ?_
  rw [rounds_succ]
  go_wp2_with fail
  go_ret
  exact ⟨_, rfl, ints_lit w w.heap.size [s] 3 (Nat.le_refl _) (by simp), below_alloc _ _⟩

set_option maxRecDepth 100000 in
set_option maxHeartbeats 1000000 in
theorem flat_un (s : Int) (a : Tm) (v : Value) (w : World) (hv : IsTree Any w (.un s a) v) (hl : (Tm.un s a).flat.length ≤ 1000)
    (ih : ∀ (v : Value) (w : World), IsTree Any w a v → Calls Try.prog 170 #[v] w fun e w' => ∃ u, e = .returned u ∧ IsInts (Fr w.heap.size) w' u a.flat ∧ Below w.heap.size w w') :
    Calls Try.prog 170 #[v] w fun e w' => ∃ u, e = .returned u ∧ IsInts (Fr w.heap.size) w' u (Tm.un s a).flat ∧ Below w.heap.size w w' := by
  obtain ⟨i3, hi, hz, hsz, hby⟩ := info_parts Try.inf3
  obtain ⟨B, g, c, u, rfl, -, hBl, hc0, hc1, -, hgl, hcu, ht⟩ := hv
  have hfl : (Tm.un s a).flat = s :: a.flat := rfl
  rw [hfl] at hl ⊢
  clear hfl
  have hL : a.flat.length ≤ 1000 := by simp at hl; omega
  generalize a.flat = l at *
  have hO0 : Hid ((w.alloc (.cells #[.int .i64 s] 3)).ownsRow w.heap.size 3 1 (.slice (some ⟨w.heap.size, 0, none⟩) 1 1) [s].length ([s].map (Value.int .i64))) := lit_own w w.heap.size [.int .i64 s] 3 (Nat.le_refl _) (by simp)
  have hcall := Lib.hid (ih u (w.alloc (.cells #[.int .i64 s] 3)) (ht.below (below_alloc _ _)))
  clear ih ht hl
  go_enter Try.func170, Try.ntmps170
  go_wp2_with fail
  refine wp_loop_rounds 2 ?_
  rw [rounds_succ]
  go_wp2_with fail
  refine hcall.out.mono ?_
  rintro e w1 ⟨y, rfl, hy, hB1⟩
  obtain ⟨ya, yc, rfl⟩ := hy.isSlice
  have hY := Lib.hid hy.any
  have hO1 := Lib.hid (ownsRow_keep hO0.out fun k hk => hB1.block k (hO0.out.lt k hk).2)
  have hBw := Lib.hid (ext_trans (below_alloc w _) hB1)
  have hs1 := hB1.size
  simp only [World.size_alloc] at hs1
  clear hy hB1
  go_wp2_with (at_builtin; refine app_ints _ _ 24 rfl rfl w.heap.size i3 Try.underlying24 hi hz hsz hby hO1.out hY.out ?c1 ?c2 ?c3; rotate_left 2; intro v' w2 hown2 hb2 hg2 _)
  case c1 => simp; omega
  case c2 => omega
  have hBw2 := Lib.hid (hBw.out.trans hb2)
  have hc1' : w2.cell? ⟨B, 1, none⟩ = some (.slice (some ⟨g, 0, none⟩) 1 c) := (hBw2.out.cell (p := ⟨B, 1, none⟩) hBl).trans hc1
  have hO2 := Lib.hid hown2
  clear hown2 hb2 hg2 hc1 hc0 hcu hcall hO0 hO1 hY
  rw [rounds_succ]
  go_wp2_with fail
  go_ret
  exact ⟨_, rfl, ints_of_own hO2.out (by simp; omega), hBw2.out⟩

set_option maxRecDepth 100000 in
set_option maxHeartbeats 1000000 in
theorem flat_bin (s : Int) (a a' : Tm) (v : Value) (w : World) (hv : IsTree Any w (.bin s a a') v) (hl : (Tm.bin s a a').flat.length ≤ 1000)
    (ih : ∀ (v : Value) (w : World), IsTree Any w a v → Calls Try.prog 170 #[v] w fun e w' => ∃ u, e = .returned u ∧ IsInts (Fr w.heap.size) w' u a.flat ∧ Below w.heap.size w w')
    (ih' : ∀ (v : Value) (w : World), IsTree Any w a' v → Calls Try.prog 170 #[v] w fun e w' => ∃ u, e = .returned u ∧ IsInts (Fr w.heap.size) w' u a'.flat ∧ Below w.heap.size w w') :
    Calls Try.prog 170 #[v] w fun e w' => ∃ u, e = .returned u ∧ IsInts (Fr w.heap.size) w' u (Tm.bin s a a').flat ∧ Below w.heap.size w w' := by
  obtain ⟨i3, hi, hz, hsz, hby⟩ := info_parts Try.inf3
  obtain ⟨B, g, c, u, u', rfl, -, hBl, hc0, hc1, -, hgl, hcu, hcu', ht, ht'⟩ := hv
  have hfl : (Tm.bin s a a').flat = s :: (a.flat ++ a'.flat) := rfl
  rw [hfl] at hl ⊢
  clear hfl
  have hL : a.flat.length + a'.flat.length ≤ 1000 := by simp at hl; omega
  generalize a.flat = l at *
  generalize a'.flat = l' at *
  have hO0 : Hid ((w.alloc (.cells #[.int .i64 s] 3)).ownsRow w.heap.size 3 1 (.slice (some ⟨w.heap.size, 0, none⟩) 1 1) [s].length ([s].map (Value.int .i64))) := lit_own w w.heap.size [.int .i64 s] 3 (Nat.le_refl _) (by simp)
  have hcall := Lib.hid (ih u (w.alloc (.cells #[.int .i64 s] 3)) (ht.below (below_alloc _ _)))
  have hcall' := Lib.hid fun W (hb : Below w.heap.size w W) => ih' u' W (ht'.below hb)
  clear ih ih' ht ht' hl
  go_enter Try.func170, Try.ntmps170
  go_wp2_with fail
  refine wp_loop_rounds 3 ?_
  rw [rounds_succ]
  go_wp2_with fail
  refine hcall.out.mono ?_
  rintro e w1 ⟨y, rfl, hy, hB1⟩
  obtain ⟨ya, yc, rfl⟩ := hy.isSlice
  have hY := Lib.hid hy.any
  have hO1 := Lib.hid (ownsRow_keep hO0.out fun k hk => hB1.block k (hO0.out.lt k hk).2)
  have hBw := Lib.hid (ext_trans (below_alloc w _) hB1)
  have hs1 := hB1.size
  simp only [World.size_alloc] at hs1
  clear hy hB1
  go_wp2_with (at_builtin; refine app_ints _ _ 24 rfl rfl w.heap.size i3 Try.underlying24 hi hz hsz hby hO1.out hY.out ?c1 ?c2 ?c3; rotate_left 2; intro v' w2 hown2 hb2 hg2 _)
  case c1 => simp; omega
  case c2 => omega
  have hBw2 := Lib.hid (hBw.out.trans hb2)
  have hd1 : w2.cell? ⟨B, 1, none⟩ = some (.slice (some ⟨g, 0, none⟩) 2 c) := (hBw2.out.cell (p := ⟨B, 1, none⟩) hBl).trans hc1
  have hdu : w2.cell? ⟨g, 1, none⟩ = some u' := (hBw2.out.cell (p := ⟨g, 1, none⟩) hgl).trans hcu'
  have hO2 := Lib.hid hown2
  have hs2 := hBw2.out.size
  clear hown2 hb2 hg2 hc0 hcu hcall hO0 hO1 hY hBw hs1
  rw [rounds_succ]
  go_wp2_with fail
  refine (hcall'.out _ hBw2.out).mono ?_
  rintro e w3 ⟨y, rfl, hy, hB1⟩
  obtain ⟨ya3, yc3, rfl⟩ := hy.isSlice
  have hY := Lib.hid hy.any
  have hO3 := Lib.hid (ownsRow_keep hO2.out fun k hk => hB1.block k (hO2.out.lt k hk).2)
  have hBw3 := Lib.hid (ext_trans hBw2.out hB1)
  have hs3 := hB1.size
  clear hy hB1 hO2 hd1 hdu
  go_wp2_with (at_builtin; refine app_ints _ _ 24 rfl rfl w.heap.size i3 Try.underlying24 hi hz hsz hby hO3.out hY.out ?e1 ?e2 ?e3; rotate_left 2; intro v4 w4 hown4 hb4 hg4 _)
  case e1 => simp; omega
  case e2 => omega
  have hBw4 := Lib.hid (hBw3.out.trans hb4)
  have hd1 : w4.cell? ⟨B, 1, none⟩ = some (.slice (some ⟨g, 0, none⟩) 2 c) := (hBw4.out.cell (p := ⟨B, 1, none⟩) hBl).trans hc1
  have hO4 := Lib.hid hown4
  clear hown4 hb4 hg4 hc1 hcu' hcall' hO3 hY hBw3 hBw2
  rw [rounds_succ]
  go_wp2_with fail
  go_ret
  refine ⟨_, rfl, ?_, hBw4.out⟩
  have := ints_of_own hO4.out (by simp; omega)
  simpa using this

/-- A tree as a list of signs. -/
theorem flat_calls : ∀ (x : Tm) (v : Value) (w : World), x.flat.length ≤ 1000 → IsTree Any w x v → Calls Try.prog 170 #[v] w fun e w' => ∃ u, e = .returned u ∧ IsInts (Fr w.heap.size) w' u x.flat ∧ Below w.heap.size w w'
  | .leaf s, v, w, _, h => flat_leaf s v w h
  | .un s a, v, w, hl, h => flat_un s a v w h hl fun v w h => flat_calls a v w (by simp [Tm.flat] at hl; omega) h
  | .bin s a a', v, w, hl, h => flat_bin s a a' v w h hl (fun v w h => flat_calls a v w (by simp [Tm.flat] at hl; omega) h) fun v w h => flat_calls a' v w (by simp [Tm.flat] at hl; omega) h

end Go.Proofs.Ytepddehodmljeaa
