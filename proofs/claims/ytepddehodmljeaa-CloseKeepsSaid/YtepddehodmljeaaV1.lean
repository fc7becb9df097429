/- Walks: valued. -/
import Derived.Test.YtepddehodmljeaaPv
import Derived.Laws.Rows
namespace Go.Proofs.Ytepddehodmljeaa
open Go.RowKit Go.Maps

/-- A world of three things and what its variables are, as the code holds them. -/
structure IsMod (m : List Int) (mv : Array Value) : Prop where
  size : mv.size = 26
  get : ∀ i, i < 26 → mv[i]? = some (.int .i64 (nth m i))
  lo : ∀ i, i < 26 → -9223372036854775808 ≤ nth m i
  hi : ∀ i, i < 26 → nth m i ≤ 9223372036854775807
structure IsVars (ρ : Int → Nat) (rv : Array Value) : Prop where
  size : rv.size = 8
  get : ∀ i, i < 8 → rv[i]? = some (.int .i64 (ρ (-1 - (i : Int))))
  lt : Thg ρ

/-- The boxes of valued. -/
def boxW (w : World) (mv rv : Array Value) : World := (w.alloc (.cells mv 57)).alloc (.cells rv 146)
theorem boxW_mod (w : World) (mv rv : Array Value) : (boxW w mv rv).heap[w.heap.size]? = some (.cells mv 57 (0, 0)) := by
  rw [boxW, heap_alloc_old, heap_alloc_new]
  simp
theorem boxW_vars (w : World) (mv rv : Array Value) : (boxW w mv rv).heap[w.heap.size + 1]? = some (.cells rv 146 (0, 0)) := by
  have := heap_alloc_new (w.alloc (.cells mv 57)) (.cells rv 146)
  simpa [boxW] using this
theorem boxW_below (w : World) (mv rv : Array Value) : Below w.heap.size w (boxW w mv rv) := ext_alloc (below_alloc w _) _
theorem boxW_cell {w W : World} {mv rv : Array Value} (h : Below (boxW w mv rv).heap.size (boxW w mv rv) W) (i : Nat) : W.cell? ⟨w.heap.size, i, none⟩ = mv[i]? := by
  rw [h.cell (p := ⟨w.heap.size, i, none⟩) (by simp [boxW]; omega), boxW, World.cell?_alloc_past _ _ _ (by simp), World.cell?_alloc_at _ _ _ _ rfl]
theorem boxW_two {w W : World} {mv rv : Array Value} (h : Below (boxW w mv rv).heap.size (boxW w mv rv) W) : W.heap[w.heap.size]? = some (.cells mv 57 (0, 0)) ∧ W.heap[w.heap.size + 1]? = some (.cells rv 146 (0, 0)) := by
  rw [h.block _ (by simp [boxW]; omega), h.block _ (by simp [boxW])]
  exact ⟨boxW_mod w mv rv, boxW_vars w mv rv⟩
theorem chs_nat (c : Int) : ((chs c 3).toNat : Int) = chs c 3 := Int.toNat_of_nonneg (chs_lt (by omega)).1

set_option maxRecDepth 100000 in
theorem valued_var (m : List Int) (ρ : Int → Nat) (mv rv : Array Value) (_ : IsMod m mv) (hr : IsVars ρ rv) (t : List Int) (v : Value) (k : Nat) (hk : k < t.length) (w : World) (hv : IsInts Any w v t) (hl : t.length ≤ 30) (hn : nth t k < 0) (hn8 : -8 ≤ nth t k) :
    Calls Try.prog 134 #[.agg mv, v, .int .i64 k, .agg rv] w fun e w' => e = .returned (.tuple #[.int .i64 (ρ (nth t k)), .int .i64 (k + 1)]) ∧ Below w.heap.size w w' := by
  obtain ⟨b, o, c, rfl⟩ := hv.cells (by intro h; rw [h] at hk; simp at hk)
  have hcell := hv.cell hk
  have hlt := World.block_lt_of_cell? _ _ hcell
  have hkk : (k : Int) < t.length := by omega
  have hkl : (k : Int) < 30 := by omega
  have hc2 := hr.get ((-nth t k).toNat - 1) (by omega)
  rw [show -1 - ((((-nth t k).toNat - 1 : Nat)) : Int) = nth t k by omega] at hc2
  generalize nth t k = s at *
  have hB := Lib.hid (boxW_below w mv rv)
  clear hv
  go_enter Try.func134, Try.ntmps134
  go_wp2_with fail
  go_ret2
  exact ⟨rfl, hB.out⟩

set_option maxRecDepth 100000 in
theorem valued_con0 (m : List Int) (ρ : Int → Nat) (mv rv : Array Value) (hm : IsMod m mv) (_ : IsVars ρ rv) (t : List Int) (v : Value) (k : Nat) (hk : k < t.length) (w : World) (hv : IsInts Any w v t) (hl : t.length ≤ 30) (hn : nth t k = 0) :
    Calls Try.prog 134 #[.agg mv, v, .int .i64 k, .agg rv] w fun e w' => e = .returned (.tuple #[.int .i64 ((chs (nth m 0) 3).toNat : Nat), .int .i64 (k + 1)]) ∧ Below w.heap.size w w' := by
  obtain ⟨b, o, c, rfl⟩ := hv.cells (by intro h; rw [h] at hk; simp at hk)
  have hcell := hv.cell hk
  have hlt := World.block_lt_of_cell? _ _ hcell
  have hkk : (k : Int) < t.length := by omega
  have hkl : (k : Int) < 30 := by omega
  rw [hn] at hcell
  have hc2 := hm.get 0 (by omega)
  have hlo := hm.lo 0 (by omega)
  have hhi := hm.hi 0 (by omega)
  have hB := Lib.hid (boxW_below w mv rv)
  have hC := Lib.hid (choose_calls (nth m 0) 3 (by omega) hlo hhi (boxW w mv rv))
  rw [chs_nat]
  clear hv hn
  go_enter Try.func134, Try.ntmps134
  go_wp2_with fail
  refine hC.out.mono ?_
  rintro e w1 ⟨rfl, rfl⟩
  go_wp2_with fail
  go_ret2
  exact ⟨rfl, hB.out⟩

set_option maxRecDepth 100000 in
theorem valued_con1 (m : List Int) (ρ : Int → Nat) (mv rv : Array Value) (hm : IsMod m mv) (_ : IsVars ρ rv) (t : List Int) (v : Value) (k : Nat) (hk : k < t.length) (w : World) (hv : IsInts Any w v t) (hl : t.length ≤ 30) (hn : nth t k = 1) :
    Calls Try.prog 134 #[.agg mv, v, .int .i64 k, .agg rv] w fun e w' => e = .returned (.tuple #[.int .i64 ((chs (nth m 1) 3).toNat : Nat), .int .i64 (k + 1)]) ∧ Below w.heap.size w w' := by
  obtain ⟨b, o, c, rfl⟩ := hv.cells (by intro h; rw [h] at hk; simp at hk)
  have hcell := hv.cell hk
  have hlt := World.block_lt_of_cell? _ _ hcell
  have hkk : (k : Int) < t.length := by omega
  have hkl : (k : Int) < 30 := by omega
  rw [hn] at hcell
  have hc2 := hm.get 1 (by omega)
  have hlo := hm.lo 1 (by omega)
  have hhi := hm.hi 1 (by omega)
  have hB := Lib.hid (boxW_below w mv rv)
  have hC := Lib.hid (choose_calls (nth m 1) 3 (by omega) hlo hhi (boxW w mv rv))
  rw [chs_nat]
  clear hv hn
  go_enter Try.func134, Try.ntmps134
  go_wp2_with fail
  refine hC.out.mono ?_
  rintro e w1 ⟨rfl, rfl⟩
  go_wp2_with fail
  go_ret2
  exact ⟨rfl, hB.out⟩

set_option maxRecDepth 100000 in
theorem valued_un2 (m : List Int) (ρ : Int → Nat) (mv rv : Array Value) (hm : IsMod m mv) (hr : IsVars ρ rv) (t : List Int) (v : Value) (k : Nat) (hk : k < t.length) (w : World) (hv : IsInts Any w v t) (hl : t.length ≤ 30) (hn : nth t k = 2) (x : Nat) (hx : x < 3) (K : Nat) (ih : ∀ W, Below w.heap.size w W → Calls Try.prog 134 #[.agg mv, v, .int .i64 (k + 1), .agg rv] W fun e w' => e = .returned (.tuple #[.int .i64 (x : Nat), .int .i64 (K : Nat)]) ∧ Below W.heap.size W w') :
    Calls Try.prog 134 #[.agg mv, v, .int .i64 k, .agg rv] w fun e w' => e = .returned (.tuple #[.int .i64 ((chs (nth m (2 + x)) 3).toNat : Nat), .int .i64 K]) ∧ Below w.heap.size w w' := by
  obtain ⟨b, o, c, rfl⟩ := hv.cells (by intro h; rw [h] at hk; simp at hk)
  have hcell := hv.cell hk
  have hlt := World.block_lt_of_cell? _ _ hcell
  have hkk : (k : Int) < t.length := by omega
  have hkl : (k : Int) < 30 := by omega
  rw [hn] at hcell
  have hB := Lib.hid (boxW_below w mv rv)
  have hI := Lib.hid (ih _ hB.out)
  have h57 : (Try.prog.info? 57).map (·.size) = some mv.size := by rw [hm.size]; kernel_rfl
  have h146 : (Try.prog.info? 146).map (·.size) = some rv.size := by rw [hr.size]; kernel_rfl
  have hg1 := boxW_mod w mv rv
  have hg2 := boxW_vars w mv rv
  rw [chs_nat]
  have hc0 := hm.get (2 + x) (by omega)
  have hlo := hm.lo (2 + x) (by omega)
  have hhi := hm.hi (2 + x) (by omega)
  generalize nth m (2 + x) = y at *
  have hCC := Lib.hid (choose_calls y 3 (by omega) hlo hhi)
  have HC0 := Lib.hid hc0
  clear hv hn ih hlo hhi hc0
  go_enter Try.func134, Try.ntmps134
  go_wp2_with (first | (refine wpList_load_row rfl 57 _ rfl w.heap.size rfl 57 mv (0, 0) _ hg1 Try.underlying57 rfl h57 ?_) | (refine wpList_load_row rfl 146 _ rfl (w.heap.size + 1) rfl 146 rv (0, 0) _ hg2 Try.underlying146 rfl h146 ?_))
  refine hI.out.mono ?_
  rintro e w1 ⟨rfl, hB1⟩
  have hc2 := (boxW_cell hB1 (2 + x)).trans HC0.out
  have hxx : (x : Int) < 3 := by omega
  clear hg1 hg2 h57 h146 hI HC0
  have hC := Lib.hid (hCC.out w1)
  go_wp2_with fail
  refine hC.out.mono ?_
  rintro e w2 ⟨rfl, rfl⟩
  go_wp2_with fail
  go_ret2
  exact ⟨rfl, ext_trans hB.out hB1⟩

set_option maxRecDepth 100000 in
theorem valued_un3 (m : List Int) (ρ : Int → Nat) (mv rv : Array Value) (hm : IsMod m mv) (hr : IsVars ρ rv) (t : List Int) (v : Value) (k : Nat) (hk : k < t.length) (w : World) (hv : IsInts Any w v t) (hl : t.length ≤ 30) (hn : nth t k = 3) (x : Nat) (hx : x < 3) (K : Nat) (ih : ∀ W, Below w.heap.size w W → Calls Try.prog 134 #[.agg mv, v, .int .i64 (k + 1), .agg rv] W fun e w' => e = .returned (.tuple #[.int .i64 (x : Nat), .int .i64 (K : Nat)]) ∧ Below W.heap.size W w') :
    Calls Try.prog 134 #[.agg mv, v, .int .i64 k, .agg rv] w fun e w' => e = .returned (.tuple #[.int .i64 ((chs (nth m (5 + x)) 3).toNat : Nat), .int .i64 K]) ∧ Below w.heap.size w w' := by
  obtain ⟨b, o, c, rfl⟩ := hv.cells (by intro h; rw [h] at hk; simp at hk)
  have hcell := hv.cell hk
  have hlt := World.block_lt_of_cell? _ _ hcell
  have hkk : (k : Int) < t.length := by omega
  have hkl : (k : Int) < 30 := by omega
  rw [hn] at hcell
  have hB := Lib.hid (boxW_below w mv rv)
  have hI := Lib.hid (ih _ hB.out)
  have h57 : (Try.prog.info? 57).map (·.size) = some mv.size := by rw [hm.size]; kernel_rfl
  have h146 : (Try.prog.info? 146).map (·.size) = some rv.size := by rw [hr.size]; kernel_rfl
  have hg1 := boxW_mod w mv rv
  have hg2 := boxW_vars w mv rv
  rw [chs_nat]
  have hc0 := hm.get (5 + x) (by omega)
  have hlo := hm.lo (5 + x) (by omega)
  have hhi := hm.hi (5 + x) (by omega)
  generalize nth m (5 + x) = y at *
  have hCC := Lib.hid (choose_calls y 3 (by omega) hlo hhi)
  have HC0 := Lib.hid hc0
  clear hv hn ih hlo hhi hc0
  go_enter Try.func134, Try.ntmps134
  go_wp2_with (first | (refine wpList_load_row rfl 57 _ rfl w.heap.size rfl 57 mv (0, 0) _ hg1 Try.underlying57 rfl h57 ?_) | (refine wpList_load_row rfl 146 _ rfl (w.heap.size + 1) rfl 146 rv (0, 0) _ hg2 Try.underlying146 rfl h146 ?_))
  refine hI.out.mono ?_
  rintro e w1 ⟨rfl, hB1⟩
  have hc2 := (boxW_cell hB1 (5 + x)).trans HC0.out
  have hxx : (x : Int) < 3 := by omega
  clear hg1 hg2 h57 h146 hI HC0
  have hC := Lib.hid (hCC.out w1)
  go_wp2_with fail
  refine hC.out.mono ?_
  rintro e w2 ⟨rfl, rfl⟩
  go_wp2_with fail
  go_ret2
  exact ⟨rfl, ext_trans hB.out hB1⟩

set_option maxRecDepth 100000 in
theorem valued_bin4 (m : List Int) (ρ : Int → Nat) (mv rv : Array Value) (hm : IsMod m mv) (hr : IsVars ρ rv) (t : List Int) (v : Value) (k : Nat) (hk : k < t.length) (w : World) (hv : IsInts Any w v t) (hl : t.length ≤ 30) (hn : nth t k = 4) (x y : Nat) (hx : x < 3) (hy : y < 3) (K L : Nat) (ih : ∀ W, Below w.heap.size w W → Calls Try.prog 134 #[.agg mv, v, .int .i64 (k + 1), .agg rv] W fun e w' => e = .returned (.tuple #[.int .i64 (x : Nat), .int .i64 (K : Nat)]) ∧ Below W.heap.size W w') (ih2 : ∀ W, Below w.heap.size w W → Calls Try.prog 134 #[.agg mv, v, .int .i64 K, .agg rv] W fun e w' => e = .returned (.tuple #[.int .i64 (y : Nat), .int .i64 (L : Nat)]) ∧ Below W.heap.size W w') :
    Calls Try.prog 134 #[.agg mv, v, .int .i64 k, .agg rv] w fun e w' => e = .returned (.tuple #[.int .i64 ((chs (nth m (8 + 3 * x + y)) 3).toNat : Nat), .int .i64 L]) ∧ Below w.heap.size w w' := by
  obtain ⟨b, o, c, rfl⟩ := hv.cells (by intro h; rw [h] at hk; simp at hk)
  have hcell := hv.cell hk
  have hlt := World.block_lt_of_cell? _ _ hcell
  have hkk : (k : Int) < t.length := by omega
  have hkl : (k : Int) < 30 := by omega
  rw [hn] at hcell
  have hB := Lib.hid (boxW_below w mv rv)
  have hI := Lib.hid (ih _ hB.out)
  have h57 : (Try.prog.info? 57).map (·.size) = some mv.size := by rw [hm.size]; kernel_rfl
  have h146 : (Try.prog.info? 146).map (·.size) = some rv.size := by rw [hr.size]; kernel_rfl
  have hg1 := boxW_mod w mv rv
  have hg2 := boxW_vars w mv rv
  rw [chs_nat]
  have hI2 := Lib.hid ih2
  have hc0 := hm.get (8 + 3 * x + y) (by omega)
  have hlo := hm.lo (8 + 3 * x + y) (by omega)
  have hhi := hm.hi (8 + 3 * x + y) (by omega)
  generalize nth m (8 + 3 * x + y) = z at *
  have hCC := Lib.hid (choose_calls z 3 (by omega) hlo hhi)
  rw [show 8 + 3 * x + y = 8 + x * 3 + y by omega] at hc0
  have HC0 := Lib.hid hc0
  clear hv hn ih ih2 hlo hhi hc0
  go_enter Try.func134, Try.ntmps134
  go_wp2_with (first | (refine wpList_load_row rfl 57 _ rfl w.heap.size rfl 57 mv (0, 0) _ hg1 Try.underlying57 rfl h57 ?_) | (refine wpList_load_row rfl 146 _ rfl (w.heap.size + 1) rfl 146 rv (0, 0) _ hg2 Try.underlying146 rfl h146 ?_))
  refine hI.out.mono ?_
  rintro e w1 ⟨rfl, hB1⟩
  obtain ⟨hg3, hg4⟩ := boxW_two hB1
  have hI3 := Lib.hid (hI2.out w1 (ext_trans hB.out hB1))
  clear hg1 hg2 hI hI2
  go_wp2_with (first | (refine wpList_load_row rfl 57 _ rfl w.heap.size rfl 57 mv (0, 0) _ hg3 Try.underlying57 rfl h57 ?_) | (refine wpList_load_row rfl 146 _ rfl (w.heap.size + 1) rfl 146 rv (0, 0) _ hg4 Try.underlying146 rfl h146 ?_))
  refine hI3.out.mono ?_
  rintro e w2 ⟨rfl, hB2⟩
  have hB12 := ext_trans hB1 hB2
  have hc2 := (boxW_cell hB12 (8 + x * 3 + y)).trans HC0.out
  have hxx : (x : Int) < 3 := by omega
  have hyy : (y : Int) < 3 := by omega
  have hC := Lib.hid (hCC.out w2)
  clear hg3 hg4 h57 h146 hI3
  go_wp2_with fail
  refine hC.out.mono ?_
  rintro e w3 ⟨rfl, rfl⟩
  go_wp2_with fail
  go_ret2
  exact ⟨rfl, ext_trans hB.out hB12⟩

set_option maxRecDepth 100000 in
theorem valued_bin5 (m : List Int) (ρ : Int → Nat) (mv rv : Array Value) (hm : IsMod m mv) (hr : IsVars ρ rv) (t : List Int) (v : Value) (k : Nat) (hk : k < t.length) (w : World) (hv : IsInts Any w v t) (hl : t.length ≤ 30) (hn : nth t k = 5) (x y : Nat) (hx : x < 3) (hy : y < 3) (K L : Nat) (ih : ∀ W, Below w.heap.size w W → Calls Try.prog 134 #[.agg mv, v, .int .i64 (k + 1), .agg rv] W fun e w' => e = .returned (.tuple #[.int .i64 (x : Nat), .int .i64 (K : Nat)]) ∧ Below W.heap.size W w') (ih2 : ∀ W, Below w.heap.size w W → Calls Try.prog 134 #[.agg mv, v, .int .i64 K, .agg rv] W fun e w' => e = .returned (.tuple #[.int .i64 (y : Nat), .int .i64 (L : Nat)]) ∧ Below W.heap.size W w') :
    Calls Try.prog 134 #[.agg mv, v, .int .i64 k, .agg rv] w fun e w' => e = .returned (.tuple #[.int .i64 ((chs (nth m (17 + 3 * x + y)) 3).toNat : Nat), .int .i64 L]) ∧ Below w.heap.size w w' := by
  obtain ⟨b, o, c, rfl⟩ := hv.cells (by intro h; rw [h] at hk; simp at hk)
  have hcell := hv.cell hk
  have hlt := World.block_lt_of_cell? _ _ hcell
  have hkk : (k : Int) < t.length := by omega
  have hkl : (k : Int) < 30 := by omega
  rw [hn] at hcell
  have hB := Lib.hid (boxW_below w mv rv)
  have hI := Lib.hid (ih _ hB.out)
  have h57 : (Try.prog.info? 57).map (·.size) = some mv.size := by rw [hm.size]; kernel_rfl
  have h146 : (Try.prog.info? 146).map (·.size) = some rv.size := by rw [hr.size]; kernel_rfl
  have hg1 := boxW_mod w mv rv
  have hg2 := boxW_vars w mv rv
  rw [chs_nat]
  have hI2 := Lib.hid ih2
  have hc0 := hm.get (17 + 3 * x + y) (by omega)
  have hlo := hm.lo (17 + 3 * x + y) (by omega)
  have hhi := hm.hi (17 + 3 * x + y) (by omega)
  generalize nth m (17 + 3 * x + y) = z at *
  have hCC := Lib.hid (choose_calls z 3 (by omega) hlo hhi)
  rw [show 17 + 3 * x + y = 17 + x * 3 + y by omega] at hc0
  have HC0 := Lib.hid hc0
  clear hv hn ih ih2 hlo hhi hc0
  go_enter Try.func134, Try.ntmps134
  go_wp2_with (first | (refine wpList_load_row rfl 57 _ rfl w.heap.size rfl 57 mv (0, 0) _ hg1 Try.underlying57 rfl h57 ?_) | (refine wpList_load_row rfl 146 _ rfl (w.heap.size + 1) rfl 146 rv (0, 0) _ hg2 Try.underlying146 rfl h146 ?_))
  refine hI.out.mono ?_
  rintro e w1 ⟨rfl, hB1⟩
  obtain ⟨hg3, hg4⟩ := boxW_two hB1
  have hI3 := Lib.hid (hI2.out w1 (ext_trans hB.out hB1))
  clear hg1 hg2 hI hI2
  go_wp2_with (first | (refine wpList_load_row rfl 57 _ rfl w.heap.size rfl 57 mv (0, 0) _ hg3 Try.underlying57 rfl h57 ?_) | (refine wpList_load_row rfl 146 _ rfl (w.heap.size + 1) rfl 146 rv (0, 0) _ hg4 Try.underlying146 rfl h146 ?_))
  refine hI3.out.mono ?_
  rintro e w2 ⟨rfl, hB2⟩
  have hB12 := ext_trans hB1 hB2
  have hc2 := (boxW_cell hB12 (17 + x * 3 + y)).trans HC0.out
  have hxx : (x : Int) < 3 := by omega
  have hyy : (y : Int) < 3 := by omega
  have hC := Lib.hid (hCC.out w2)
  clear hg3 hg4 h57 h146 hI3
  go_wp2_with fail
  refine hC.out.mono ?_
  rintro e w3 ⟨rfl, rfl⟩
  go_wp2_with fail
  go_ret2
  exact ⟨rfl, ext_trans hB.out hB12⟩

end Go.Proofs.Ytepddehodmljeaa
