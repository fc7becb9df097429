/- Walks: term.End. -/
import Derived.RangeFuncBox
import Derived.Test.YtepddehodmljeaaR1
namespace Go.Proofs.Ytepddehodmljeaa
open Go.RowKit Go.Maps Go.Shelf
attribute [local go_sem] Oper.semAt_some

/-- The end, some parts passed. -/
def endA (t : List Int) (k : Nat) (pre : List Nat) : Int := match pre.getLast? with | none => k + 1 | some x => skp t (x : Nat)
theorem endA_snoc (t : List Int) (k : Nat) (pre : List Nat) (x : Nat) : endA t k (pre ++ [x]) = skp t (x : Nat) := by simp [endA]
theorem endA_all {t : List Int} (h : chk t = 0) {k : Nat} (hk : k < t.length) : endA t k (psT t k) = (enT t k : Nat) := by
  obtain ⟨hx, hf⟩ := tm_chk h
  generalize tmOf t = x at *
  subst hf
  rw [size_flat] at hk
  have hy := sub_ok hx hk
  have h1 := sub_size hk
  have e := sub_sg hk
  have he := (tm_at hx hk).2.1
  cases hs : x.sub k with
  | leaf s =>
    rw [hs] at e hy he
    have e0 : ar (nth x.flat k) = 0 := by rw [e]; exact hy
    rw [psT, if_pos e0, he]
    simp [endA, Tm.size]
  | un s a =>
    rw [hs] at e hy he h1
    have e0 : ar (nth x.flat k) = 1 := by rw [e]; exact hy.1
    have h2 := size_pos a
    simp only [Tm.size] at h1
    have h3 : x.sub (k + 1) = a := by
      rw [sub_sub x k 1 hk (by rw [hs]; simp [Tm.size]; omega), hs]
      show a.sub 0 = _
      rw [sub_zero]
    rw [psT, if_neg (by omega), if_pos e0]
    have h4 := (tm_at hx (k := k + 1) (by omega)).1
    rw [show endA x.flat k [k + 1] = skp x.flat ((k + 1 : Nat) : Int) from rfl, h4, he, h3]
    simp [Tm.size]; omega
  | bin s a b =>
    rw [hs] at e hy he h1
    have e0 : ar (nth x.flat k) = 2 := by rw [e]; exact hy.1
    have h2 := size_pos a
    have h2' := size_pos b
    simp only [Tm.size] at h1
    have h3 : x.sub (k + 1) = a := by
      rw [sub_sub x k 1 hk (by rw [hs]; simp [Tm.size]; omega), hs]
      show (if 0 < a.size then a.sub 0 else _) = _
      rw [if_pos h2, sub_zero]
    have h5 : x.sub (k + (a.size + 1)) = b := by
      rw [sub_sub x k (a.size + 1) hk (by rw [hs]; simp [Tm.size]; omega), hs]
      show (if a.size < a.size then _ else b.sub (a.size - a.size)) = _
      rw [if_neg (Nat.lt_irrefl _), Nat.sub_self, sub_zero]
    rw [psT, if_neg (by omega), if_neg (by omega)]
    have h4 := (tm_at hx (k := k + 1) (by omega)).2.1
    rw [h3] at h4
    have h6 := (tm_at hx (k := k + (a.size + 1)) (by omega)).1
    rw [show endA x.flat k [k + 1, enT x.flat (k + 1)] = skp x.flat ((enT x.flat (k + 1) : Nat) : Int) from rfl, h4, show k + 1 + a.size = k + (a.size + 1) by omega, h6, h5, he]
    simp [Tm.size]; omega

set_option maxRecDepth 100000 in
set_option maxHeartbeats 2000000 in
theorem End_ok (t : List Int) (v : Value) (k : Nat) (w : World) (hv : IsInts Any w v t) (h : plc t k = 0) :
    Calls Try.prog 51 #[v, .int .i64 k] w fun e w' => e = .returned (.tuple #[.int .i64 (enT t k : Nat), .int .i64 0]) ∧ Below w.heap.size w w' := by
  obtain ⟨ht, -, hk0⟩ := plc_zero h
  have hk : k < t.length := by omega
  have hk' : (k : Int) ≤ 30 := by have := len_of_chk ht; omega
  have hv0 := Lib.hid hv
  obtain ⟨va, vc, rfl⟩ := hv.isSlice
  have h1 := Lib.hid (placed_calls t _ k (w.alloc (.cells #[.slice va t.length vc] 24)) (hv.below (below_alloc _ _)))
  rw [h] at h1
  have hE := Lib.hid (endA_all ht hk)
  have hsm := Lib.hid (small_of_signs (signs_of_chk ht))
  have hT := Lib.hid (And.intro ht hk)
  clear hv ht hk h hk0
  refine (callsIn_wide (n := 5)).1 ?_
  refine callsIn_of_wp_marks Try.func51 rfl trivial ?_ rfl
  simp only [Try.ntmps51, List.size_toArray, List.length_cons, List.length_nil, Nat.reduceAdd, Nat.reduceSub, Array.replicate_succ, Array.replicate_zero, List.push_toArray, List.append_toArray, List.nil_append, List.cons_append]
  gi_wp2_with fail
  refine ⟨trivial, (callsIn_wide.2 h1.out).mono ?_⟩
  rintro e w' ⟨rfl, rfl⟩
  gi_wp2_with fail
  refine ⟨trivial, (callsIn_wide.2 (Parts_calls (.slice va t.length vc) k _ rfl)).mono ?_⟩
  rintro e w' ⟨rfl, rfl⟩
  gi_wp2_with fail
  obtain ⟨W0, hW0⟩ : ∃ W0, W0 = (((w.alloc (.cells #[.slice va t.length vc] 24)).alloc (.cells #[.int .i64 ((k : Int) + 1)] 3)).alloc (.cells #[.slice va t.length vc] 24)).alloc (.cells #[.int .i64 k] 3) := ⟨_, rfl⟩
  rw [← hW0]
  have hz : W0.heap.size = w.heap.size + 4 := by rw [hW0]; simp
  have hB0 : Below w.heap.size w W0 := by
    rw [hW0]; exact ext_alloc (ext_alloc (ext_alloc (below_alloc _ _) _) _) _
  have c0 : W0.cell? ⟨w.heap.size, 0, none⟩ = some (.slice va t.length vc) := by rw [hW0]; simp [go_sem]
  have c1 : W0.cell? ⟨w.heap.size + 1, 0, none⟩ = some (.int .i64 ((k : Int) + 1)) := by rw [hW0]; simp [go_sem]
  have c2 : W0.cell? ⟨w.heap.size + 1 + 1, 0, none⟩ = some (.slice va t.length vc) := by rw [hW0]; simp [go_sem]
  have c3 : W0.cell? ⟨w.heap.size + 1 + 1 + 1, 0, none⟩ = some (.int .i64 k) := by rw [hW0]; simp [go_sem]
  have f1 : W0.frozen? ⟨w.heap.size + 1, 0, none⟩ = false := by rw [hW0]; simp [go_sem]
  clear hW0
  refine wpIn_rangeFunc_ownG rfl (by omega) (gf := 172) (lb := #[.pointer (some ⟨w.heap.size + 1 + 1 + 1, 0, none⟩), .pointer (some ⟨w.heap.size + 1 + 1, 0, none⟩)]) rfl trivial (enters_of Try.func172 (by kernel_rfl) rfl)
    (Parts_stops _ (by omega) (w.heap.size + 1 + 1 + 1) (w.heap.size + 1 + 1) (fun i => i = w.heap.size + 1 ∨ w.heap.size + 4 ≤ i) t hT.out.1 k hT.out.2 _ W0 c3 c2 (by omega) (by omega) (by omega) (hv0.out.mono ⟨hB0.size, fun b _ hb => ⟨by omega, hB0.block b hb⟩⟩)) Keeps.trans (keepsK_b (by intro l hl; right; omega)) (Below.refl _ _) (fun _ => rfl)
    (fun pre W => (W.cell? ⟨w.heap.size, 0, none⟩ = some (.slice va t.length vc) ∧ W.cell? ⟨w.heap.size + 1, 0, none⟩ = some (.int .i64 (endA t k pre)) ∧ W.frozen? ⟨w.heap.size + 1, 0, none⟩ = false) ∧ Below w.heap.size w W)
    (fun _ _ _ => False)
    (OwnFrom.and (Own.from (fun s A B row hs hg hr => ⟨cell_kept hs.1 hg hr, cell_kept hs.2.1 hg hr, (frozen_kept hs.2.1 hg hr).trans hs.2.2⟩) _) (ownFrom_below (Nat.le_refl _) (by omega)))
    (fun _ _ _ _ _ hs _ _ => hs)
    ⟨⟨c0, c1, f1⟩, hB0⟩
    (fun x => { tmps := #[.slice va t.length vc, .int .i64 k, .pointer (some ⟨w.heap.size, 0, none⟩),
          undef, .int .i64 0, .int .i64 0, .int .i64 0,
          .pointer (some ⟨w.heap.size + 1, 0, none⟩), .int .i64 x, .slice va t.length vc,
          .int .i64 k, .int .i64 0, .int .i64 0, .bool false, undef,
          .int .i64 k, .int .i64 ((k : Int) + 1), .slice va t.length vc,
          .int .i64 k,
          .func (.func 172) #[] #[.pointer (some ⟨w.heap.size + 1 + 1 + 1, 0, none⟩), .pointer (some ⟨w.heap.size + 1 + 1, 0, none⟩)],
          .int .i64 x, undef, undef, undef, undef], defers := [] }) ?assign ?body ?done ?stop
  case assign =>
    intro l x W K hK
    gi_wp2
    exact hK
  case body =>
    rintro l pre x W ⟨⟨hc, he, hf⟩, hB⟩ hlt
    have hvW : IsInts Any W (.slice va t.length vc) t := hv0.out.mono (.of_below hB)
    have hSk := Lib.hid (Skip_calls t hsm.out _ W hvW t.length (x : Nat) (by omega))
    have hbl : w.heap.size + 1 < W.heap.size := World.block_lt_of_cell? _ _ he
    clear hvW
    gi_wp2_with fail
    refine ⟨trivial, (CallsIn.inRound l (callsIn_wide.2 hSk.out)).mono ?_⟩
    rintro e w' ⟨rfl, rfl⟩
    gi_wp2_with fail
    refine ⟨(KeepsOthers.setCell _ _ _).from _, ⟨rfl, rfl, rfl, (grownBy_setCell' _ _ _).size, fun i hi hm => Below.heap_setCell _ _ _ _ fun e => hm (.inl e)⟩, ⟨?_, ?_, ?_⟩, hB.setCell (by simp) _⟩
    · exact (World.cell?_of_block (w := W) (Below.heap_setCell _ _ _ _ (by simp))).trans hc
    · rw [endA_snoc]; exact World.cell?_setCell_same' _ _ _ (by rw [he]; rfl)
    · rw [World.frozen?_setCell]; exact hf
  case done =>
    rintro D ys W hD rfl ⟨⟨hc, he, hf⟩, hB⟩ hK
    rw [hE.out] at he
    gi_wp2_with fail
    refine ⟨by simp, .inl ⟨_, _, rfl, run_takeDeferred hK, ?_⟩⟩
    exact ⟨_, results_tmp2 rfl _ _ _, rfl, hB.trans (belowK_b (w := W0) (by omega) W D _ _ hD hK rfl rfl)⟩
  case stop =>
    rintro D c pre W _ _ h _
    exact h.elim

/-- What End answers. -/
def endN (t : List Int) (k : Int) : Int := if plc t k = 0 then (enT t k.toNat : Nat) else 0

theorem End_calls (t : List Int) (v : Value) (k : Int) (w : World) (hv : IsInts Any w v t) :
    Calls Try.prog 51 #[v, .int .i64 k] w fun e w' => e = .returned (.tuple #[.int .i64 (endN t k), .int .i64 (plc t k)]) ∧ Below w.heap.size w w' := by
  by_cases h : plc t k = 0
  · obtain ⟨h2, h3, h4⟩ := plc_zero h
    obtain ⟨n, rfl⟩ : ∃ n : Nat, k = n := ⟨k.toNat, by omega⟩
    refine (End_ok t v n w hv h).mono fun e w' h5 => ⟨?_, h5.2⟩
    rw [h5.1, endN, if_pos h, h]; rfl
  · have hr : Hid (endN t k = 0) := by rw [Hid, endN, if_neg h]
    have h' : (plc t k != 0) = true := by simpa using h
    obtain ⟨va, vc, rfl⟩ := hv.isSlice
    have h1 := Lib.hid (placed_calls t _ k (w.alloc (.cells #[.slice va t.length vc] 24)) (hv.below (below_alloc _ _)))
    clear hv h
    go_enter Try.func51, Try.ntmps51
    go_wp2_with fail
    refine h1.out.mono ?_
    rintro e w' ⟨rfl, rfl⟩
    clear h1
    go_wp2_with fail
    go_ret2
    exact ⟨by rw [hr.out]; rfl, below_alloc _ _⟩

end Go.Proofs.Ytepddehodmljeaa
