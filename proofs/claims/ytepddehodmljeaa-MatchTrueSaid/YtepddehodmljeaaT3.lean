/- Walks: slices.Concat. -/
import Derived.Test.YtepddehodmljeaaT2
namespace Go.Proofs.Ytepddehodmljeaa
open Go.RowKit Go.Maps

/-- The first k lists, one behind the other. -/
def fl (ts : List (List Int)) (k : Nat) : List Int := (ts.take k).flatten
theorem fl_succ {ts : List (List Int)} {k : Nat} (hk : k < ts.length) : fl ts (k + 1) = fl ts k ++ nthT ts k := by
  rw [fl, fl, nthT_eq hk, List.take_succ_eq_append_getElem hk, List.flatten_append]; simp

set_option maxRecDepth 100000 in
set_option maxHeartbeats 1000000 in
theorem Concat_calls (ts : List (List Int)) (v : Value) (w : World) (hne : ts ≠ []) (hll : ts.length ≤ 10) (htot : ∀ k, k ≤ ts.length → (fl ts k).length ≤ 1000) (hlen : ∀ k, k < ts.length → (nthT ts k).length ≤ 1000) (hv : IsTerms Any w v ts) :
    Calls Try.prog 176 #[v] w fun e w' => ∃ x, e = .returned x ∧ IsInts (Fr w.heap.size) w' x (fl ts ts.length) ∧ Below w.heap.size w w' := by
  obtain ⟨i3, hi, hz, hsz, hby⟩ := info_parts Try.inf3
  have hpos : 0 < ts.length := List.length_pos_iff.2 hne
  obtain ⟨b, o, c, -, rfl, -, -⟩ := row_cell hv hpos
  have hcells : Hid (∀ W, Below w.heap.size w W → ∀ j, j < ts.length → ∃ u, W.cell? ⟨b, o + j, none⟩ = some u ∧ IsInts Any W u (nthT ts j)) := by
    intro W hW j hj
    obtain ⟨b', o', c', u, e, h1, h2⟩ := row_cell (hv.below TermR.ok hW) hj
    cases e
    exact ⟨u, h1, h2⟩
  have hT := Lib.hid htot
  have hL := Lib.hid hlen
  clear hv htot hlen hne
  go_enter Try.func176, Try.ntmps176
  go_wp2_with fail
  go_loopw [3, 11] (fun s i wr => ∃ k : Nat, k ≤ ts.length ∧ i = .int .i64 k ∧ s = .int .i64 ((fl ts k).length : Nat) ∧ wr = w) (fun _ i _ => ts.length - (intOf i).toNat)
  case atStart => exact ⟨0, by omega, rfl, rfl, rfl⟩
  case round =>
    obtain ⟨k, hk, rfl, rfl, rfl⟩ := hrel
    by_cases hlt' : k < ts.length
    · obtain ⟨u, hcell, hu⟩ := hcells.out wr (.refl _ _) k hlt'
      obtain ⟨a, c', rfl⟩ := hu.isSlice
      have hs : Hid ((fl ts (k + 1)).length = (fl ts k).length + (nthT ts k).length) := by rw [Hid, fl_succ hlt', List.length_append]
      have hb1 := hT.out k hk
      have hb2 := hL.out k hlt'
      have hnn : ¬ (((fl ts k).length : Int) + ((nthT ts k).length : Int) < 0) := by omega
      have hik : (k : Int) < ts.length := by omega
      clear hu
      go_wp2_with fail
      go_roundw
      case rel => exact ⟨k + 1, by omega, by go_num, by rw [hs.out]; go_num, trivial⟩
      case measure => simp [intOf]; omega
    · obtain rfl : k = ts.length := by omega
      go_wp2_with fail
      refine (Grow_calls (fl ts ts.length).length (hT.out _ hk) wr).mono ?_
      rintro e w1 ⟨v1, rfl, hown, hB1⟩
      have hO1 : Hid (w1.ownsRow wr.heap.size 3 1 v1 (fl ts 0).length ((fl ts 0).map (Value.int .i64))) := hown
      have hB1' := Lib.hid hB1
      clear hown hB1
      obtain ⟨wo, rfl⟩ : ∃ wo : World, wo = wr := ⟨_, rfl⟩
      go_wp2_with fail
      go_loopw [6, 27] (fun out i wr => ∃ k : Nat, k ≤ ts.length ∧ i = .int .i64 k ∧ Hid (wr.ownsRow wo.heap.size 3 1 out (fl ts k).length ((fl ts k).map (Value.int .i64))) ∧ Hid (Below wo.heap.size wo wr)) (fun _ i _ => ts.length - (intOf i).toNat)
      case atStart => exact ⟨0, by omega, rfl, hO1.out, hB1'.out⟩
      case round =>
        clear hO1 hB1'
        obtain ⟨k, hk, rfl, hO, hB⟩ := hrel
        by_cases hlt' : k < ts.length
        · obtain ⟨u, hcell, hu⟩ := hcells.out wr hB.out k hlt'
          have hU := Lib.hid hu
          have hik : (k : Int) < ts.length := by omega
          clear hu
          go_wp2_with (at_builtin; refine app_ints _ _ 24 rfl rfl wo.heap.size i3 Try.underlying24 hi hz hsz hby hO.out hU.out ?c1 ?c2 ?c3; rotate_left 2; intro v' w2 hown2 hb2 hg2 _)
          case c1 => have := hT.out k hk; have := hL.out k hlt'; omega
          case c2 => exact hB.out.size
          go_roundw
          case rel => exact ⟨k + 1, by omega, by go_num, by rw [fl_succ hlt']; exact hown2, hB.out.trans hb2⟩
          case measure => simp [intOf]; omega
        · obtain rfl : k = ts.length := by omega
          go_wp2_with fail
          go_ret
          exact ⟨_, rfl, ints_of_own hO.out (by have := hT.out _ hk; omega), hB.out⟩

end Go.Proofs.Ytepddehodmljeaa
