/- Walks: CloseSound. -/
import Derived.Test.YtepddehodmljeaaH8
import Derived.Test.YtepddehodmljeaaYk
namespace Go.Proofs.Ytepddehodmljeaa
open Go.RowKit Go.Maps

def holE (m : List Int) (e : List Ru) : Bool := decide (∀ j, j < e.length → holB m (nthR e j).1 (nthR e j).2 = true)
theorem holE_iff {m : List Int} {e : List Ru} (he : EqsOk e) : holE m e = true ↔ Wor m e := by
  rw [holE, decide_eq_true_iff]
  constructor
  · intro h p hp
    obtain ⟨j, hj, rfl⟩ := List.getElem_of_mem hp
    have := h j hj
    rw [nthR_eq hj] at this
    exact (holB_iff (he _ hp).1 (he _ hp).2).1 this
  · intro h j hj
    have hm := nthR_mem hj
    exact (holB_iff (he _ hm).1 (he _ hm).2).2 (h _ hm)
theorem close_sound {fb : Fb} (hfb : FbOk fb) {r : List Int} {e : List Ru} (h : rnE fb r e = 0) :
    EqsOk e ∧ eqsE e = 0 ∧ Rul (rnL fb r e) ∧ ∀ m, holE m e = true → worB m (rnL fb r e) = true := by
  by_cases h0 : caE r e = 0
  · obtain ⟨hr, hl, he⟩ := caE_zero h0
    have hL : rnL fb r e = (runV fb r 30 0 [] e).1 := by rw [rnL, if_pos h0]
    have hE : (runV fb r 30 0 [] e).2.2 = 0 := by rw [rnE, if_pos h0] at h; exact h
    rcases hv : runV fb r 30 0 [] e with ⟨x, m, z⟩
    rw [hv] at hL hE
    have hz : z = 0 := hE
    subst hz
    have hx : rnL fb r e = x := hL
    rw [hx]
    have hI := run_inv hfb 30 0 [] e x m (inv_start hr he) hv
    refine ⟨he, ?_, hI.rul, fun mm hh => ?_⟩
    · rw [caE, if_pos hr] at h0; exact h0
    · exact (worB_iff hI.rul).2 ((run_hol hfb mm 30 0 [] e x m (inv_start hr he) hv).1 ⟨fun q hq => (by cases hq), (holE_iff he).1 hh⟩)
  · rw [rnE, if_neg h0] at h
    exact absurd h h0

set_option maxRecDepth 100000 in
set_option maxHeartbeats 4000000 in
theorem CloseSound_calls (r : List Int) (e : List Ru) (m : List Int) (rv ev : Value) (mv : Array Value) (w : World) (hr : IsInts Any w rv r) (he : IsRules Any w ev e) (hm : IsMod m mv) :
    Calls Try.prog 33 #[rv, ev, .agg mv] w fun y w' => y = .returned (.bool true) ∧ Below w.heap.size w w' := by
  obtain ⟨fb, hfb⟩ := exists_fb
  have hB00 := Lib.hid (below_alloc w (.cells mv 57))
  have hblk : Hid (∀ W, Below (w.alloc (.cells mv 57)).heap.size (w.alloc (.cells mv 57)) W → W.heap[w.heap.size]? = some (.cells mv 57 (0, 0))) := fun W hW => by
    rw [hW.block _ (by simp)]
    exact heap_alloc_new _ _
  have h57 : (Try.prog.info? 57).map (·.size) = some mv.size := by rw [hm.size]; kernel_rfl
  have hWo := Lib.hid fun l hl v w hv => world_calls m mv hm l hl v w hv
  have hHo := Lib.hid fun a b ha hb u v w hu hv => holds_calls m mv hm a b ha hb u v w hu hv
  have HE := Lib.hid (he.below RuleR.ok hB00.out)
  have hRun := Lib.hid (Run_calls hfb r e rv ev _ (hr.below hB00.out) HE.out)
  obtain ⟨ra, rc, rfl⟩ := hr.isSlice
  obtain ⟨ea, ec, rfl⟩ := he.isSlice
  have hel : e.length ≤ 9223372036854775807 := he.1
  clear hr he hm
  by_cases h0 : rnE fb r e = 0
  · have H0 := Lib.hid h0
    obtain ⟨k1, k2, k3, k4⟩ := close_sound hfb h0
    have hel40 : e.length ≤ 40 := (eqsE_zero k2).1
    have K1 := Lib.hid k1
    have K2 := Lib.hid k2
    have K3 := Lib.hid k3
    have K4 := Lib.hid k4
    have K5 : Hid (rulesE (rnL fb r e) = 0) := rulesE_zero.2 k3
    generalize rnL fb r e = l at *
    generalize rnN fb r e = nn at *
    have hei : (e.length : Int) ≤ 40 := by omega
    clear h0 k1 k2 k3 k4 hfb
    go_enter Try.func33, Try.ntmps33
    go_wp2_with fail
    refine hRun.out.mono ?_
    rintro y w1 ⟨z, rfl, hz, hb1⟩
    have HZ := Lib.hid (IsRow.any RuleR.ok hz)
    have HB1 := Lib.hid hb1
    have HE1 := Lib.hid (HE.out.below RuleR.ok hb1)
    obtain ⟨za, zc, rfl⟩ := hz.isSlice
    have hEq := Lib.hid (EqsError_calls e _ w1 HE1.out)
    rw [H0.out]
    clear hz hb1
    go_wp2_with fail
    refine hEq.out.mono ?_
    rintro y w2 ⟨rfl, hb2⟩
    have HB2 := Lib.hid (ext_trans HB1.out hb2)
    have HZ2 := Lib.hid (HZ.out.below RuleR.ok hb2)
    have HE2 := Lib.hid (HE1.out.below RuleR.ok hb2)
    have hRu := Lib.hid (RulesError_calls l _ w2 HZ2.out)
    rw [K2.out]
    clear hb2
    go_wp2_with fail
    refine hRu.out.mono ?_
    rintro y w3 ⟨rfl, hb3⟩
    have HB3 := Lib.hid (ext_trans HB2.out hb3)
    have HZ3 := Lib.hid (HZ2.out.below RuleR.ok hb3)
    have HE3 := Lib.hid (HE2.out.below RuleR.ok hb3)
    rw [K5.out]
    clear hb3
    go_wp2_with fail
    go_loopw [10] (fun i wr => ∃ k : Nat, k ≤ e.length ∧ i = .int .i64 k ∧ Hid (Below w3.heap.size w3 wr) ∧ Hid (∀ j, j < k → holB m (nthR e j).1 (nthR e j).2 = true)) (fun i _ => e.length - (intOf i).toNat)
    case atStart => exact ⟨0, Nat.zero_le _, rfl, .refl _ _, fun _ h => by omega⟩
    case round =>
      rename World => wr
      obtain ⟨n, hn, rfl, hB, hR⟩ := hrel
      have hBw := Lib.hid (ext_trans HB3.out hB.out)
      by_cases hlt : n < e.length
      · obtain ⟨b, o, c, u, x, e1, hcu0, hcx0, hu, hx⟩ := prs_at' (HE3.out.below RuleR.ok hB.out) hlt
        cases e1
        have hii : (n : Int) < e.length := by omega
        have hg : (wr.drewN 1).heap[w.heap.size]? = some (.cells mv 57 (0, 0)) := hblk.out _ (ext_trans hBw.out (below_drewN _ wr 1))
        obtain ⟨c1, c2⟩ := K1.out _ (nthR_mem hlt)
        have hC := Lib.hid (hHo.out _ _ c1 c2 u x (wr.drewN 1) (hu.below (below_drewN _ _ _)) (hx.below (below_drewN _ _ _)))
        have hcu1 : (wr.drewN 1).cell? ⟨b, o + n * 2, none⟩ = some u := hcu0
        have hcx1 : (wr.drewN 1).cell? ⟨b, o + n * 2 + 1, none⟩ = some x := hcx0
        clear hu hx c1 c2
        go_wp2_with fail
        refine wp_region_still_tail 11 (by kernel_rfl) (by kernel_rfl) ?_
        simp only [List.take_succ_cons, List.take_zero, List.drop_succ_cons, List.drop_zero]
        repeat (first | (refine wpStill_load_row_g (by rfl) 57 _ rfl w.heap.size rfl 57 mv (0, 0) _ hg Try.underlying57 rfl h57 ?_) | still_step)
        refine wpStill_nil ?_
        change wpList _ _ _ _ _ (wr.drewN 1)
        cases hb : holB m (nthR e n).1 (nthR e n).2 with
        | true =>
          have hN := Lib.hid hb
          rw [hb] at hC
          clear hb
          go_wp2_with fail
          refine hC.out.mono ?_
          rintro y w5 ⟨rfl, hB5⟩
          go_wp2_with fail
          go_roundw
          case rel =>
            refine ⟨n + 1, by omega, by go_num, ext_trans (ext_trans hB.out (below_drewN _ wr 1)) hB5, fun j hj => ?_⟩
            by_cases e : j = n
            · rw [e]; exact hN.out
            · exact hR.out j (by omega)
          case measure => simp [intOf]; omega
        | false =>
          rw [hb] at hC
          clear hb
          go_wp2_with fail
          refine hC.out.mono ?_
          rintro y w5 ⟨rfl, hB5⟩
          go_wp2_with fail
          refine (closeBegun_calls _).mono ?_
          rintro y w6 ⟨rfl, hb6⟩
          go_wp2_with fail
          go_ret
          exact ⟨rfl, ext_trans hB00.out (ext_trans (ext_trans hBw.out (below_drewN _ wr 1)) (ext_trans hB5 hb6))⟩
      · obtain rfl : n = e.length := by omega
        have hW1 := K4.out m (by rw [holE, decide_eq_true_iff]; exact hR.out)
        have HW := Lib.hid hW1
        clear hW1
        go_wp2_with fail
        refine (closeBegun_calls _).mono ?_
        rintro y w6 ⟨rfl, hb6⟩
        have HB6 := Lib.hid (ext_trans hBw.out hb6)
        have hg := hblk.out w6 HB6.out
        have hWC := Lib.hid (hWo.out l K3.out _ w6 (HZ3.out.below RuleR.ok (ext_trans hB.out hb6)))
        clear hb6
        go_wp2_with (refine wpList_load_row_g (by rfl) 57 _ rfl w.heap.size rfl 57 mv (0, 0) _ hg Try.underlying57 rfl h57 ?_)
        refine hWC.out.mono ?_
        rintro y w7 ⟨rfl, hb7⟩
        rw [HW.out]
        go_wp2_with fail
        go_ret
        exact ⟨rfl, ext_trans hB00.out (ext_trans HB6.out hb7)⟩
  · have h' : (rnE fb r e != 0) = true := by simpa using h0
    clear h0 hfb
    go_enter Try.func33, Try.ntmps33
    go_wp2_with fail
    refine hRun.out.mono ?_
    rintro y w1 ⟨z, rfl, hz, hb1⟩
    have HB1 := Lib.hid hb1
    obtain ⟨za, zc, rfl⟩ := hz.isSlice
    clear hz hb1
    go_wp2_with fail
    refine (closeBegun_calls _).mono ?_
    rintro y w6 ⟨rfl, hb6⟩
    have HB6 := Lib.hid (ext_trans HB1.out hb6)
    clear hb6
    go_wp2_with fail
    go_ret
    exact ⟨rfl, ext_trans hB00.out HB6.out⟩

theorem CloseSound_all (r : List Int) (e : List Ru) (m : List Int) (rv ev y : Value) (w : World) (hr : IsInts Any w rv r) (he : IsRules Any w ev e) (hm : ∃ mv, y = .agg mv ∧ IsMod m mv) :
    Calls Try.prog 33 #[rv, ev, y] w fun y w' => y = .returned (.bool true) ∧ Below w.heap.size w w' := by
  obtain ⟨mv, rfl, h⟩ := hm
  exact CloseSound_calls r e m rv ev mv w hr he h

end Go.Proofs.Ytepddehodmljeaa
