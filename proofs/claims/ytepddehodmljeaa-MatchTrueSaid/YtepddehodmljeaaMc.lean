/- Walks: MatchTrue. -/
import Derived.Test.YtepddehodmljeaaPl
import Derived.Test.YtepddehodmljeaaMa
namespace Go.Proofs.Ytepddehodmljeaa
open Go.RowKit Go.Maps

set_option maxRecDepth 100000 in
set_option maxHeartbeats 4000000 in
theorem MatchTrue_calls (p t : List Int) (s : List (List Int)) (u v x : Value) (w : World) (hp : IsInts Any w u p) (ht : IsInts Any w v t) (hs : IsTerms Any w x s) :
    Calls Try.prog 14 #[u, v, x] w fun e w' => e = .returned (.bool true) ∧ Below w.heap.size w w' := by
  obtain ⟨va, vc, rfl⟩ := ht.isSlice
  obtain ⟨xa, xc, rfl⟩ := hs.isSlice
  by_cases hc : chk2 p t = 0
  · obtain ⟨pb, po, pc, rfl⟩ := hp.cells (ne_of_chk (chk2_zero hc).1)
    have hh := Lib.hid hc
    have hself := Lib.hid (match_self (chk2_zero hc).1)
    have hsg := Lib.hid (signs_of_chk (chk2_zero hc).1)
    have hplen := len_of_chk (chk2_zero hc).1
    clear hc
    go_enter Try.func14, Try.ntmps14
    go_wp2_with fail
    refine (Fit_calls p t _ _ w hp ht).mono ?_
    rintro e w1 ⟨x, rfl, hx, hB1⟩
    replace hp := hp.below hB1
    replace ht := ht.below hB1
    replace hs := hs.below TermR.ok hB1
    rw [hh.out]
    replace hx := hx.any TermR.ok
    cases hb : fitB p t
    · clear hx
      go_wp2_with fail
      refine (Fit_calls p p _ _ w1 hp hp).mono ?_
      rintro e w2 ⟨s2, rfl, -, hB2⟩
      replace hp := hp.below hB2
      replace ht := ht.below hB2
      replace hs := hs.below TermR.ok hB2
      replace hB1 := ext_trans hB1 hB2
      clear hB2
      rw [hself.out.1, hself.out.2]
      go_wp2_with fail
      refine (Apply_calls s p _ _ w2 hs hp).mono ?_
      rintro e w3 ⟨y, rfl, hy, hB3⟩
      replace hp := hp.below hB3
      replace ht := ht.below hB3
      replace hs := hs.below TermR.ok hB3
      replace hB1 := ext_trans hB1 hB3
      clear hB3
      replace hy := hy.any
      by_cases ha : applyE s p = 0
      · have hM := Lib.hid (match_made ha)
        rw [ha]
        clear ha
        go_wp2_with fail
        refine (Fit_calls p (applyT s p) _ _ w3 hp hy).mono ?_
        rintro e w4 ⟨z, rfl, hz, hB4⟩
        replace hp := hp.below hB4
        replace ht := ht.below hB4
        replace hs := hs.below TermR.ok hB4
        replace hy := hy.below hB4
        replace hB1 := ext_trans hB1 hB4
        clear hB4
        rw [hM.out.1, hM.out.2.1]
        replace hz := hz.any TermR.ok
        have hzl := hM.out.2.2.1
        obtain ⟨zb, zo, zc, -, rfl, -, -⟩ := row_cell hz (j := 0) (by omega)
        obtain ⟨sb, so, sc, -, es, -, -⟩ := row_cell hs (j := 0) (by rw [hM.out.2.2.2.1]; omega)
        cases es
        have hsl := hM.out.2.2.2.1
        have HZ := Lib.hid hz
        have HS := Lib.hid hs
        rw [hzl, hsl]
        have HC := Lib.hid fun j (hj : j < p.length) => hp.cell hj
        have HB := Lib.hid hB1
        clear hz hs hp hy hzl hsl hB1 ht
        go_wp2_with fail
        go_loopw [20] (fun i wr => ∃ k : Nat, k ≤ p.length ∧ i = .int .i64 k ∧ Hid (Below w4.heap.size w4 wr)) (fun i _ => p.length - (intOf i).toNat)
        case atStart => exact ⟨0, by omega, rfl, .refl _ _⟩
        case round =>
          obtain ⟨k, hk, rfl, hR⟩ := hrel
          by_cases hlt : k < p.length
          · have hik : (k : Int) < p.length := by omega
            have hcell : wr.cell? ⟨pb, po + k, none⟩ = some (.int .i64 (nth p k)) := (hR.out.cell (p := ⟨pb, po + k, none⟩) (World.block_lt_of_cell? _ _ (HC.out k hlt))).trans (HC.out k hlt)
            obtain ⟨hn1, hn2⟩ := hsg.out _ (nth_mem hlt)
            by_cases h0 : nth p k < 0
            · have hj : (-nth p k).toNat - 1 < 8 := by omega
              have he : (-1 - nth p k).toNat = (-nth p k).toNat - 1 := by omega
              have hv := hM.out.2.2.2.2 (nth p k) (nth_mem hlt) h0
              rw [he] at hv
              obtain ⟨b1, o1, c1, u1, e1, hu1, hi1⟩ := row_cell (HZ.out.below TermR.ok hR.out) (j := (-nth p k).toNat - 1) (by rw [hM.out.2.2.1]; exact hj)
              cases e1
              obtain ⟨b2, o2, c2, u2, e2, hu2, hi2⟩ := row_cell (HS.out.below TermR.ok hR.out) (j := (-nth p k).toNat - 1) (by rw [hM.out.2.2.2.1]; exact hj)
              cases e2
              rw [hv] at hi1
              have hq : Hid (∀ n, Calls Try.prog 39 #[u1, u2] (wr.drewN n) fun e w' => e = .returned (.bool true) ∧ ∃ m, w' = (wr.drewN n).drewN m) := fun n =>
                (SameTerms_calls _ _ _ _ (wr.drewN n) (hi1.below (below_drewN _ _ _)) (hi2.below (below_drewN _ _ _))).mono fun e w' h => ⟨by rw [h.1, decide_eq_true rfl], h.2⟩
              clear hv hi1 hi2 he
              go_wp2_with fail
              go_quiet ((go_at_call 39; exact Calls.quiet_of (hq.out _)))
              go_wp2_with fail
              go_roundw
              case rel => exact ⟨k + 1, by omega, by go_num, ext_trans hR.out (below_drewN _ _ _)⟩
              case measure => simp [intOf]; omega
            · have h0' : 0 ≤ nth p k := by omega
              have hd : decide (nth p k < 0) = false := decide_eq_false h0
              clear h0
              go_wp2_with fail
              go_quiet (fail)
              go_wp2_with fail
              go_roundw
              case rel => exact ⟨k + 1, by omega, by go_num, ext_trans hR.out (below_drewN _ _ _)⟩
              case measure => simp [intOf]; omega
          · obtain rfl : k = p.length := by omega
            go_wp2_with fail
            refine (matchBegun_calls _).mono ?_
            rintro e w9 ⟨rfl, hB9⟩
            go_wp2_with fail
            go_ret
            exact ⟨rfl, ext_trans (ext_trans HB.out hR.out) hB9⟩
      · have ha2 : (applyE s p != 0) = true := by simpa using ha
        clear ha
        go_wp2_with fail
        refine (matchBegun_calls w3).mono ?_
        rintro e w4 ⟨rfl, hB4⟩
        replace hB1 := ext_trans hB1 hB4
        clear hB4
        go_wp2_with fail
        go_ret
        exact ⟨rfl, hB1⟩
    · have hA := Lib.hid (match_apply hh.out hb)
      clear hb
      go_wp2_with fail
      refine (Apply_calls (fitT p t) p _ _ w1 hx hp).mono ?_
      rintro e w2 ⟨y0, rfl, hy0, hB2⟩
      clear hx
      replace hp := hp.below hB2
      replace ht := ht.below hB2
      replace hs := hs.below TermR.ok hB2
      replace hB1 := ext_trans hB1 hB2
      clear hB2
      rw [hA.out.1]
      rw [hA.out.2] at hy0
      replace hy0 := hy0.any
      go_wp2_with fail
      refine (SameTerms_eq t _ _ w2 hy0 ht).mono ?_
      rintro e w3 ⟨rfl, hB3⟩
      clear hy0
      replace hp := hp.below hB3
      replace ht := ht.below hB3
      replace hs := hs.below TermR.ok hB3
      replace hB1 := ext_trans hB1 hB3
      clear hB3
      go_wp2_with fail
      refine (Fit_calls p p _ _ w3 hp hp).mono ?_
      rintro e w4 ⟨s2, rfl, -, hB4⟩
      replace hp := hp.below hB4
      replace ht := ht.below hB4
      replace hs := hs.below TermR.ok hB4
      replace hB1 := ext_trans hB1 hB4
      clear hB4
      rw [hself.out.1, hself.out.2]
      go_wp2_with fail
      refine (Apply_calls s p _ _ w4 hs hp).mono ?_
      rintro e w5 ⟨y, rfl, hy, hB5⟩
      replace hp := hp.below hB5
      replace ht := ht.below hB5
      replace hs := hs.below TermR.ok hB5
      replace hB1 := ext_trans hB1 hB5
      clear hB5
      replace hy := hy.any
      by_cases ha : applyE s p = 0
      · have hM := Lib.hid (match_made ha)
        rw [ha]
        clear ha
        go_wp2_with fail
        refine (Fit_calls p (applyT s p) _ _ w5 hp hy).mono ?_
        rintro e w6 ⟨z, rfl, hz, hB6⟩
        replace hp := hp.below hB6
        replace ht := ht.below hB6
        replace hs := hs.below TermR.ok hB6
        replace hy := hy.below hB6
        replace hB1 := ext_trans hB1 hB6
        clear hB6
        rw [hM.out.1, hM.out.2.1]
        replace hz := hz.any TermR.ok
        have hzl := hM.out.2.2.1
        obtain ⟨zb, zo, zc, -, rfl, -, -⟩ := row_cell hz (j := 0) (by omega)
        obtain ⟨sb, so, sc, -, es, -, -⟩ := row_cell hs (j := 0) (by rw [hM.out.2.2.2.1]; omega)
        cases es
        have hsl := hM.out.2.2.2.1
        have HZ := Lib.hid hz
        have HS := Lib.hid hs
        rw [hzl, hsl]
        have HC := Lib.hid fun j (hj : j < p.length) => hp.cell hj
        have HB := Lib.hid hB1
        clear hz hs hp hy hzl hsl hB1 ht
        go_wp2_with fail
        go_loopw [20] (fun i wr => ∃ k : Nat, k ≤ p.length ∧ i = .int .i64 k ∧ Hid (Below w6.heap.size w6 wr)) (fun i _ => p.length - (intOf i).toNat)
        case atStart => exact ⟨0, by omega, rfl, .refl _ _⟩
        case round =>
          obtain ⟨k, hk, rfl, hR⟩ := hrel
          by_cases hlt : k < p.length
          · have hik : (k : Int) < p.length := by omega
            have hcell : wr.cell? ⟨pb, po + k, none⟩ = some (.int .i64 (nth p k)) := (hR.out.cell (p := ⟨pb, po + k, none⟩) (World.block_lt_of_cell? _ _ (HC.out k hlt))).trans (HC.out k hlt)
            obtain ⟨hn1, hn2⟩ := hsg.out _ (nth_mem hlt)
            by_cases h0 : nth p k < 0
            · have hj : (-nth p k).toNat - 1 < 8 := by omega
              have he : (-1 - nth p k).toNat = (-nth p k).toNat - 1 := by omega
              have hv := hM.out.2.2.2.2 (nth p k) (nth_mem hlt) h0
              rw [he] at hv
              obtain ⟨b1, o1, c1, u1, e1, hu1, hi1⟩ := row_cell (HZ.out.below TermR.ok hR.out) (j := (-nth p k).toNat - 1) (by rw [hM.out.2.2.1]; exact hj)
              cases e1
              obtain ⟨b2, o2, c2, u2, e2, hu2, hi2⟩ := row_cell (HS.out.below TermR.ok hR.out) (j := (-nth p k).toNat - 1) (by rw [hM.out.2.2.2.1]; exact hj)
              cases e2
              rw [hv] at hi1
              have hq : Hid (∀ n, Calls Try.prog 39 #[u1, u2] (wr.drewN n) fun e w' => e = .returned (.bool true) ∧ ∃ m, w' = (wr.drewN n).drewN m) := fun n =>
                (SameTerms_calls _ _ _ _ (wr.drewN n) (hi1.below (below_drewN _ _ _)) (hi2.below (below_drewN _ _ _))).mono fun e w' h => ⟨by rw [h.1, decide_eq_true rfl], h.2⟩
              clear hv hi1 hi2 he
              go_wp2_with fail
              go_quiet ((go_at_call 39; exact Calls.quiet_of (hq.out _)))
              go_wp2_with fail
              go_roundw
              case rel => exact ⟨k + 1, by omega, by go_num, ext_trans hR.out (below_drewN _ _ _)⟩
              case measure => simp [intOf]; omega
            · have h0' : 0 ≤ nth p k := by omega
              have hd : decide (nth p k < 0) = false := decide_eq_false h0
              clear h0
              go_wp2_with fail
              go_quiet (fail)
              go_wp2_with fail
              go_roundw
              case rel => exact ⟨k + 1, by omega, by go_num, ext_trans hR.out (below_drewN _ _ _)⟩
              case measure => simp [intOf]; omega
          · obtain rfl : k = p.length := by omega
            go_wp2_with fail
            refine (matchBegun_calls _).mono ?_
            rintro e w9 ⟨rfl, hB9⟩
            go_wp2_with fail
            go_ret
            exact ⟨rfl, ext_trans (ext_trans HB.out hR.out) hB9⟩
      · have ha2 : (applyE s p != 0) = true := by simpa using ha
        clear ha
        go_wp2_with fail
        refine (matchBegun_calls w5).mono ?_
        rintro e w6 ⟨rfl, hB6⟩
        replace hB1 := ext_trans hB1 hB6
        clear hB6
        go_wp2_with fail
        go_ret
        exact ⟨rfl, hB1⟩
  · have hc' : (chk2 p t != 0) = true := by simpa using hc
    obtain ⟨ua, uc, rfl⟩ := hp.isSlice
    clear hc
    go_enter Try.func14, Try.ntmps14
    go_wp2_with fail
    refine (Fit_calls p t _ _ w hp ht).mono ?_
    rintro e w1 ⟨y, rfl, -, hB1⟩
    go_wp2_with fail
    refine (matchBegun_calls w1).mono ?_
    rintro e w2 ⟨rfl, hB2⟩
    go_wp2_with fail
    go_ret
    exact ⟨rfl, ext_trans hB1 hB2⟩

end Go.Proofs.Ytepddehodmljeaa
