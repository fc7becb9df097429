/- Walks: LeanMost. -/
import Derived.Test.YtepddehodmljeaaL4
namespace Go.Proofs.Ytepddehodmljeaa
open Go.RowKit Go.Maps

/-- The place, as the law reckons it. -/
def plK (s : List (List Int)) (t : List Int) (k : Nat) : Nat := (app s (t.take k)).length
theorem plK_next {s : List (List Int)} {t : List Int} {k : Nat} (hk : k < t.length) : plK s t (k + 1) = plK s t k + (sb s (nth t k)).length := by
  unfold plK
  rw [← app_take hk, List.length_append]
theorem plK_le (s : List (List Int)) (t : List Int) (k : Nat) : plK s t k ≤ (app s t).length := app_take_le s t k
/-- Does one of the first leans stand here, by this rule? -/
def lnH (ls : List Ln) (k rl n : Nat) : Bool := (ls.take n).any fun y => decide (y.2.1 = k) && decide (y.1 = rl)
theorem lnH_succ {ls : List Ln} {k rl n : Nat} (h : n < ls.length) : lnH ls k rl (n + 1) = (lnH ls k rl n || (decide ((nthN ls n).2.1 = k) && decide ((nthN ls n).1 = rl))) := by
  unfold lnH
  rw [List.take_succ_eq_append_getElem h, List.any_append, nthN_eq h]
  simp
theorem lnH_all {ls : List Ln} {k rl : Nat} {y : Ln} (hy : y ∈ ls) (h1 : y.2.1 = k) (h2 : y.1 = rl) : lnH ls k rl ls.length = true := by
  unfold lnH
  rw [List.take_length]
  exact List.any_eq_true.2 ⟨y, hy, by simp [h1, h2]⟩

set_option maxHeartbeats 8000000 in
set_option maxRecDepth 100000 in
theorem LeanMost_calls (l : Rus) (t : List Int) (s : List (List Int)) (v x y : Value) (w : World) (hv : IsRules Any w v l) (hx : IsInts Any w x t) (hy : IsTerms Any w y s) :
    Calls Try.prog 31 #[v, x, y] w fun e w' => e = .returned (.bool true) ∧ Below w.heap.size w w' := by
  obtain ⟨fb, hfb⟩ := exists_fb
  have hA := Lib.hid (LAll_calls hfb sortA l t v x w hv hx)
  have hLB := Lib.hid fun W => leanBegun_calls sortA W
  have HV := Lib.hid hv
  have HX := Lib.hid hx
  have HY := Lib.hid hy
  have HFB := Lib.hid hfb
  have hAp := Lib.hid fun W (hb : Below w.heap.size w W) => Apply_calls s t y x W (IsRow.below TermR.ok HY.out hb) (HX.out.below hb)
  obtain ⟨xa, xc, rfl⟩ := hx.isSlice
  obtain ⟨ya, yc, rfl⟩ := IsRow.isSlice hy
  by_cases hE : lnE fb l t = 0
  · have hz := Lib.hid (lnE_zero hE)
    have hmem := Lib.hid fun ls (h : LnOk fb l t ls) => lnOk_mem h hE
    have hlen := Lib.hid fun ls (h : LnOk fb l t ls) => lnOk_len h
    rw [hE] at hA
    clear hE hv hx hy hfb
    by_cases hF : applyE s t = 0
    · have hS0 : chkS s = 0 := by
        unfold applyE at hF
        by_cases h : chkS s = 0
        · exact h
        · rw [if_pos h] at hF; exact hF
      have hlt30 : (app s t).length ≤ 30 := by
        unfold applyE at hF
        rw [if_neg (by rw [hS0]; decide), if_neg (by rw [hz.out.2.1]; decide)] at hF
        by_cases h : 30 < (app s t).length
        · rw [if_pos h] at hF; cases hF
        · omega
      have hRS := Lib.hid (chkS_zero.1 hS0)
      have hT2 : applyT s t = app s t := if_pos hF
      rw [hF, hT2] at hAp
      have hcu := chk_app hRS.out hz.out.2.1 hlt30
      have hask : askE l (app s t) = 0 := by
        unfold askE
        rw [if_pos (rulesE_zero.2 hz.out.1)]; exact hcu
      have hSE := Lib.hid fun W (hb : Below w.heap.size w W) => SubError_calls s (.slice ya s.length yc) W (IsRow.below TermR.ok HY.out hb)
      have hTE := Lib.hid fun W (hb : Below w.heap.size w W) => TermError_calls t (.slice xa t.length xc) W (HX.out.below hb)
      rw [hS0] at hSE
      rw [hz.out.2.1] at hTE
      have hsE : stepsE l (app s t) = stE l (app s t) := if_pos hask
      have hsL : stepsL l (app s t) = stL l (app s t) := if_pos hask
      have hSt := Lib.hid fun q W (hb : Below w.heap.size w W) (hq : IsInts Any W q (app s t)) => Steps_calls l (app s t) v q W (HV.out.below RuleR.ok hb) hq
      rw [hsE] at hSt
      have hPl := Lib.hid fun k => Nat.le_trans (plK_le s t k) hlt30
      have hle := stepsL_le l (app s t)
      have hmost : Hid (∀ ls, LnOk fb l t ls → stE l (app s t) = 0 → ∀ k, k < t.length → 0 ≤ nth t k → ∀ st ∈ stepsL l (app s t), st.2.1 = plK s t k → lnH ls k st.1 ls.length = true) := by
        intro ls hls h0 k hk h0k st hst hat
        have hnb : ¬ stB l (app s t) = true := fun h => by rw [show stE l (app s t) = 2 from if_pos h] at h0; cases h0
        have hsA : stepsL l (app s t) = allP l (app s t) (app s t).length := by rw [hsL]; exact if_neg hnb
        rw [hsA] at hst
        obtain ⟨yy, q1, q2, q3⟩ := lean_most HFB.out hz.out.1 hz.out.2.1 hz.out.2.2.1 hz.out.2.2.2 hRS.out hcu hk h0k hst hat
        exact lnH_all ((hmem.out ls hls).mem_iff.2 q1) q2 q3
      have hnx := Lib.hid fun k (hk : k < t.length) => plK_next (s := s) hk
      have hsig := Lib.hid (signs_of_chk hz.out.2.1)
      have hs8 := Lib.hid hRS.out.1
      have hz0 : Hid (plK s t 0 = 0) := rfl
      have hlt30' := Lib.hid hlt30
      have hq30 := Lib.hid fun (q : Value) W (h : IsInts (Fr w.heap.size) W q (app s t)) => h.any
      clear hS0 hT2 hcu hask hsL hsE hF hlt30 hq30
      generalize app s t = u at *
      generalize stepsL l u = sl at *
      have hsli : (sl.length : Int) ≤ 1000000 := by omega
      have htl := len_of_chk hz.out.2.1
      by_cases hst0 : stE l u = 0
      · rw [hst0] at hSt hmost
        clear hst0
        go_enter Try.func31, Try.ntmps31
        go_wp2_with fail
        refine hA.out.mono ?_
        rintro e w1 ⟨lv, ls, rfl, hls, hlv, hB1⟩
        have HM := Lib.hid (hmost.out ls hls trivial)
        have hl240 := hlen.out ls hls
        have HL := Lib.hid (IsRow.any LeanR.ok hlv)
        have HB1 := Lib.hid hB1
        have hAp2 := Lib.hid (hAp.out w1 hB1)
        obtain ⟨la, lc, hlvs⟩ := hlv.isSlice
        subst hlvs
        clear hlv hls hB1 hA hAp hmost hlen
        go_wp2_with fail
        refine hAp2.out.mono ?_
        rintro e w2 ⟨q, rfl, hq, hB2⟩
        have HQ := Lib.hid hq.any
        have HB2 := Lib.hid (ext_trans HB1.out hB2)
        have HL2 := Lib.hid (IsRow.below LeanR.ok HL.out hB2)
        clear hq hB2 HL HB1 hAp2
        go_wp2_with fail
        refine (hSE.out w2 HB2.out).mono ?_
        rintro e w' ⟨rfl, rfl⟩
        go_wp2_with fail
        refine (hTE.out w2 HB2.out).mono ?_
        rintro e w' ⟨rfl, rfl⟩
        go_wp2_with fail
        refine (hSt.out q w2 HB2.out HQ.out).mono ?_
        rintro e w3 ⟨sv, rfl, hsv, hB3⟩
        obtain ⟨sa, sc, hsvs⟩ := hsv.isSlice
        subst hsvs
        have HS3 := Lib.hid (IsRow.any StepR.ok hsv)
        have HB3 := Lib.hid (ext_trans HB2.out hB3)
        have HL3 := Lib.hid (IsRow.below LeanR.ok HL2.out hB3)
        clear hsv hB3 HL2 HB2 hSt hSE hTE HQ
        go_wp2_with fail
        go_loopw [13, 14] (fun s13 s14 wr => ∃ k : Nat, k ≤ t.length ∧ s14 = .int .i64 k ∧ s13 = .int .i64 (plK s t k : Nat) ∧ Hid (Below w3.heap.size w3 wr)) (fun _ s14 _ => t.length - (intOf s14).toNat)
        case atStart => exact ⟨0, Nat.zero_le _, rfl, by rw [hz0.out]; rfl, .refl _ _⟩
        case round =>
          rename World => wr
          obtain ⟨k, hk, rfl, rfl, hBk⟩ := hrel
          by_cases hlt : k < t.length
          · have hkk : (k : Int) < t.length := by omega
            obtain ⟨tb, tob, tc, e⟩ := HX.out.cells (by intro h; rw [h] at hlt; simp at hlt)
            cases e
            have hcell := (HX.out.below (ext_trans HB3.out hBk.out)).cell hlt
            have hP30 := hPl.out k
            have hPn := Lib.hid (hnx.out k hlt)
            obtain ⟨hn8, hn6⟩ := hsig.out _ (nth_mem hlt)
            by_cases h0 : nth t k < 0
            · obtain ⟨j, hj⟩ : ∃ j : Nat, (j : Int) = -1 - nth t k := ⟨(-1 - nth t k).toNat, by omega⟩
              have hjl : j < s.length := by rw [hs8.out]; omega
              obtain ⟨yb, yo, yc2, yu, e, hyc, hyu⟩ := row_cell (IsRow.below TermR.ok HY.out (ext_trans HB3.out hBk.out)) hjl
              cases e
              obtain ⟨yua, yuc, rfl⟩ := hyu.isSlice
              have hsb : Hid ((sb s (nth t k)).length = (nthT s j).length) := by
                rw [Hid, sb, if_pos h0, show (-1 - nth t k).toNat = j by omega]
              have hsum : ((plK s t k : Nat) : Int) + ((nthT s j).length : Int) ≤ 30 := by
                have h1 := hPl.out (k + 1)
                rw [hPn.out, hsb.out] at h1
                omega
              have hjj : -nth t k - 1 = (j : Int) := by omega
              have hjli : (j : Int) < s.length := by omega
              clear hj hyu
              generalize nth t k = n at *
              generalize plK s t k = P at *
              go_wp2_with fail
              go_roundw
              case rel => exact ⟨k + 1, by omega, by go_num, by rw [hPn.out, hsb.out, Int.natCast_add], hBk.out⟩
              case measure => simp [intOf]; omega
            · have hsb : Hid ((sb s (nth t k)).length = 1) := by rw [Hid, sb, if_neg h0]; rfl
              have HMk := Lib.hid fun st (h : st ∈ sl) => HM.out k hlt (by omega) st h
              generalize nth t k = n at *
              generalize plK s t k = P at *
              go_wp2_with fail
              go_loopw [15] (fun s15 wi => ∃ i : Nat, i ≤ sl.length ∧ s15 = .int .i64 i ∧ Hid (Below w3.heap.size w3 wi)) (fun s15 _ => sl.length - (intOf s15).toNat)
              case atStart => exact ⟨0, Nat.zero_le _, rfl, hBk.out⟩
              case round =>
                rename World => wi
                obtain ⟨i, hi, rfl, hBi⟩ := hrel
                by_cases hli : i < sl.length
                · have hii : (i : Int) < sl.length := by omega
                  obtain ⟨sb0, so0, sc0, su0, e, -, d0, d1, -, -⟩ := steps_cell (IsRow.below StepR.ok HS3.out hBi.out) hli
                  cases e
                  have HMi := Lib.hid (HMk.out _ (nthS_mem hli))
                  by_cases hat : (nthS sl i).2.1 = P
                  · have hatb : (((nthS sl i).2.1 : Int) != (P : Int)) = false := by rw [hat]; simp
                    have hyes := Lib.hid (HMi.out hat)
                    have hD0 : Hid (∀ W, Below w3.heap.size w3 W → W.cell? ⟨sb0, so0 + i * 3, none⟩ = some (.int .i64 (nthS sl i).1)) := fun W hb => by
                      obtain ⟨_, _, _, _, e, -, q0, -⟩ := steps_cell (IsRow.below StepR.ok HS3.out hb) hli
                      cases e; exact q0
                    clear HMi hat
                    generalize (nthS sl i).2.1 = g2 at *
                    generalize (nthS sl i).1 = g1 at *
                    go_wp2_with fail
                    go_loopw [16, 17] (fun s16 s17 wn => ∃ m : Nat, m ≤ ls.length ∧ s17 = .int .i64 m ∧ s16 = .bool (lnH ls k g1 m) ∧ Hid (Below w3.heap.size w3 wn)) (fun _ s17 _ => ls.length - (intOf s17).toNat)
                    case atStart => exact ⟨0, Nat.zero_le _, rfl, by rw [lnH]; rfl, hBi.out⟩
                    case round =>
                      rename World => wn
                      obtain ⟨m, hm, rfl, rfl, hBn⟩ := hrel
                      by_cases hlm : m < ls.length
                      · have hmm : (m : Int) < ls.length := by omega
                        obtain ⟨lb, lo, lc2, lu, lx, e, -, q0, q1, -, -, -, -⟩ := leans_cell (IsRow.below LeanR.ok HL3.out hBn.out) hlm
                        cases e
                        have d3 := hD0.out wn hBn.out
                        have hsuc := Lib.hid (lnH_succ (k := k) (rl := g1) hlm)
                        cases hs : lnH ls k g1 m
                        · rw [hs] at hsuc
                          clear hs
                          by_cases ha : (nthN ls m).2.1 = k
                          · have hab : (((nthN ls m).2.1 : Int) == (k : Int)) = true := by rw [ha]; simp
                            rw [decide_eq_true ha] at hsuc
                            clear ha
                            by_cases hr : (nthN ls m).1 = g1
                            · have hrb : (((nthN ls m).1 : Int) == (g1 : Int)) = true := by rw [hr]; simp
                              rw [decide_eq_true hr] at hsuc
                              clear hr
                              generalize (nthN ls m).2.1 = z2 at *
                              generalize (nthN ls m).1 = z1 at *
                              go_wp2_with fail
                              go_quiet (fail)
                              go_wp2_with fail
                              go_roundw
                              case rel => exact ⟨m + 1, by omega, by go_num, by rw [hsuc.out]; rfl, ext_trans hBn.out (below_drewN _ _ _)⟩
                              case measure => simp [intOf]; omega
                            · have hrb : (((nthN ls m).1 : Int) == (g1 : Int)) = false := by rw [beq_eq_false_iff_ne]; omega
                              rw [decide_eq_false hr] at hsuc
                              clear hr
                              generalize (nthN ls m).2.1 = z2 at *
                              generalize (nthN ls m).1 = z1 at *
                              go_wp2_with fail
                              go_quiet (fail)
                              go_wp2_with fail
                              go_roundw
                              case rel => exact ⟨m + 1, by omega, by go_num, by rw [hsuc.out]; rfl, ext_trans hBn.out (below_drewN _ _ _)⟩
                              case measure => simp [intOf]; omega
                          · have hab : (((nthN ls m).2.1 : Int) == (k : Int)) = false := by rw [beq_eq_false_iff_ne]; omega
                            rw [decide_eq_false ha] at hsuc
                            clear ha
                            generalize (nthN ls m).2.1 = z2 at *
                            generalize (nthN ls m).1 = z1 at *
                            go_wp2_with fail
                            go_quiet (fail)
                            go_wp2_with fail
                            go_roundw
                            case rel => exact ⟨m + 1, by omega, by go_num, by rw [hsuc.out]; rfl, ext_trans hBn.out (below_drewN _ _ _)⟩
                            case measure => simp [intOf]; omega
                        · rw [hs] at hsuc
                          clear hs
                          generalize (nthN ls m).2.1 = z2 at *
                          generalize (nthN ls m).1 = z1 at *
                          go_wp2_with fail
                          go_quiet (fail)
                          go_wp2_with fail
                          go_roundw
                          case rel => exact ⟨m + 1, by omega, by go_num, by rw [hsuc.out]; rfl, ext_trans hBn.out (below_drewN _ _ _)⟩
                          case measure => simp [intOf]; omega
                      · obtain rfl : m = ls.length := by omega
                        rw [hyes.out]
                        go_wp2_with fail
                        go_roundw
                        case rel => exact ⟨i + 1, by omega, by go_num, hBn.out⟩
                        case measure => simp [intOf]; omega
                  · have hatb : (((nthS sl i).2.1 : Int) != (P : Int)) = true := by rw [bne_iff_ne]; omega
                    clear HMi hat
                    generalize (nthS sl i).2.1 = g2 at *
                    generalize (nthS sl i).1 = g1 at *
                    go_wp2_with fail
                    go_roundw
                    case rel => exact ⟨i + 1, by omega, by go_num, hBi.out⟩
                    case measure => simp [intOf]; omega
                · obtain rfl : i = sl.length := by omega
                  go_wp2_with fail
                  go_roundw
                  case rel => exact ⟨k + 1, by omega, by go_num, by rw [hPn.out, hsb.out, Int.natCast_add]; rfl, hBi.out⟩
                  case measure => simp [intOf]; omega
          · obtain rfl : k = t.length := by omega
            go_wp2_with fail
            refine (hLB.out wr).mono ?_
            rintro e w5 ⟨rfl, hB5⟩
            go_wp2_with fail
            go_ret
            exact ⟨rfl, ext_trans (ext_trans HB3.out hBk.out) hB5⟩
      · have hstb : (stE l u != 0) = true := by simpa using hst0
        clear hst0 hmost
        generalize stE l u = E2 at *
        go_enter Try.func31, Try.ntmps31
        go_wp2_with fail
        refine hA.out.mono ?_
        rintro e w1 ⟨lv, ls, rfl, -, hlv, hB1⟩
        have HB1 := Lib.hid hB1
        have hAp2 := Lib.hid (hAp.out w1 hB1)
        obtain ⟨la, lc, hlvs⟩ := hlv.isSlice
        subst hlvs
        clear hlv hB1 hA hAp
        go_wp2_with fail
        refine hAp2.out.mono ?_
        rintro e w2 ⟨q, rfl, hq, hB2⟩
        have HQ := Lib.hid hq.any
        have HB2 := Lib.hid (ext_trans HB1.out hB2)
        clear hq hB2 HB1 hAp2
        go_wp2_with fail
        refine (hSE.out w2 HB2.out).mono ?_
        rintro e w' ⟨rfl, rfl⟩
        go_wp2_with fail
        refine (hTE.out w2 HB2.out).mono ?_
        rintro e w' ⟨rfl, rfl⟩
        go_wp2_with fail
        refine (hSt.out q w2 HB2.out HQ.out).mono ?_
        rintro e w3 ⟨sv, rfl, hsv, hB3⟩
        obtain ⟨sa, sc, hsvs⟩ := hsv.isSlice
        subst hsvs
        have HB3 := Lib.hid (ext_trans HB2.out hB3)
        clear hsv hB3 HB2 hSt hSE hTE HQ
        go_wp2_with fail
        refine (hLB.out w3).mono ?_
        rintro e w5 ⟨rfl, hB5⟩
        go_wp2_with fail
        go_ret
        exact ⟨rfl, ext_trans HB3.out hB5⟩
    · have hFb : (applyE s t != 0) = true := by simpa using hF
      clear hF hmem hlen
      generalize applyE s t = E3 at *
      generalize applyT s t = u at *
      go_enter Try.func31, Try.ntmps31
      go_wp2_with fail
      refine hA.out.mono ?_
      rintro e w1 ⟨lv, ls, rfl, -, hlv, hB1⟩
      have HB1 := Lib.hid hB1
      have hAp2 := Lib.hid (hAp.out w1 hB1)
      obtain ⟨la, lc, hlvs⟩ := hlv.isSlice
      subst hlvs
      clear hlv hB1 hA hAp
      go_wp2_with fail
      refine hAp2.out.mono ?_
      rintro e w2 ⟨q, rfl, hq, hB2⟩
      have HB2 := Lib.hid (ext_trans HB1.out hB2)
      clear hq hB2 HB1 hAp2
      go_wp2_with fail
      refine (hLB.out w2).mono ?_
      rintro e w5 ⟨rfl, hB5⟩
      go_wp2_with fail
      go_ret
      exact ⟨rfl, ext_trans HB2.out hB5⟩
  · have hEb : (lnE fb l t != 0) = true := by simpa using hE
    clear hE hv hx hy hfb
    generalize lnE fb l t = E at *
    generalize applyE s t = E3 at *
    generalize applyT s t = u at *
    go_enter Try.func31, Try.ntmps31
    go_wp2_with fail
    refine hA.out.mono ?_
    rintro e w1 ⟨lv, ls, rfl, -, hlv, hB1⟩
    have HB1 := Lib.hid hB1
    have hAp2 := Lib.hid (hAp.out w1 hB1)
    obtain ⟨la, lc, hlvs⟩ := hlv.isSlice
    subst hlvs
    clear hlv hB1 hA hAp
    go_wp2_with fail
    refine hAp2.out.mono ?_
    rintro e w2 ⟨q, rfl, hq, hB2⟩
    have HB2 := Lib.hid (ext_trans HB1.out hB2)
    clear hq hB2 HB1 hAp2
    go_wp2_with fail
    refine (hLB.out w2).mono ?_
    rintro e w5 ⟨rfl, hB5⟩
    go_wp2_with fail
    go_ret
    exact ⟨rfl, ext_trans HB2.out hB5⟩

end Go.Proofs.Ytepddehodmljeaa
