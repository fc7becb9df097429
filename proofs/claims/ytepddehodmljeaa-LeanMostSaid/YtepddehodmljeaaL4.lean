/- Walks: LeanTrue. -/
import Derived.Test.YtepddehodmljeaaS8
import Derived.Test.YtepddehodmljeaaL3
import Derived.Test.YtepddehodmljeaaF5
namespace Go.Proofs.Ytepddehodmljeaa
open Go.RowKit Go.Maps

theorem lnE_zero {fb : Fb} {l : Rus} {t : List Int} (h : lnE fb l t = 0) : Rul l ∧ chk t = 0 ∧ ownB t = true ∧ lnB fb l t = false := by
  unfold lnE at h
  by_cases ha : askE l t = 0
  · rw [if_neg (by simp [ha])] at h
    obtain ⟨h1, h2⟩ := askE_zero ha
    by_cases ho : ownB t = false
    · rw [if_pos ho] at h; cases h
    · rw [if_neg ho] at h
      by_cases hb : lnB fb l t = true
      · rw [if_pos hb] at h; cases h
      · exact ⟨h1, h2, by simpa using ho, by simpa using hb⟩
  · rw [if_pos ha] at h; exact absurd h ha
theorem lnOk_mem {fb : Fb} {l : Rus} {t : List Int} {ls : List Ln} (h : LnOk fb l t ls) (he : lnE fb l t = 0) : ls.Perm (lnP fb l t) := by
  unfold LnOk at h
  rw [if_pos he] at h
  exact h.1
theorem lnOk_len {fb : Fb} {l : Rus} {t : List Int} {ls : List Ln} (h : LnOk fb l t ls) : ls.length ≤ 240 := by
  by_cases he : lnE fb l t = 0
  · obtain ⟨h1, h2, -⟩ := lnE_zero he
    have h3 := lnK_le fb l t l.length
    have h4 := len_of_chk h2
    rw [(lnOk_mem h he).length_eq]
    exact Nat.le_trans h3 (Nat.le_trans (Nat.mul_le_mul h1.1 h4) (by decide))
  · unfold LnOk at h
    rw [if_neg he] at h
    rw [h]; simp

/-- Is one of the first steps of this rule, to this term? -/
def stH (sl : List Stp) (n : Nat) (tq : List Int) (i : Nat) : Bool := (sl.take i).any fun s => decide (s.1 = n) && decide (s.2.2 = tq)
theorem stH_succ {sl : List Stp} {n : Nat} {tq : List Int} {i : Nat} (h : i < sl.length) : stH sl n tq (i + 1) = (stH sl n tq i || (decide ((nthS sl i).1 = n) && decide ((nthS sl i).2.2 = tq))) := by
  unfold stH
  rw [List.take_succ_eq_append_getElem h, List.any_append, nthS_eq h]
  simp
theorem stH_all {sl : List Stp} {n : Nat} {tq : List Int} {s : Stp} (hs : s ∈ sl) (h1 : s.1 = n) (h2 : s.2.2 = tq) : stH sl n tq sl.length = true := by
  unfold stH
  rw [List.take_length]
  exact List.any_eq_true.2 ⟨s, hs, by simp [h1, h2]⟩

set_option maxHeartbeats 8000000 in
set_option maxRecDepth 100000 in
theorem LeanTrue_calls (l : Rus) (t : List Int) (k : Int) (v x : Value) (w : World) (hv : IsRules Any w v l) (hx : IsInts Any w x t) (hk : -9223372036854775808 ≤ k ∧ k ≤ 9223372036854775807) :
    Calls Try.prog 30 #[v, x, .int .i64 k] w fun e w' => e = .returned (.bool true) ∧ Below w.heap.size w w' := by
  obtain ⟨fb, hfb⟩ := exists_fb
  have hA := Lib.hid (LAll_calls hfb sortA l t v x w hv hx)
  have hLB := Lib.hid fun W => leanBegun_calls sortA W
  have HV := Lib.hid hv
  have HX := Lib.hid hx
  have HFB := Lib.hid hfb
  by_cases hE : lnE fb l t = 0
  · have hz := Lib.hid (lnE_zero hE)
    have hmem := Lib.hid fun ls (h : LnOk fb l t ls) => lnOk_mem h hE
    have hlen := Lib.hid fun ls (h : LnOk fb l t ls) => lnOk_len h
    rw [hE] at hA
    clear hE hv hx hfb
    go_enter Try.func30, Try.ntmps30
    go_wp2_with fail
    refine hA.out.mono ?_
    rintro e w1 ⟨y, ls, rfl, hls, hy, hB1⟩
    have HP := Lib.hid (hmem.out ls hls)
    have hl240 := hlen.out ls hls
    have HY := Lib.hid (IsRow.any LeanR.ok hy)
    have HB1 := Lib.hid hB1
    obtain ⟨ya, yc, rfl⟩ := hy.isSlice
    clear hls hy hB1 hA hmem hlen
    by_cases h0 : ls.length = 0
    · have h0' : ((ls.length : Int) == 0) = true := by simpa using h0
      clear h0
      go_wp2_with fail
      refine (hLB.out w1).mono ?_
      rintro e w3 ⟨rfl, hB3⟩
      go_wp2_with fail
      go_ret
      exact ⟨rfl, ext_trans HB1.out hB3⟩
    · have h0' : ((ls.length : Int) == 0) = false := by simpa using h0
      obtain ⟨hat1, hat2⟩ := chs_lt (c := k) (n := ls.length) (by omega)
      have hCH := Lib.hid (choose_calls k ls.length (by omega) hk.1 hk.2 w1)
      generalize chs k ls.length = at0 at *
      obtain ⟨m, rfl⟩ : ∃ m : Nat, at0 = m := ⟨at0.toNat, by omega⟩
      have hm : m < ls.length := by omega
      obtain ⟨b, o, c, u, z, e1, hbl, c0, c1, c2, c3, hu, hzz⟩ := leans_cell HY.out hm
      cases e1
      obtain ⟨ua, uc, rfl⟩ := IsRow.isSlice hu
      obtain ⟨za, zc, rfl⟩ := hzz.isSlice
      have hLT := Lib.hid (lean_true HFB.out hz.out.1 hz.out.2.1 (HP.out.mem_iff.1 (nthN_mem hm)))
      generalize nthN ls m = yy at *
      obtain ⟨yn, yk, ys, yt⟩ := yy
      simp only at hLT c0 c1 c2 c3 hu hzz ⊢
      have hba := below_alloc w1 (.cells #[.int .i64 yn, .int .i64 yk, .slice ua ys.length uc, .slice za yt.length zc] 111)
      have HU := Lib.hid (IsRow.below TermR.ok hu hba)
      have HZ := Lib.hid (hzz.below hba)
      have HB2 := Lib.hid (ext_trans HB1.out hba)
      have hAp := Lib.hid (Apply_calls ys t _ x _ HU.out (HX.out.below HB2.out))
      have hchk := Lib.hid (chkS_zero.2 hLT.out.1)
      clear hu hzz hba h0 hk hat1 hat2
      go_wp2_with fail
      refine hCH.out.mono ?_
      rintro e w' ⟨rfl, rfl⟩
      go_wp2_with fail
      refine hAp.out.mono ?_
      rintro e w3 ⟨q, rfl, hq, hB3⟩
      have HB3 := Lib.hid (ext_trans HB2.out hB3)
      have f0 : w3.cell? ⟨w1.heap.size, 0, none⟩ = some (.int .i64 (yn : Int)) := (hB3.cell (p := ⟨w1.heap.size, 0, none⟩) (by simp)).trans (by simp [go_sem])
      have f3 : w3.cell? ⟨w1.heap.size, 3, none⟩ = some (.slice za yt.length zc) := (hB3.cell (p := ⟨w1.heap.size, 3, none⟩) (by simp)).trans (by simp [go_sem])
      have HZ3 := Lib.hid (HZ.out.below hB3)
      have HF : Hid (∀ W, Below w3.heap.size w3 W → W.cell? ⟨w1.heap.size, 0, none⟩ = some (.int .i64 (yn : Int)) ∧ W.cell? ⟨w1.heap.size, 3, none⟩ = some (.slice za yt.length zc)) := fun W hb => by
        have hl3 : w1.heap.size < w3.heap.size := by have := hB3.size; simp at this; omega
        exact ⟨(hb.cell (p := ⟨w1.heap.size, 0, none⟩) hl3).trans f0, (hb.cell (p := ⟨w1.heap.size, 3, none⟩) hl3).trans f3⟩
      clear hB3 f0 f3 HU HZ HB2 c0 c1 c2 c3 hCH hAp
      by_cases hbig : 30 < (app ys t).length
      · have hE2 : applyE ys t = 2 := by
          unfold applyE
          rw [if_neg (by rw [hchk.out]; decide), if_neg (by rw [hz.out.2.1]; decide), if_pos hbig]
        rw [hE2]
        obtain ⟨qa, qc, hqs⟩ := hq.isSlice
        subst hqs
        clear hbig hq hE2
        go_wp2_with fail
        refine (hLB.out w3).mono ?_
        rintro e w4 ⟨rfl, hB4⟩
        go_wp2_with fail
        go_ret
        exact ⟨rfl, ext_trans HB3.out hB4⟩
      · have hE2 : applyE ys t = 0 := by
          unfold applyE
          rw [if_neg (by rw [hchk.out]; decide), if_neg (by rw [hz.out.2.1]; decide), if_neg hbig]
        have hT2 : applyT ys t = app ys t := if_pos hE2
        rw [hE2]
        rw [hT2] at hq
        obtain ⟨hcu, hst⟩ := hLT.out.2 (by omega)
        have hask : askE l (app ys t) = 0 := by
          unfold askE
          rw [if_pos (rulesE_zero.2 hz.out.1)]; exact hcu
        have hSt := Lib.hid (Steps_calls l (app ys t) v q w3 (HV.out.below RuleR.ok HB3.out) hq.any)
        have hsE : stepsE l (app ys t) = stE l (app ys t) := if_pos hask
        have hsL : stepsL l (app ys t) = stL l (app ys t) := if_pos hask
        rw [hsE] at hSt
        obtain ⟨qa, qc, hqs⟩ := hq.isSlice
        subst hqs
        have HST := Lib.hid hst
        clear hbig hE2 hT2 hask hsE hcu hst hq
        by_cases hb2 : stB l (app ys t) = true
        · have h2 : stE l (app ys t) = 2 := if_pos hb2
          rw [h2] at hSt
          clear hb2 h2
          go_wp2_with fail
          refine hSt.out.mono ?_
          rintro e w4 ⟨y4, rfl, hy4, hB4⟩
          obtain ⟨y4a, y4c, hy4s⟩ := hy4.isSlice
          subst hy4s
          have HB4 := Lib.hid (ext_trans HB3.out hB4)
          clear hB4 hy4
          go_wp2_with fail
          refine (hLB.out w4).mono ?_
          rintro e w5 ⟨rfl, hB5⟩
          go_wp2_with fail
          go_ret
          exact ⟨rfl, ext_trans HB4.out hB5⟩
        · have h2 : stE l (app ys t) = 0 := if_neg hb2
          have hsA : stepsL l (app ys t) = allP l (app ys t) (app ys t).length := by rw [hsL]; exact if_neg hb2
          have hle := stepsL_le l (app ys t)
          have hfin : Hid (stH (stepsL l (app ys t)) yn yt (stepsL l (app ys t)).length = true) := by
            obtain ⟨s, hs, q1, q2⟩ := HST.out
            rw [Hid, hsA]
            exact stH_all hs q1 q2
          rw [h2] at hSt
          clear hb2 h2 hsA hsL HST
          generalize stepsL l (app ys t) = sl at *
          have hli : (sl.length : Int) ≤ 1000000 := by omega
          go_wp2_with fail
          refine hSt.out.mono ?_
          rintro e w4 ⟨y4, rfl, hy4, hB4⟩
          obtain ⟨y4a, y4c, hy4s⟩ := hy4.isSlice
          subst hy4s
          have HB4 := Lib.hid (ext_trans HB3.out hB4)
          have HB34 := Lib.hid hB4
          have HY4 := Lib.hid (IsRow.any StepR.ok hy4)
          clear hB4 hy4 hSt
          go_wp2_with fail
          go_loopw [14, 15] (fun s14 s15 wr => ∃ i : Nat, i ≤ sl.length ∧ s15 = .int .i64 i ∧ s14 = .bool (stH sl yn yt i) ∧ Hid (Below w4.heap.size w4 wr)) (fun _ s15 _ => sl.length - (intOf s15).toNat)
          case atStart => exact ⟨0, Nat.zero_le _, rfl, by rw [stH]; rfl, .refl _ _⟩
          case round =>
            rename World => wr
            obtain ⟨i, hi, rfl, rfl, hBi⟩ := hrel
            by_cases hlt : i < sl.length
            · have hii : (i : Int) < sl.length := by omega
              obtain ⟨sb, so, sc, sz, e1, hsb, d0, d1, d2, hsz⟩ := steps_cell (HY4.out.below StepR.ok hBi.out) hlt
              cases e1
              obtain ⟨k0, k3⟩ := HF.out wr (ext_trans HB34.out hBi.out)
              have hsuc := Lib.hid (stH_succ (n := yn) (tq := yt) hlt)
              have hq : Hid (∀ n, Calls Try.prog 39 #[sz, .slice za yt.length zc] (wr.drewN n) fun e w' => e = .returned (.bool (decide ((nthS sl i).2.2 = yt))) ∧ ∃ m, w' = (wr.drewN n).drewN m) := fun n =>
                (SameTerms_calls _ _ _ _ (wr.drewN n) (hsz.below (below_drewN _ _ _)) ((HZ3.out.below (ext_trans HB34.out hBi.out)).below (below_drewN _ _ _))).mono fun e w' h => h
              clear hsz
              cases hs : stH sl yn yt i
              · rw [hs] at hsuc
                clear hs
                by_cases hr : (nthS sl i).1 = yn
                · have hrb : (((nthS sl i).1 : Int) == (yn : Int)) = true := by rw [beq_iff_eq]; omega
                  rw [decide_eq_true hr] at hsuc
                  clear hr
                  generalize (nthS sl i).1 = g1 at *
                  generalize (nthS sl i).2.1 = g2 at *
                  generalize decide ((nthS sl i).2.2 = yt) = g3 at *
                  go_wp2_with fail
                  go_quiet ((go_at_call 39; exact Calls.quiet_of (hq.out _)))
                  go_wp2_with fail
                  go_roundw
                  case rel => exact ⟨i + 1, by omega, by go_num, by rw [hsuc.out]; simp, ext_trans hBi.out (below_drewN _ _ _)⟩
                  case measure => simp [intOf]; omega
                · have hrb : (((nthS sl i).1 : Int) == (yn : Int)) = false := by rw [beq_eq_false_iff_ne]; omega
                  rw [decide_eq_false hr] at hsuc
                  clear hr
                  generalize (nthS sl i).1 = g1 at *
                  generalize (nthS sl i).2.1 = g2 at *
                  go_wp2_with fail
                  go_quiet ((go_at_call 39; exact Calls.quiet_of (hq.out _)))
                  go_wp2_with fail
                  go_roundw
                  case rel => exact ⟨i + 1, by omega, by go_num, by rw [hsuc.out]; rfl, ext_trans hBi.out (below_drewN _ _ _)⟩
                  case measure => simp [intOf]; omega
              · rw [hs] at hsuc
                clear hs
                generalize (nthS sl i).1 = g1 at *
                generalize (nthS sl i).2.1 = g2 at *
                go_wp2_with fail
                go_quiet ((go_at_call 39; exact Calls.quiet_of (hq.out _)))
                go_wp2_with fail
                go_roundw
                case rel => exact ⟨i + 1, by omega, by go_num, by rw [hsuc.out]; rfl, ext_trans hBi.out (below_drewN _ _ _)⟩
                case measure => simp [intOf]; omega
            · obtain rfl : i = sl.length := by omega
              rw [hfin.out]
              go_wp2_with fail
              refine (hLB.out wr).mono ?_
              rintro e w5 ⟨rfl, hB5⟩
              go_wp2_with fail
              go_ret
              exact ⟨rfl, ext_trans (ext_trans HB4.out hBi.out) hB5⟩
  · have hEb : (lnE fb l t != 0) = true := by simpa using hE
    clear hE hv hx hfb
    generalize lnE fb l t = E at *
    go_enter Try.func30, Try.ntmps30
    go_wp2_with fail
    refine hA.out.mono ?_
    rintro e w1 ⟨y, ls, rfl, -, hy, hB1⟩
    have HB1 := Lib.hid hB1
    obtain ⟨ya, yc, hys⟩ := hy.isSlice
    subst hys
    clear hy hB1 hA
    go_wp2_with fail
    refine (hLB.out w1).mono ?_
    rintro e w3 ⟨rfl, hB3⟩
    go_wp2_with fail
    go_ret
    exact ⟨rfl, ext_trans HB1.out hB3⟩

end Go.Proofs.Ytepddehodmljeaa
