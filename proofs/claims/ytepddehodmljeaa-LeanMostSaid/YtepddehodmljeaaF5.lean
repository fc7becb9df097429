/- Walks: RulesTrue. -/
import Derived.Test.YtepddehodmljeaaF4
import Derived.Test.YtepddehodmljeaaPr
import Derived.Test.YtepddehodmljeaaR7
import Derived.Deep.DeepCutAuto
namespace Go.Proofs.Ytepddehodmljeaa
open Go.RowKit Go.Maps

theorem rule_cell {S : Blk} {w : World} {v : Value} {l : Rus} (h : IsRules S w v l) {j : Nat} (hj : j < l.length) :
    ∃ b o c u x, v = .slice (some ⟨b, o, none⟩) l.length c ∧ b < w.heap.size ∧ w.cell? ⟨b, o + j * 2, none⟩ = some u ∧ w.cell? ⟨b, o + j * 2 + 1, none⟩ = some x ∧ IsInts S w u (nthR l j).1 ∧ IsInts S w x (nthR l j).2 := by
  obtain ⟨hlen, ⟨rfl, a, c, rfl⟩ | ⟨b, o, c, rfl, hlt, -, hc⟩⟩ := h.cells
  · simp at hj
  · obtain ⟨u, x, h1, h2, h3, h4⟩ := hc j hj
    exact ⟨b, o, c, u, x, rfl, hlt, h1, h2, h3, h4⟩

/-- Is the letter y no variable, or among the first n of t? -/
def seenK (t : List Int) (y : Int) : Nat → Bool
  | 0 => decide (0 ≤ y)
  | n + 1 => seenK t y n || nth t n == y
theorem seenK_of {t : List Int} {y : Int} (h : 0 ≤ y ∨ y ∈ t) : seenK t y t.length = true := by
  have key : ∀ n, (0 ≤ y ∨ ∃ j, j < n ∧ nth t j = y) → seenK t y n = true := by
    intro n
    induction n with
    | zero => rintro (h | ⟨j, h, -⟩); exact decide_eq_true h; omega
    | succ n ih =>
      intro h
      rw [seenK, Bool.or_eq_true]
      rcases h with h | ⟨j, hj, h⟩
      · exact .inl (ih (.inl h))
      · by_cases e : j = n
        · subst e; exact .inr (by simpa using h)
        · exact .inl (ih (.inr ⟨j, by omega, h⟩))
  refine key _ ?_
  rcases h with h | h
  · exact .inl h
  · obtain ⟨j, hj, rfl⟩ := List.getElem_of_mem h
    exact .inr ⟨j, hj, nth_eq hj⟩

set_option maxRecDepth 100000 in
set_option maxHeartbeats 8000000 in
theorem RulesTrue_calls (r : List Int) (l : Rus) (t : List Int) (k : Int) (rv v x : Value) (w : World) (hr : IsInts Any w rv r) (hv : IsRules Any w v l) (hx : IsInts Any w x t) (hk : -9223372036854775808 ≤ k ∧ k ≤ 9223372036854775807) :
    Calls Try.prog 27 #[rv, v, x, .int .i64 k] w fun e w' => e = .returned (.bool true) ∧ Below w.heap.size w w' := by
  obtain ⟨hk1, hk2⟩ := hk
  obtain ⟨ra, rc, rfl⟩ := hr.isSlice
  obtain ⟨va, vc, rfl⟩ := hv.isSlice
  obtain ⟨xa, xc, rfl⟩ := hx.isSlice
  by_cases he : fallsE r l = 0
  · by_cases hf : stepsE l t = 0
    · obtain ⟨hrk, hl⟩ := fallsE_zero he
      have hask : askE l t = 0 := by
        by_cases h : askE l t = 0
        · exact h
        · rw [stepsE, if_neg h] at hf; exact hf
      have ht := (askE_zero hask).2
      have hst : stE l t = 0 := by rwa [stepsE, if_pos hask] at hf
      have hL : stepsL l t = allP l t t.length := by rw [stepsL, if_pos hask, (stL_of hst).1]
      have hE := Lib.hid (And.intro he hf)
      have hcnt := Lib.hid (show cntN l t l.length = (stepsL l t).length by rw [hL, cnt_all])
      have hS := Lib.hid (show ∀ s ∈ stepsL l t, aboveE r t s.2.2 = 0 ∧ (fallsB r l = true → aboveB r t s.2.2 = true) ∧ (∀ y ∈ s.2.2, 0 ≤ y ∨ y ∈ t) ∧ s.2.2.length ≤ 30 from fun s hs => by
        have h1 : chk s.2.2 = 0 := step_chk' hl ht hst (by rw [(stL_of hst).1, ← hL]; exact hs)
        have h2 := aboveE_of hrk ht h1
        rw [hL] at hs
        refine ⟨h2, fun hf => ?_, fun y hy => ?_, len_of_chk h1⟩
        · rw [aboveB_of h2]
          rw [fallsB, Bool.and_eq_true] at hf
          exact step_below hl hf.2 ht hs
        · by_cases h0 : 0 ≤ y
          · exact .inl h0
          · exact .inr (step_vars hl ht hs y hy (by omega)))
      have hll := stepsL_le l t
      have htl := len_of_chk ht
      have hl8 := hl.1
      have hLL := Lib.hid fun n (hn : n < l.length) => show chk2 t (nthR l n).1 = 0 from by
        rw [chk2, if_pos ht]; exact (ruleE_chk (hl.2 _ (nthR_mem hn))).1
      have hTT := Lib.hid ht
      clear he hf hrk hl hask ht hst hL
      go_enter Try.func27, Try.ntmps27
      go_wp2_with fail
      refine (Falls_calls r l _ _ w hr hv).mono ?_
      rintro e w1 ⟨rfl, hB1⟩
      rw [hE.out.1]
      replace hr := hr.below hB1
      replace hv := hv.below RuleR.ok hB1
      replace hx := hx.below hB1
      go_wp2_with fail
      refine (Steps_calls l t _ _ w1 hv hx).mono ?_
      rintro e w2 ⟨y, rfl, hy, hB2⟩
      replace hr := hr.below hB2
      replace hv := hv.below RuleR.ok hB2
      replace hx := hx.below hB2
      replace hB1 := ext_trans hB1 hB2
      clear hB2
      replace hy := hy.mono StepR.ok .toAny
      obtain ⟨ya, yc, rfl⟩ := hy.isSlice
      rw [hE.out.2]
      have HR := Lib.hid hr
      have HV := Lib.hid hv
      have HX := Lib.hid hx
      have HY := Lib.hid hy
      have HB1 := Lib.hid hB1
      clear hr hv hx hy hB1
      generalize hsl : stepsL l t = sl at *
      clear hsl
      generalize fallsB r l = fb at *
      go_wp2_with fail
      go_loopw [13, 14] (fun c i wr => ∃ n : Nat, n ≤ l.length ∧ i = .int .i64 n ∧ c = .int .i64 (cntN l t n) ∧ Hid (Below w2.heap.size w2 wr)) (fun _ i _ => l.length - (intOf i).toNat)
      case atStart => exact ⟨0, Nat.zero_le _, rfl, rfl, .refl _ _⟩
      case round =>
        obtain ⟨n, hn, rfl, rfl, hR⟩ := hrel
        by_cases hlt : n < l.length
        · obtain ⟨b, o, c, u, x, e1, -, hcu, -, hu, -⟩ := rule_cell (HV.out.below RuleR.ok hR.out) hlt
          cases e1
          obtain ⟨ua, uc, rfl⟩ := hu.isSlice
          have hii : (n : Int) < l.length := by omega
          have hcn : (cntN l t n : Int) ≤ 240 := by
            have h1 := cntN_le l t n
            have h2 : n * t.length ≤ 8 * 30 := Nat.mul_le_mul (by omega) htl
            omega
          have hol : ((ovr t (nthR l n).1 t.length).length : Int) ≤ 30 := by
            have h2 := ovr_len t (nthR l n).1 t.length
            omega
          have hcs : Hid (cntN l t (n + 1) = cntN l t n + (ovr t (nthR l n).1 t.length).length) := rfl
          generalize cntN l t n = c0 at *
          go_wp2_with fail
          refine (Over_ok t (nthR l n).1 _ _ wr (HX.out.below hR.out) hu (hLL.out n hlt)).mono ?_
          rintro e w3 ⟨z, rfl, hz, hB3⟩
          obtain ⟨za, zc, rfl⟩ := hz.isSlice
          generalize (ovr t (nthR l n).1 t.length).length = o1 at *
          go_wp2_with fail
          go_roundw
          case rel => exact ⟨n + 1, by omega, by go_num, by rw [hcs.out]; go_num, ext_trans hR.out hB3⟩
          case measure => simp [intOf]; omega
        · obtain rfl : n = l.length := by omega
          rw [hcnt.out]
          clear hcnt hLL
          by_cases h0 : sl.length = 0
          · have h0' : ((sl.length : Int) == 0) = true := by simpa using h0
            clear h0
            go_wp2_with fail
            refine (rulesBegun_calls wr).mono ?_
            rintro e w3 ⟨rfl, hB3⟩
            go_wp2_with fail
            go_ret
            exact ⟨rfl, ext_trans (ext_trans HB1.out hR.out) hB3⟩
          · have h0' : ((sl.length : Int) == 0) = false := by simpa using h0
            obtain ⟨hat1, hat2⟩ := chs_lt (c := k) (n := sl.length) (by omega)
            have hCH := Lib.hid (choose_calls k sl.length (by omega) hk1 hk2 wr)
            generalize chs k sl.length = at0 at *
            obtain ⟨m, rfl⟩ : ∃ m : Nat, at0 = m := ⟨at0.toNat, by omega⟩
            have hm : m < sl.length := by omega
            obtain ⟨b, o, c, z, e1, hbl, hc1, hc2, hc3, hz⟩ := steps_cell (HY.out.below StepR.ok hR.out) hm
            cases e1
            obtain ⟨za, zc, rfl⟩ := hz.isSlice
            obtain ⟨g1, g2, g3, g4⟩ := hS.out _ (nthS_mem hm)
            have hG1 := Lib.hid g1
            have hG2 := Lib.hid g2
            have hG3 := Lib.hid g3
            clear g1 g2 g3 hS hk1 hk2
            generalize (nthS sl m).1 = s1 at *
            generalize (nthS sl m).2.1 = s2 at *
            generalize (nthS sl m).2.2 = s3 at *
            go_wp2_with fail
            refine hCH.out.mono ?_
            rintro e w3 ⟨rfl, rfl⟩
            have hba := below_alloc wr (.cells #[.int .i64 s1, .int .i64 s2, .slice za s3.length zc] 96)
            have HZ := Lib.hid (hz.below hba)
            have HX1 := Lib.hid ((HX.out.below hR.out).below hba)
            have hr1 := (HR.out.below hR.out).below hba
            have HB3 := Lib.hid (ext_trans (ext_trans HB1.out hR.out) hba)
            have hA := Lib.hid (Above_calls r t s3 _ _ _ _ hr1 HX1.out HZ.out)
            clear hz hr1 hba
            go_wp2_with fail
            refine hA.out.mono ?_
            rintro e w4 ⟨rfl, hB4⟩
            rw [hG1.out]
            have hbx : Hid (w4.cell? ⟨wr.heap.size, 2, none⟩ = some (.slice za s3.length zc)) := (hB4.cell (p := ⟨wr.heap.size, 2, none⟩) (by simp)).trans (World.cell?_alloc_at _ _ _ _ rfl)
            have hbl4 : wr.heap.size < w4.heap.size := World.block_lt_of_cell? _ _ hbx.out
            have HZ4 := Lib.hid (HZ.out.below hB4)
            have HX4 := Lib.hid (HX1.out.below hB4)
            have HB4 := Lib.hid (ext_trans HB3.out hB4)
            clear hB4 HZ HX1 HB3 hA hG1 hR hCH hc1 hc2 hc3 hbl HY HV HX HR HB1 hE
            generalize wr.heap.size = B at *
            have hfb : (fb && !(aboveB r t s3)) = false := by
              cases fb
              · rfl
              · rw [hG2.out rfl]; rfl
            clear hG2
            generalize aboveB r t s3 = ab at *
            have g4' : (s3.length : Int) ≤ 30 := by omega
            have htl' : (t.length : Int) ≤ 30 := by omega
            cases fb
            · clear hfb
              go_wp2_with fail
              go_loopw [20] (fun i wr => ∃ n : Nat, n ≤ s3.length ∧ i = .int .i64 n ∧ Hid (Below w4.heap.size w4 wr)) (fun i _ => s3.length - (intOf i).toNat)
              case atStart => exact ⟨0, Nat.zero_le _, rfl, .refl _ _⟩
              case round =>
                rename World => wi
                obtain ⟨n, hn, rfl, hRi⟩ := hrel
                have hbw := (hRi.out.cell (p := ⟨B, 2, none⟩) hbl4).trans hbx.out
                by_cases hlt : n < s3.length
                · have hnn : (n : Int) < s3.length := by omega
                  have hz3 := HZ4.out.below hRi.out
                  obtain ⟨z1, z2, z3, rfl, rfl⟩ : ∃ z1 z2 z3, za = some ⟨z1, z2, none⟩ ∧ zc = z3 := by
                    obtain ⟨b1, b2, b3, e⟩ := hz3.cells (by intro h; rw [h] at hlt; simp at hlt)
                    cases e
                    exact ⟨_, _, _, rfl, rfl⟩
                  have hcz := hz3.cell hlt
                  have hin : Hid (0 ≤ nth s3 n ∨ nth s3 n ∈ t) := hG3.out _ (by rw [nth_eq hlt]; exact List.getElem_mem hlt)
                  generalize hy : nth s3 n = y at *
                  go_wp2_with fail
                  go_loopw [21, 22] (fun f j wr => ∃ m : Nat, m ≤ t.length ∧ j = .int .i64 m ∧ f = .bool (seenK t y m) ∧ Hid (Below w4.heap.size w4 wr)) (fun _ j _ => t.length - (intOf j).toNat)
                  case atStart => exact ⟨0, Nat.zero_le _, rfl, rfl, hRi.out⟩
                  case round =>
                    rename World => wj
                    obtain ⟨m, hm, rfl, rfl, hRj⟩ := hrel
                    by_cases hlm : m < t.length
                    · have hmm : (m : Int) < t.length := by omega
                      have hbw2 := (hRj.out.cell (p := ⟨B, 2, none⟩) hbl4).trans hbx.out
                      have hcz2 := (HZ4.out.below hRj.out).cell hlt
                      have hx4 := HX4.out.below hRj.out
                      obtain ⟨x1, x2, x3, rfl, rfl⟩ : ∃ z1 z2 z3, xa = some ⟨z1, z2, none⟩ ∧ xc = z3 := by
                        obtain ⟨b1, b2, b3, e⟩ := hx4.cells (by intro h; rw [h] at hlm; simp at hlm)
                        cases e
                        exact ⟨_, _, _, rfl, rfl⟩
                      have hcx2 := hx4.cell hlm
                      clear hx4
                      rw [hy] at hcz2
                      cases hs : seenK t y m
                      · have hP : Hid (seenK t y (m + 1) = (nth t m == y)) := by rw [Hid, seenK, hs]; rfl
                        clear hs
                        generalize nth t m = z at *
                        go_wp2_with fail
                        go_quiet (fail)
                        go_wp2_with fail
                        go_roundw
                        case rel => exact ⟨m + 1, by omega, by go_num, by rw [hP.out], ext_trans hRj.out (below_drewN _ _ _)⟩
                        case measure => simp [intOf]; omega
                      · have hP : Hid (seenK t y (m + 1) = true) := by rw [Hid, seenK, hs]; rfl
                        clear hs
                        go_wp2_with fail
                        go_quiet (fail)
                        go_wp2_with fail
                        go_roundw
                        case rel => exact ⟨m + 1, by omega, by go_num, by rw [hP.out], ext_trans hRj.out (below_drewN _ _ _)⟩
                        case measure => simp [intOf]; omega
                    · obtain rfl : m = t.length := by omega
                      rw [seenK_of hin.out]
                      go_wp2_with fail
                      go_roundw
                      case rel => exact ⟨n + 1, by omega, by go_num, hRj.out⟩
                      case measure => simp [intOf]; omega
                · obtain rfl : n = s3.length := by omega
                  go_wp2_with fail
                  refine (rulesBegun_calls wi).mono ?_
                  rintro e w5 ⟨rfl, hB5⟩
                  go_wp2_with fail
                  go_ret
                  exact ⟨rfl, ext_trans (ext_trans HB4.out hRi.out) hB5⟩
            · have hab : ab = true := by simpa using hfb
              subst hab
              clear hfb
              go_wp2_with fail
              go_loopw [20] (fun i wr => ∃ n : Nat, n ≤ s3.length ∧ i = .int .i64 n ∧ Hid (Below w4.heap.size w4 wr)) (fun i _ => s3.length - (intOf i).toNat)
              case atStart => exact ⟨0, Nat.zero_le _, rfl, .refl _ _⟩
              case round =>
                rename World => wi
                obtain ⟨n, hn, rfl, hRi⟩ := hrel
                have hbw := (hRi.out.cell (p := ⟨B, 2, none⟩) hbl4).trans hbx.out
                by_cases hlt : n < s3.length
                · have hnn : (n : Int) < s3.length := by omega
                  have hz3 := HZ4.out.below hRi.out
                  obtain ⟨z1, z2, z3, rfl, rfl⟩ : ∃ z1 z2 z3, za = some ⟨z1, z2, none⟩ ∧ zc = z3 := by
                    obtain ⟨b1, b2, b3, e⟩ := hz3.cells (by intro h; rw [h] at hlt; simp at hlt)
                    cases e
                    exact ⟨_, _, _, rfl, rfl⟩
                  have hcz := hz3.cell hlt
                  have hin : Hid (0 ≤ nth s3 n ∨ nth s3 n ∈ t) := hG3.out _ (by rw [nth_eq hlt]; exact List.getElem_mem hlt)
                  generalize hy : nth s3 n = y at *
                  go_wp2_with fail
                  go_loopw [21, 22] (fun f j wr => ∃ m : Nat, m ≤ t.length ∧ j = .int .i64 m ∧ f = .bool (seenK t y m) ∧ Hid (Below w4.heap.size w4 wr)) (fun _ j _ => t.length - (intOf j).toNat)
                  case atStart => exact ⟨0, Nat.zero_le _, rfl, rfl, hRi.out⟩
                  case round =>
                    rename World => wj
                    obtain ⟨m, hm, rfl, rfl, hRj⟩ := hrel
                    by_cases hlm : m < t.length
                    · have hmm : (m : Int) < t.length := by omega
                      have hbw2 := (hRj.out.cell (p := ⟨B, 2, none⟩) hbl4).trans hbx.out
                      have hcz2 := (HZ4.out.below hRj.out).cell hlt
                      have hx4 := HX4.out.below hRj.out
                      obtain ⟨x1, x2, x3, rfl, rfl⟩ : ∃ z1 z2 z3, xa = some ⟨z1, z2, none⟩ ∧ xc = z3 := by
                        obtain ⟨b1, b2, b3, e⟩ := hx4.cells (by intro h; rw [h] at hlm; simp at hlm)
                        cases e
                        exact ⟨_, _, _, rfl, rfl⟩
                      have hcx2 := hx4.cell hlm
                      clear hx4
                      rw [hy] at hcz2
                      cases hs : seenK t y m
                      · have hP : Hid (seenK t y (m + 1) = (nth t m == y)) := by rw [Hid, seenK, hs]; rfl
                        clear hs
                        generalize nth t m = z at *
                        go_wp2_with fail
                        go_quiet (fail)
                        go_wp2_with fail
                        go_roundw
                        case rel => exact ⟨m + 1, by omega, by go_num, by rw [hP.out], ext_trans hRj.out (below_drewN _ _ _)⟩
                        case measure => simp [intOf]; omega
                      · have hP : Hid (seenK t y (m + 1) = true) := by rw [Hid, seenK, hs]; rfl
                        clear hs
                        go_wp2_with fail
                        go_quiet (fail)
                        go_wp2_with fail
                        go_roundw
                        case rel => exact ⟨m + 1, by omega, by go_num, by rw [hP.out], ext_trans hRj.out (below_drewN _ _ _)⟩
                        case measure => simp [intOf]; omega
                    · obtain rfl : m = t.length := by omega
                      rw [seenK_of hin.out]
                      go_wp2_with fail
                      go_roundw
                      case rel => exact ⟨n + 1, by omega, by go_num, hRj.out⟩
                      case measure => simp [intOf]; omega
                · obtain rfl : n = s3.length := by omega
                  go_wp2_with fail
                  refine (rulesBegun_calls wi).mono ?_
                  rintro e w5 ⟨rfl, hB5⟩
                  go_wp2_with fail
                  go_ret
                  exact ⟨rfl, ext_trans (ext_trans HB4.out hRi.out) hB5⟩
    · have h' : (stepsE l t != 0) = true := by simpa using hf
      have hE := Lib.hid he
      clear he hf
      go_enter Try.func27, Try.ntmps27
      go_wp2_with fail
      refine (Falls_calls r l _ _ w hr hv).mono ?_
      rintro e w1 ⟨rfl, hB1⟩
      rw [hE.out]
      replace hr := hr.below hB1
      replace hv := hv.below RuleR.ok hB1
      replace hx := hx.below hB1
      go_wp2_with fail
      refine (Steps_calls l t _ _ w1 hv hx).mono ?_
      rintro e w2 ⟨y, rfl, hy, hB2⟩
      replace hr := hr.below hB2
      replace hv := hv.below RuleR.ok hB2
      replace hx := hx.below hB2
      replace hB1 := ext_trans hB1 hB2
      clear hB2
      replace hy := hy.mono StepR.ok .toAny
      obtain ⟨ya, yc, rfl⟩ := hy.isSlice
      go_wp2_with fail
      refine (rulesBegun_calls w2).mono ?_
      rintro e w3 ⟨rfl, hB3⟩
      clear hr hv hx hy
      replace hB1 := ext_trans hB1 hB3
      clear hB3
      go_wp2_with fail
      go_ret
      exact ⟨rfl, hB1⟩
  · have h' : (fallsE r l != 0) = true := by simpa using he
    clear he
    go_enter Try.func27, Try.ntmps27
    go_wp2_with fail
    refine (Falls_calls r l _ _ w hr hv).mono ?_
    rintro e w1 ⟨rfl, hB1⟩
    replace hr := hr.below hB1
    replace hv := hv.below RuleR.ok hB1
    replace hx := hx.below hB1
    go_wp2_with fail
    refine (Steps_calls l t _ _ w1 hv hx).mono ?_
    rintro e w2 ⟨y, rfl, hy, hB2⟩
    replace hr := hr.below hB2
    replace hv := hv.below RuleR.ok hB2
    replace hx := hx.below hB2
    replace hB1 := ext_trans hB1 hB2
    clear hB2
    replace hy := hy.mono StepR.ok .toAny
    obtain ⟨ya, yc, rfl⟩ := hy.isSlice
    go_wp2_with fail
    refine (rulesBegun_calls w2).mono ?_
    rintro e w3 ⟨rfl, hB3⟩
    clear hr hv hx hy
    replace hB1 := ext_trans hB1 hB3
    clear hB3
    go_wp2_with fail
    go_ret
    exact ⟨rfl, hB1⟩

end Go.Proofs.Ytepddehodmljeaa
