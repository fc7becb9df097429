/- Walks: AboveOf, falls, FallsOf; OrderTells and RulesTells. -/
import Derived.Test.YtepddehodmljeaaW3
import Derived.StillTailTactics
namespace Go.Proofs.Ytepddehodmljeaa
open Go.RowKit Go.Maps

theorem AboveOf_calls (r a b : List Int) (rv av bv : Value) (w : World) (hr : IsInts Any w rv r) (hav : IsInts Any w av a) (hbv : IsInts Any w bv b) :
    Calls Try.prog 68 #[rv, av, bv] w fun e w' => e = .returned (.tuple #[.bool (aboveB r a b), .int .i64 (aboveE r a b)]) ∧ Below w.heap.size w w' := by
  have h1 := Lib.hid (RankError_calls r rv w hr)
  have h2 := Lib.hid (twoErrors_calls a b av bv w hav hbv)
  by_cases h : rankE r = 0
  · by_cases hc : chk2 a b = 0
    · have h3 := Lib.hid (rabove_calls r a b (rankE_zero h).1 (chk2_zero hc).1 (chk2_zero hc).2 rv av bv w hr hav hbv)
      have he : aboveE r a b = 0 := by rw [aboveE, if_pos h, hc]
      have hE : Hid (aboveB r a b = gt (rkF r) (tmOf a) (tmOf b) ∧ aboveE r a b = 0) := ⟨aboveB_of he, he⟩
      have hh := Lib.hid (And.intro h hc)
      clear hr hav hbv h hc he
      go_enter Try.func68, Try.ntmps68
      go_wp2_with fail
      refine h1.out.mono ?_
      rintro e w' ⟨rfl, rfl⟩
      rw [hh.out.1]
      go_wp2_with fail
      refine h2.out.mono ?_
      rintro e w' ⟨rfl, rfl⟩
      rw [hh.out.2]
      go_wp2_with fail
      refine h3.out.mono ?_
      rintro e w' ⟨rfl, hB⟩
      go_wp2_with fail
      go_ret2
      rw [hE.out.1, hE.out.2]
      exact ⟨rfl, hB⟩
    · have he : aboveE r a b = chk2 a b := by rw [aboveE, if_pos h]
      have hE : Hid (aboveB r a b = false ∧ aboveE r a b = chk2 a b) := ⟨by rw [aboveB, he, decide_eq_false hc]; rfl, he⟩
      have hh := Lib.hid h
      have h' : (chk2 a b != 0) = true := by simpa using hc
      clear hr hav hbv h hc he
      go_enter Try.func68, Try.ntmps68
      go_wp2_with fail
      refine h1.out.mono ?_
      rintro e w' ⟨rfl, rfl⟩
      rw [hh.out]
      go_wp2_with fail
      refine h2.out.mono ?_
      rintro e w' ⟨rfl, rfl⟩
      go_wp2_with fail
      go_ret2
      rw [hE.out.1, hE.out.2]
      exact ⟨rfl, .refl _ _⟩
  · have he : aboveE r a b = rankE r := by rw [aboveE, if_neg h]
    have hE : Hid (aboveB r a b = false ∧ aboveE r a b = rankE r) := ⟨by rw [aboveB, he, decide_eq_false h]; rfl, he⟩
    have h' : (rankE r != 0) = true := by simpa using h
    clear hr hav hbv h he
    go_enter Try.func68, Try.ntmps68
    go_wp2_with fail
    refine h1.out.mono ?_
    rintro e w' ⟨rfl, rfl⟩
    go_wp2_with fail
    go_ret2
    rw [hE.out.1, hE.out.2]
    exact ⟨rfl, .refl _ _⟩

theorem OrderTells_calls (r a b : List Int) (rv av bv : Value) (w : World) (hr : IsInts Any w rv r) (hav : IsInts Any w av a) (hbv : IsInts Any w bv b) :
    Calls Try.prog 12 #[rv, av, bv] w fun e w' => e = .returned (.bool true) ∧ Below w.heap.size w w' := by
  have h1 := Lib.hid (Above_calls r a b rv av bv w hr hav hbv)
  have h2 := Lib.hid fun W (hb : Below w.heap.size w W) => AboveOf_calls r a b rv av bv W (hr.below hb) (hav.below hb) (hbv.below hb)
  have h3 := Lib.hid fun W => orderBegun_calls W
  have h4 := Lib.hid fun W (hb : Below w.heap.size w W) => RankCheck_calls r rv W (hr.below hb)
  have h5 := Lib.hid fun W (hb : Below w.heap.size w W) => RankError_calls r rv W (hr.below hb)
  clear hr hav hbv
  go_enter Try.func12, Try.ntmps12
  go_wp2_with fail
  refine h1.out.mono ?_
  rintro e w1 ⟨rfl, hB1⟩
  go_wp2_with fail
  refine (h2.out w1 hB1).mono ?_
  rintro e w2 ⟨rfl, hB2⟩
  have hB3 := Lib.hid (ext_trans hB1 hB2)
  clear hB1 hB2
  go_wp2_with (first
    | (go_at_call 69; refine (h3.out _).mono ?_; rintro e w3 ⟨rfl, hB4⟩; have hB5 := Lib.hid (ext_trans hB3.out hB4); clear hB4)
    | (go_at_call 70; refine (h4.out _ hB5.out).mono ?_; rintro e w' ⟨rfl, rfl⟩)
    | (go_at_call 71; refine (h5.out _ hB5.out).mono ?_; rintro e w' ⟨rfl, rfl⟩))
  go_ret
  exact ⟨rfl, hB5.out⟩

set_option maxRecDepth 100000 in
theorem falls_calls (r : List Int) (l : Rus) (hr : r.length = 6) (hl : Rul l) (rv v : Value) (w : World) (hrv : IsInts Any w rv r) (hv : IsRules Any w v l) :
    Calls Try.prog 156 #[rv, v] w fun e w' => e = .returned (.bool (fallsL r l)) ∧ Below w.heap.size w w' := by
  obtain ⟨va, vc, rfl⟩ := hv.isSlice
  have HV := Lib.hid hv
  have HR := Lib.hid hrv
  have HL := Lib.hid hl
  have H6 := Lib.hid hr
  have hl8 : (l.length : Int) ≤ 8 := by have := hl.1; omega
  have hyes : Hid ((∀ j, j < l.length → gt (rkF r) (tmOf (nthR l j).1) (tmOf (nthR l j).2) = true) → fallsL r l = true) := fun h => by
    refine List.all_eq_true.2 fun p hp => ?_
    obtain ⟨j, hj, rfl⟩ := List.getElem_of_mem hp
    have := h j hj
    rwa [nthR_eq hj] at this
  have hnot : Hid (∀ j, j < l.length → gt (rkF r) (tmOf (nthR l j).1) (tmOf (nthR l j).2) = false → fallsL r l = false) := fun j hj h => by
    refine List.all_eq_false.2 ⟨l[j], List.getElem_mem hj, ?_⟩
    rw [nthR_eq hj] at h
    rw [h]; decide
  clear hv hrv hl hr
  generalize fallsL r l = F at *
  go_enter Try.func156, Try.ntmps156
  go_wp2_with fail
  go_loopw [5] (fun i wr => ∃ k : Nat, k ≤ l.length ∧ i = .int .i64 k ∧ Hid (Below w.heap.size w wr ∧ ∀ j, j < k → gt (rkF r) (tmOf (nthR l j).1) (tmOf (nthR l j).2) = true)) (fun i _ => l.length - (intOf i).toNat)
  case atStart => exact ⟨0, Nat.zero_le _, rfl, .refl _ _, fun _ h => by omega⟩
  case round =>
    rename World => wr
    obtain ⟨n, hn, rfl, hR⟩ := hrel
    by_cases hlt : n < l.length
    · obtain ⟨b, o, c, u, x, e1, -, hcu, hcx, hu, hx⟩ := rule_cell (HV.out.below RuleR.ok hR.out.1) hlt
      cases e1
      obtain ⟨a1, c1, e1⟩ := hu.isSlice
      obtain ⟨a2, c2, e2⟩ := hx.isSlice
      subst e1 e2
      have hii : (n : Int) < l.length := by omega
      obtain ⟨k1, k2, -⟩ := ruleE_all (HL.out.2 _ (nthR_mem hlt))
      have hC := Lib.hid (rabove_calls r _ _ H6.out k1 k2 rv _ _ (wr.drewN 1) (HR.out.below (ext_trans hR.out.1 (below_drewN _ _ _))) (hu.below (below_drewN _ _ _)) (hx.below (below_drewN _ _ _)))
      have hcu1 : (wr.drewN 1).cell? ⟨b, o + n * 2, none⟩ = some (.slice a1 (nthR l n).1.length c1) := hcu
      have hcx1 : (wr.drewN 1).cell? ⟨b, o + n * 2 + 1, none⟩ = some (.slice a2 (nthR l n).2.length c2) := hcx
      clear hu hx k1 k2
      go_wp2_with fail
      refine wp_region_still_tail 11 (by kernel_rfl) (by kernel_rfl) ?_
      simp only [List.take_succ_cons, List.take_zero, List.drop_succ_cons, List.drop_zero]
      change wpStill _ _ (wr.drewN 1) _ _ _
      repeat still_step
      refine wpStill_nil ?_
      change wpList _ _ _ _ _ (wr.drewN 1)
      cases hb : gt (rkF r) (tmOf (nthR l n).1) (tmOf (nthR l n).2)
      · have hN := Lib.hid (hnot.out n hlt hb)
        rw [hb] at hC
        clear hb
        go_wp2_with fail
        refine hC.out.mono ?_
        rintro e w2 ⟨rfl, hB2⟩
        go_wp2_with fail
        go_ret
        exact ⟨congrArg (fun c => Ending.returned (.bool c)) hN.out.symm, ext_trans (ext_trans hR.out.1 (below_drewN _ wr 1)) hB2⟩
      · have hN := Lib.hid hb
        rw [hb] at hC
        clear hb
        go_wp2_with fail
        refine hC.out.mono ?_
        rintro e w2 ⟨rfl, hB2⟩
        go_wp2_with fail
        go_roundw
        case rel =>
          refine ⟨n + 1, by omega, by go_num, ext_trans (ext_trans hR.out.1 (below_drewN _ wr 1)) hB2, fun j hj => ?_⟩
          by_cases e : j = n
          · rw [e]; exact hN.out
          · exact hR.out.2 j (by omega)
        case measure => simp [intOf]; omega
    · obtain rfl : n = l.length := by omega
      have hY := Lib.hid (hyes.out hR.out.2)
      go_wp2_with fail
      go_ret
      exact ⟨congrArg (fun c => Ending.returned (.bool c)) hY.out.symm, hR.out.1⟩

theorem FallsOf_calls (r : List Int) (l : Rus) (rv v : Value) (w : World) (hr : IsInts Any w rv r) (hv : IsRules Any w v l) :
    Calls Try.prog 89 #[rv, v] w fun e w' => e = .returned (.tuple #[.bool (fallsB r l), .int .i64 (fallsE r l)]) ∧ Below w.heap.size w w' := by
  have h1 := Lib.hid (RankError_calls r rv w hr)
  have h2 := Lib.hid (RulesError_calls l v w hv)
  by_cases h : rankE r = 0
  · by_cases hc : rulesE l = 0
    · have he : fallsE r l = 0 := by rw [fallsE, if_pos h, hc]
      have h3 := Lib.hid fun W (hb : Below w.heap.size w W) => falls_calls r l (rankE_zero h).1 (fallsE_zero he).2 rv v W (hr.below hb) (hv.below RuleR.ok hb)
      have hE : Hid (fallsB r l = fallsL r l ∧ fallsE r l = 0) := ⟨by rw [fallsB, he]; rfl, he⟩
      have hh := Lib.hid (And.intro h hc)
      clear hr hv h hc he
      go_enter Try.func89, Try.ntmps89
      go_wp2_with fail
      refine h1.out.mono ?_
      rintro e w' ⟨rfl, rfl⟩
      rw [hh.out.1]
      go_wp2_with fail
      refine h2.out.mono ?_
      rintro e w2 ⟨rfl, hB2⟩
      have h4 := Lib.hid (h3.out w2 hB2)
      have HB2 := Lib.hid hB2
      clear hB2
      rw [hh.out.2]
      go_wp2_with fail
      refine h4.out.mono ?_
      rintro e w3 ⟨rfl, hB⟩
      go_wp2_with fail
      go_ret2
      rw [hE.out.1, hE.out.2]
      exact ⟨rfl, ext_trans HB2.out hB⟩
    · have he : fallsE r l = rulesE l := by rw [fallsE, if_pos h]
      have hE : Hid (fallsB r l = false ∧ fallsE r l = rulesE l) := ⟨by rw [fallsB, he, decide_eq_false hc]; rfl, he⟩
      have hh := Lib.hid h
      have h' : (rulesE l != 0) = true := by simpa using hc
      clear hr hv h hc he
      go_enter Try.func89, Try.ntmps89
      go_wp2_with fail
      refine h1.out.mono ?_
      rintro e w' ⟨rfl, rfl⟩
      rw [hh.out]
      go_wp2_with fail
      refine h2.out.mono ?_
      rintro e w2 ⟨rfl, hB2⟩
      go_wp2_with fail
      go_ret2
      rw [hE.out.1, hE.out.2]
      exact ⟨rfl, hB2⟩
  · have he : fallsE r l = rankE r := by rw [fallsE, if_neg h]
    have hE : Hid (fallsB r l = false ∧ fallsE r l = rankE r) := ⟨by rw [fallsB, he, decide_eq_false h]; rfl, he⟩
    have h' : (rankE r != 0) = true := by simpa using h
    clear hr hv h he
    go_enter Try.func89, Try.ntmps89
    go_wp2_with fail
    refine h1.out.mono ?_
    rintro e w' ⟨rfl, rfl⟩
    go_wp2_with fail
    go_ret2
    rw [hE.out.1, hE.out.2]
    exact ⟨rfl, .refl _ _⟩

theorem RulesTells_calls (r : List Int) (l : Rus) (rv v : Value) (w : World) (hr : IsInts Any w rv r) (hv : IsRules Any w v l) :
    Calls Try.prog 24 #[rv, v] w fun e w' => e = .returned (.bool true) ∧ Below w.heap.size w w' := by
  have h1 := Lib.hid (Falls_calls r l rv v w hr hv)
  have h2 := Lib.hid fun W (hb : Below w.heap.size w W) => FallsOf_calls r l rv v W (hr.below hb) (hv.below RuleR.ok hb)
  have h3 := Lib.hid fun W => rulesBegun_calls W
  have h4 := Lib.hid fun W (hb : Below w.heap.size w W) => RCheck_calls l v W (hv.below RuleR.ok hb)
  have h5 := Lib.hid fun W (hb : Below w.heap.size w W) => RulesError_calls l v W (hv.below RuleR.ok hb)
  clear hr hv
  go_enter Try.func24, Try.ntmps24
  go_wp2_with fail
  refine h1.out.mono ?_
  rintro e w1 ⟨rfl, hB1⟩
  go_wp2_with fail
  refine (h2.out w1 hB1).mono ?_
  rintro e w2 ⟨rfl, hB2⟩
  have hB3 := Lib.hid (ext_trans hB1 hB2)
  clear hB1 hB2
  go_wp2_with (first
    | (go_at_call 90; refine (h3.out _).mono ?_; rintro e w3 ⟨rfl, hB4⟩; have hB5 := Lib.hid (ext_trans hB3.out hB4); clear hB4)
    | (go_at_call 91; refine (h4.out _ hB5.out).mono ?_; rintro e w4 ⟨rfl, hB4⟩; have hB6 := Lib.hid (ext_trans hB5.out hB4); clear hB4)
    | (go_at_call 61; refine (h5.out _ hB6.out).mono ?_; rintro e w5 ⟨rfl, hB4⟩; have hB7 := Lib.hid (ext_trans hB6.out hB4); clear hB4))
  go_ret
  exact ⟨rfl, hB7.out⟩

end Go.Proofs.Ytepddehodmljeaa
