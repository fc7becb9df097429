/- Walks: OrderTrue. -/
import Derived.Test.YtepddehodmljeaaO6
import Derived.Test.YtepddehodmljeaaR7
namespace Go.Proofs.Ytepddehodmljeaa
open Go.RowKit Go.Maps

theorem part_ok {t : List Int} (ht : chk t = 0) {k : Nat} (hk : k < t.length) : plc t k = 0 ∧ partT t k = paT t k := by
  have h : plc t k = 0 := by rw [plc, if_pos ht, if_pos ⟨by omega, by omega⟩]
  exact ⟨h, by rw [partT, if_pos h, Int.toNat_natCast]⟩

set_option maxRecDepth 100000 in
set_option maxHeartbeats 8000000 in
theorem OrderTrue_calls (r a b c : List Int) (k : Int) (rv av bv cv : Value) (w : World) (hr : IsInts Any w rv r) (ha : IsInts Any w av a) (hb : IsInts Any w bv b) (hc : IsInts Any w cv c) (hk : -9223372036854775808 ≤ k ∧ k ≤ 9223372036854775807) :
    Calls Try.prog 15 #[rv, av, bv, cv, .int .i64 k] w fun e w' => e = .returned (.bool true) ∧ Below w.heap.size w w' := by
  obtain ⟨hk1, hk2⟩ := hk
  obtain ⟨a1, c1, rfl⟩ := ha.isSlice
  by_cases he : aboveE r a b = 0
  · obtain ⟨hra, hca, hcb⟩ := aboveE_zero he
    have e2 := aboveE_of hra hcb hca
    have e5 := aboveE_of hra hca hca
    by_cases hcc : chk c = 0
    · have e3 := aboveE_of hra hcb hcc
      have e4 := aboveE_of hra hca hcc
      have hE : Hid (aboveE r a b = 0 ∧ aboveE r b a = 0 ∧ aboveE r b c = 0 ∧ aboveE r a c = 0 ∧ aboveE r a a = 0) := ⟨he, e2, e3, e4, e5⟩
      have hO := Lib.hid (order_true he e2 e3 e4 e5)
      have hE2 := Lib.hid (And.intro hra hca)
      have hne : 0 < a.length := by have := ne_of_chk hca; cases a with | nil => exact absurd rfl this | cons => simp
      have hl30 := len_of_chk hca
      have hlen0 : ((a.length : Int) == 0) = false := by rw [beq_eq_false_iff_ne]; omega
      have hAt : Hid (∀ at0, at0 = chs k a.length → 0 ≤ at0 ∧ at0 < a.length) := fun at0 h => by rw [h]; exact chs_lt (by omega)
      clear he hra hca hcb e2 e5 hcc e3 e4
      go_enter Try.func15, Try.ntmps15
      go_wp2_with fail
      refine (Above_calls r a b _ _ _ w hr ha hb).mono ?_
      rintro e w1 ⟨rfl, hB1⟩
      replace hr := hr.below hB1
      replace ha := ha.below hB1
      replace hb := hb.below hB1
      replace hc := hc.below hB1
      rw [hE.out.1]
      go_wp2_with fail
      refine (Above_calls r b a _ _ _ w1 hr hb ha).mono ?_
      rintro e w2 ⟨rfl, hB2⟩
      replace hr := hr.below hB2
      replace ha := ha.below hB2
      replace hb := hb.below hB2
      replace hc := hc.below hB2
      replace hB1 := ext_trans hB1 hB2
      clear hB2
      rw [hE.out.2.1]
      go_wp2_with fail
      refine (Above_calls r b c _ _ _ w2 hr hb hc).mono ?_
      rintro e w3 ⟨rfl, hB3⟩
      replace hr := hr.below hB3
      replace ha := ha.below hB3
      replace hb := hb.below hB3
      replace hc := hc.below hB3
      replace hB1 := ext_trans hB1 hB3
      clear hB3
      rw [hE.out.2.2.1]
      go_wp2_with fail
      refine (Above_calls r a c _ _ _ w3 hr ha hc).mono ?_
      rintro e w4 ⟨rfl, hB4⟩
      replace hr := hr.below hB4
      replace ha := ha.below hB4
      replace hb := hb.below hB4
      replace hc := hc.below hB4
      replace hB1 := ext_trans hB1 hB4
      clear hB4
      rw [hE.out.2.2.2.1]
      go_wp2_with fail
      refine (Above_calls r a a _ _ _ w4 hr ha ha).mono ?_
      rintro e w5 ⟨rfl, hB5⟩
      replace hr := hr.below hB5
      replace ha := ha.below hB5
      replace hb := hb.below hB5
      replace hc := hc.below hB5
      replace hB1 := ext_trans hB1 hB5
      clear hB5
      rw [hE.out.2.2.2.2]
      go_wp2_with fail
      refine (pure_below (choose_calls k a.length (by omega) hk1 hk2 w5)).mono ?_
      rintro e w6 ⟨rfl, hB6⟩
      replace hr := hr.below hB6
      replace ha := ha.below hB6
      replace hb := hb.below hB6
      replace hc := hc.below hB6
      replace hB1 := ext_trans hB1 hB6
      clear hB6
      obtain ⟨hat1, hat2⟩ := hAt.out _ rfl
      clear hAt
      generalize chs k a.length = at0 at *
      obtain ⟨n, rfl⟩ : ∃ n : Nat, at0 = n := ⟨at0.toNat, by omega⟩
      have hP := Lib.hid (order_part hE2.out.1 hE2.out.2 (k := n) (by omega))
      have hpc := Lib.hid (part_ok hE2.out.2 (k := n) (by omega))
      go_wp2_with fail
      refine (Part_calls a _ n w6 ha).mono ?_
      rintro e w7 ⟨p, rfl, hp, hB7⟩
      replace hr := hr.below hB7
      replace ha := ha.below hB7
      replace hb := hb.below hB7
      replace hc := hc.below hB7
      replace hB1 := ext_trans hB1 hB7
      clear hB7
      rw [hpc.out.1]
      rw [hpc.out.2] at hp
      replace hp := hp.any
      go_wp2_with fail
      refine (Above_calls r a (paT a n) _ _ _ w7 hr ha hp).mono ?_
      rintro e w8 ⟨rfl, hB8⟩
      clear hp
      replace hr := hr.below hB8
      replace ha := ha.below hB8
      replace hb := hb.below hB8
      replace hc := hc.below hB8
      replace hB1 := ext_trans hB1 hB8
      clear hB8
      rw [hP.out.1, hP.out.2]
      go_wp2_with fail
      refine (orderBegun_calls w8).mono ?_
      rintro e w9 ⟨rfl, hB9⟩
      clear hr ha hb hc
      replace hB1 := ext_trans hB1 hB9
      clear hB9
      have hO2 := hO.out
      rw [hO2.1]
      replace hO2 := hO2.2
      have hdec : decide (0 < (n : Int)) = decide (0 < n) := by by_cases h : 0 < n <;> simp [h] <;> omega
      clear hO hE hP hpc
      generalize aboveB r a b = ab at *
      generalize aboveB r b a = ba at *
      generalize aboveB r b c = bc at *
      generalize aboveB r a c = ac at *
      cases ab <;> cases ba <;> cases bc <;> cases ac <;> simp at hO2
      all_goals
        go_wp2_with fail
        go_ret
        exact ⟨ret_bool (by simp), hB1⟩
    · have hE : Hid (aboveE r a b = 0 ∧ aboveE r b a = 0 ∧ aboveE r a a = 0) := ⟨he, e2, e5⟩
      have h' : (aboveE r b c != 0) = true := by
        have : aboveE r b c = chk c := by rw [aboveE, if_pos hra, chk2, if_pos hcb]
        rw [this]; simpa using hcc
      clear he hra hca hcb e2 e5 hcc
      go_enter Try.func15, Try.ntmps15
      go_wp2_with fail
      refine (Above_calls r a b _ _ _ w hr ha hb).mono ?_
      rintro e w1 ⟨rfl, hB1⟩
      replace hr := hr.below hB1
      replace ha := ha.below hB1
      replace hb := hb.below hB1
      replace hc := hc.below hB1
      rw [hE.out.1]
      go_wp2_with fail
      refine (Above_calls r b a _ _ _ w1 hr hb ha).mono ?_
      rintro e w2 ⟨rfl, hB2⟩
      replace hr := hr.below hB2
      replace ha := ha.below hB2
      replace hb := hb.below hB2
      replace hc := hc.below hB2
      replace hB1 := ext_trans hB1 hB2
      clear hB2
      rw [hE.out.2.1]
      go_wp2_with fail
      refine (Above_calls r b c _ _ _ w2 hr hb hc).mono ?_
      rintro e w3 ⟨rfl, hB3⟩
      replace hr := hr.below hB3
      replace ha := ha.below hB3
      replace hb := hb.below hB3
      replace hc := hc.below hB3
      replace hB1 := ext_trans hB1 hB3
      clear hB3
      go_wp2_with fail
      refine (Above_calls r a c _ _ _ w3 hr ha hc).mono ?_
      rintro e w4 ⟨rfl, hB4⟩
      replace hr := hr.below hB4
      replace ha := ha.below hB4
      replace hb := hb.below hB4
      replace hc := hc.below hB4
      replace hB1 := ext_trans hB1 hB4
      clear hB4
      go_wp2_with fail
      refine (Above_calls r a a _ _ _ w4 hr ha ha).mono ?_
      rintro e w5 ⟨rfl, hB5⟩
      replace hr := hr.below hB5
      replace ha := ha.below hB5
      replace hb := hb.below hB5
      replace hc := hc.below hB5
      replace hB1 := ext_trans hB1 hB5
      clear hB5
      rw [hE.out.2.2]
      go_wp2_with fail
      refine (orderBegun_calls w5).mono ?_
      rintro e w6 ⟨rfl, hB6⟩
      clear hr ha hb hc
      replace hB1 := ext_trans hB1 hB6
      clear hB6
      go_wp2_with fail
      go_ret
      exact ⟨rfl, hB1⟩
  · have h' : (aboveE r a b != 0) = true := by simpa using he
    clear he
    go_enter Try.func15, Try.ntmps15
    go_wp2_with fail
    refine (Above_calls r a b _ _ _ w hr ha hb).mono ?_
    rintro e w1 ⟨rfl, hB1⟩
    replace hr := hr.below hB1
    replace ha := ha.below hB1
    replace hb := hb.below hB1
    replace hc := hc.below hB1
    go_wp2_with fail
    refine (Above_calls r b a _ _ _ w1 hr hb ha).mono ?_
    rintro e w2 ⟨rfl, hB2⟩
    replace hr := hr.below hB2
    replace ha := ha.below hB2
    replace hb := hb.below hB2
    replace hc := hc.below hB2
    replace hB1 := ext_trans hB1 hB2
    clear hB2
    go_wp2_with fail
    refine (Above_calls r b c _ _ _ w2 hr hb hc).mono ?_
    rintro e w3 ⟨rfl, hB3⟩
    replace hr := hr.below hB3
    replace ha := ha.below hB3
    replace hb := hb.below hB3
    replace hc := hc.below hB3
    replace hB1 := ext_trans hB1 hB3
    clear hB3
    go_wp2_with fail
    refine (Above_calls r a c _ _ _ w3 hr ha hc).mono ?_
    rintro e w4 ⟨rfl, hB4⟩
    replace hr := hr.below hB4
    replace ha := ha.below hB4
    replace hb := hb.below hB4
    replace hc := hc.below hB4
    replace hB1 := ext_trans hB1 hB4
    clear hB4
    go_wp2_with fail
    refine (Above_calls r a a _ _ _ w4 hr ha ha).mono ?_
    rintro e w5 ⟨rfl, hB5⟩
    replace hr := hr.below hB5
    replace ha := ha.below hB5
    replace hb := hb.below hB5
    replace hc := hc.below hB5
    replace hB1 := ext_trans hB1 hB5
    clear hB5
    go_wp2_with fail
    refine (orderBegun_calls w5).mono ?_
    rintro e w6 ⟨rfl, hB6⟩
    clear hr ha hb hc
    replace hB1 := ext_trans hB1 hB6
    clear hB6
    go_wp2_with fail
    go_ret
    exact ⟨rfl, hB1⟩

end Go.Proofs.Ytepddehodmljeaa
