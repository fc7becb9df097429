/- Walks: textBegun, TextShows, TextBack. -/
import Derived.Test.YtepddehodmljeaaI5
import Derived.Test.YtepddehodmljeaaI6
namespace Go.Proofs.Ytepddehodmljeaa
open Go.RowKit

def fxgaS : List UInt8 := [102, 40, 120, 44, 103, 40, 97, 41, 41]
def spcS : List UInt8 := [102, 40, 120, 44, 32, 103, 40, 97, 41, 41]
theorem fxga_shT : shT fxgaT = fxgaS := by decide
theorem fxga_chk : chk fxgaT = 0 := by decide
theorem fxga_re : reE fxgaS = 0 ∧ reL fxgaS = fxgaT := by decide
theorem spc_re : reE spcS = 1 := by decide

set_option maxRecDepth 100000 in
theorem textBegun_calls (w : World) : Calls Try.prog 79 #[] w fun e w' => e = .returned (.bool true) ∧ Below w.heap.size w w' := by
  go_enter Try.func79, Try.ntmps79
  go_wp2_with fail
  refine (fxga_calls w).mono ?_
  rintro e w1 ⟨x, rfl, hx, hB1⟩
  have HB1 := Lib.hid hB1
  have hS := Lib.hid (Show_calls fxgaT x w1 hx.any)
  rw [fxga_shT, fxga_chk] at hS
  clear hx hB1
  go_wp2_with fail
  refine hS.out.mono ?_
  rintro e w2 ⟨rfl, hB2⟩
  have HB2 := Lib.hid (ext_trans HB1.out hB2)
  have hR := Lib.hid (Read_calls fxgaS w2)
  unfold ReE at hR
  rw [fxga_re.1, fxga_re.2] at hR
  clear hB2 HB1
  go_wp2_with fail
  refine hR.out.mono ?_
  rintro e w3 ⟨u, rfl, hu, hB3⟩
  have HB3 := Lib.hid (ext_trans HB2.out hB3)
  have HU := Lib.hid hu.any
  have hR2 := Lib.hid (Read_calls spcS w3)
  unfold ReE at hR2
  rw [spc_re] at hR2
  clear hB3 HB2 hu hR
  go_wp2_with fail
  refine hR2.out.mono ?_
  rintro e w4 ⟨u4, rfl, -, hB4⟩
  have HB4 := Lib.hid (ext_trans HB3.out hB4)
  have HU4 := Lib.hid (HU.out.below hB4)
  clear hB4 HB3 HU hR2
  go_wp2_with fail
  refine (fxga_calls w4).mono ?_
  rintro e w5 ⟨x5, rfl, hx5, hB5⟩
  have hM := Lib.hid (SameTerms_eq fxgaT u x5 w5 (HU4.out.below hB5) hx5.any)
  have HB5 := Lib.hid (ext_trans HB4.out hB5)
  clear hx5 hB5 HU4 HB4
  go_wp2_with fail
  refine hM.out.mono ?_
  rintro e w6 ⟨rfl, hB6⟩
  go_wp2_with fail
  go_ret
  exact ⟨rfl, ext_trans HB5.out hB6⟩

theorem re_big {s : List UInt8} (h : 4096 < s.length) : reE s = 2 ∧ reL s = [] := ⟨if_pos h, if_pos h⟩
theorem re_small {s : List UInt8} (h : ¬ 4096 < s.length) : reE s = (if fromB s = true then 0 else 1) ∧ reL s = fromL s := ⟨if_neg h, if_neg h⟩

set_option maxRecDepth 100000 in
set_option maxHeartbeats 4000000 in
theorem TextShows_calls (t : List Int) (s : List UInt8) (v : Value) (w : World) (hv : IsInts Any w v t) (hl : s.length ≤ 9223372036854775807) :
    Calls Try.prog 16 #[v, .string ⟨s.toArray⟩] w fun e w' => e = .returned (.bool true) ∧ Below w.heap.size w w' := by
  have hsz := size_bytes s
  have hS := Lib.hid (Show_calls t v w hv)
  have HV := Lib.hid hv
  obtain ⟨va, vc, rfl⟩ := hv.isSlice
  have hseq : ∀ a : List UInt8, ((⟨a.toArray⟩ : ByteArray).toList == (⟨a.toArray⟩ : ByteArray).toList) = true := fun a => by rw [str_ne]; simp
  have hbig : 4096 < s.length ∨ ¬ 4096 < s.length := by omega
  have hRd := Lib.hid fun W => Read_calls s W
  unfold ReE at hRd
  have hTB := Lib.hid fun W => textBegun_calls W
  have hTE := Lib.hid fun W (hB : Below w.heap.size w W) => TermError_calls t (.slice va t.length vc) W (HV.out.below hB)
  have hTT := Lib.hid fun W (hB : Below w.heap.size w W) (hc : chk t = 0) => TermText_calls t hc (.slice va t.length vc) W (HV.out.below hB)
  have hTF := Lib.hid fun (h : ¬ 4096 < s.length) W => TermFrom_calls s (by omega) W
  by_cases hc : chk t = 0
  · have hs : shT t = (tmOf t).txt := if_pos hc
    rw [hs, hc] at hS
    have hTT2 := Lib.hid fun W hB => hTT.out W hB hc
    rw [hc] at hTE
    clear hTT hs hc hv
    generalize (tmOf t).txt = X at *
    have hXX := hseq X
    clear hseq
    rcases hbig with hb | hb
    · have hbi : (4096 : Int) < s.length := by omega
      rw [(re_big hb).1, (re_big hb).2] at hRd
      clear hb hTF
      go_enter Try.func16, Try.ntmps16
      go_wp2_with fail
      refine hS.out.mono ?_
      rintro e w1 ⟨rfl, hB1⟩
      have HB1 := Lib.hid hB1
      clear hB1
      go_wp2_with fail
      refine (hTE.out _ HB1.out).mono ?_
      rintro e w' ⟨rfl, rfl⟩
      go_wp2_with fail
      refine (hTT2.out _ HB1.out).mono ?_
      rintro e w2 ⟨rfl, hB2⟩
      have HB2 := Lib.hid (ext_trans HB1.out hB2)
      clear hB2 HB1
      go_wp2_with fail
      refine (hRd.out _).mono ?_
      rintro e w3 ⟨u, rfl, hu, hB3⟩
      obtain ⟨ua, uc, hus⟩ := hu.isSlice
      subst hus
      have HB3 := Lib.hid (ext_trans HB2.out hB3)
      have HU := Lib.hid hu.any
      clear hB3 HB2 hu
      go_wp2_with fail
      refine (hTB.out _).mono ?_
      rintro e w4 ⟨rfl, hB4⟩
      have HB4 := Lib.hid (ext_trans HB3.out hB4)
      clear hB4 HB3
      go_wp2_with fail
      go_ret
      exact ⟨rfl, HB4.out⟩
    · have hbi : ¬ (4096 : Int) < s.length := by omega
      have hTF2 := Lib.hid (hTF.out hb)
      rw [(re_small hb).1, (re_small hb).2] at hRd
      clear hb hTF
      generalize fromL s = y at *
      cases hfb : fromB s
      · rw [hfb] at hRd hTF2
        clear hfb
        rw [if_neg (by decide)] at hRd
        go_enter Try.func16, Try.ntmps16
        go_wp2_with fail
        refine hS.out.mono ?_
        rintro e w1 ⟨rfl, hB1⟩
        have HB1 := Lib.hid hB1
        clear hB1
        go_wp2_with fail
        refine (hTE.out _ HB1.out).mono ?_
        rintro e w' ⟨rfl, rfl⟩
        go_wp2_with fail
        refine (hTT2.out _ HB1.out).mono ?_
        rintro e w2 ⟨rfl, hB2⟩
        have HB2 := Lib.hid (ext_trans HB1.out hB2)
        clear hB2 HB1
        go_wp2_with fail
        refine (hRd.out _).mono ?_
        rintro e w3 ⟨u, rfl, hu, hB3⟩
        obtain ⟨ua, uc, hus⟩ := hu.isSlice
        subst hus
        have HB3 := Lib.hid (ext_trans HB2.out hB3)
        have HU := Lib.hid hu.any
        clear hB3 HB2 hu
        go_wp2_with fail
        refine (hTF2.out _).mono ?_
        rintro e w4 ⟨z, rfl, hz, hB4⟩
        obtain ⟨za, zc, hzs⟩ := hz.isSlice
        subst hzs
        have HB4 := Lib.hid (ext_trans HB3.out hB4)
        have HZ := Lib.hid (And.intro (HU.out.below hB4) hz.any)
        clear hB4 HB3 hz HU
        go_wp2_with fail
        refine (hTB.out _).mono ?_
        rintro e w5 ⟨rfl, hB5⟩
        have hM := Lib.hid (SameTerms_eq _ _ _ w5 (HZ.out.1.below hB5) (HZ.out.2.below hB5))
        have HB5 := Lib.hid (ext_trans HB4.out hB5)
        clear hB5 HB4 HZ
        go_wp2_with fail
        refine hM.out.mono ?_
        rintro e w6 ⟨rfl, hB6⟩
        go_wp2_with fail
        go_ret
        exact ⟨rfl, ext_trans HB5.out hB6⟩
      · rw [hfb] at hRd hTF2
        clear hfb
        rw [if_pos rfl] at hRd
        go_enter Try.func16, Try.ntmps16
        go_wp2_with fail
        refine hS.out.mono ?_
        rintro e w1 ⟨rfl, hB1⟩
        have HB1 := Lib.hid hB1
        clear hB1
        go_wp2_with fail
        refine (hTE.out _ HB1.out).mono ?_
        rintro e w' ⟨rfl, rfl⟩
        go_wp2_with fail
        refine (hTT2.out _ HB1.out).mono ?_
        rintro e w2 ⟨rfl, hB2⟩
        have HB2 := Lib.hid (ext_trans HB1.out hB2)
        clear hB2 HB1
        go_wp2_with fail
        refine (hRd.out _).mono ?_
        rintro e w3 ⟨u, rfl, hu, hB3⟩
        obtain ⟨ua, uc, hus⟩ := hu.isSlice
        subst hus
        have HB3 := Lib.hid (ext_trans HB2.out hB3)
        have HU := Lib.hid hu.any
        clear hB3 HB2 hu
        go_wp2_with fail
        refine (hTF2.out _).mono ?_
        rintro e w4 ⟨z, rfl, hz, hB4⟩
        obtain ⟨za, zc, hzs⟩ := hz.isSlice
        subst hzs
        have HB4 := Lib.hid (ext_trans HB3.out hB4)
        have HZ := Lib.hid (And.intro (HU.out.below hB4) hz.any)
        clear hB4 HB3 hz HU
        go_wp2_with fail
        refine (hTB.out _).mono ?_
        rintro e w5 ⟨rfl, hB5⟩
        have hM := Lib.hid (SameTerms_eq _ _ _ w5 (HZ.out.1.below hB5) (HZ.out.2.below hB5))
        have HB5 := Lib.hid (ext_trans HB4.out hB5)
        clear hB5 HB4 HZ
        go_wp2_with fail
        refine hM.out.mono ?_
        rintro e w6 ⟨rfl, hB6⟩
        go_wp2_with fail
        go_ret
        exact ⟨rfl, ext_trans HB5.out hB6⟩
  · have hs : shT t = [] := if_neg hc
    have hcb : (chk t == 0) = false := by rw [beq_eq_false_iff_ne]; exact hc
    have hXX := hseq []
    rw [hs] at hS
    clear hTT hs hc hv hseq
    rcases hbig with hb | hb
    · have hbi : (4096 : Int) < s.length := by omega
      rw [(re_big hb).1, (re_big hb).2] at hRd
      clear hb hTF
      go_enter Try.func16, Try.ntmps16
      go_wp2_with fail
      refine hS.out.mono ?_
      rintro e w1 ⟨rfl, hB1⟩
      have HB1 := Lib.hid hB1
      clear hB1
      go_wp2_with fail
      refine (hTE.out _ HB1.out).mono ?_
      rintro e w' ⟨rfl, rfl⟩
      go_wp2_with fail
      refine (hRd.out _).mono ?_
      rintro e w3 ⟨u, rfl, hu, hB3⟩
      obtain ⟨ua, uc, hus⟩ := hu.isSlice
      subst hus
      have HB3 := Lib.hid (ext_trans HB1.out hB3)
      have HU := Lib.hid hu.any
      clear hB3 HB1 hu
      go_wp2_with fail
      refine (hTB.out _).mono ?_
      rintro e w4 ⟨rfl, hB4⟩
      have HB4 := Lib.hid (ext_trans HB3.out hB4)
      clear hB4 HB3
      go_wp2_with fail
      go_ret
      exact ⟨rfl, HB4.out⟩
    · have hbi : ¬ (4096 : Int) < s.length := by omega
      have hTF2 := Lib.hid (hTF.out hb)
      rw [(re_small hb).1, (re_small hb).2] at hRd
      clear hb hTF
      generalize fromL s = y at *
      cases hfb : fromB s
      · rw [hfb] at hRd hTF2
        clear hfb
        rw [if_neg (by decide)] at hRd
        go_enter Try.func16, Try.ntmps16
        go_wp2_with fail
        refine hS.out.mono ?_
        rintro e w1 ⟨rfl, hB1⟩
        have HB1 := Lib.hid hB1
        clear hB1
        go_wp2_with fail
        refine (hTE.out _ HB1.out).mono ?_
        rintro e w' ⟨rfl, rfl⟩
        go_wp2_with fail
        refine (hRd.out _).mono ?_
        rintro e w3 ⟨u, rfl, hu, hB3⟩
        obtain ⟨ua, uc, hus⟩ := hu.isSlice
        subst hus
        have HB3 := Lib.hid (ext_trans HB1.out hB3)
        have HU := Lib.hid hu.any
        clear hB3 HB1 hu
        go_wp2_with fail
        refine (hTF2.out _).mono ?_
        rintro e w4 ⟨z, rfl, hz, hB4⟩
        obtain ⟨za, zc, hzs⟩ := hz.isSlice
        subst hzs
        have HB4 := Lib.hid (ext_trans HB3.out hB4)
        have HZ := Lib.hid (And.intro (HU.out.below hB4) hz.any)
        clear hB4 HB3 hz HU
        go_wp2_with fail
        refine (hTB.out _).mono ?_
        rintro e w5 ⟨rfl, hB5⟩
        have hM := Lib.hid (SameTerms_eq _ _ _ w5 (HZ.out.1.below hB5) (HZ.out.2.below hB5))
        have HB5 := Lib.hid (ext_trans HB4.out hB5)
        clear hB5 HB4 HZ
        go_wp2_with fail
        refine hM.out.mono ?_
        rintro e w6 ⟨rfl, hB6⟩
        go_wp2_with fail
        go_ret
        exact ⟨rfl, ext_trans HB5.out hB6⟩
      · rw [hfb] at hRd hTF2
        clear hfb
        rw [if_pos rfl] at hRd
        go_enter Try.func16, Try.ntmps16
        go_wp2_with fail
        refine hS.out.mono ?_
        rintro e w1 ⟨rfl, hB1⟩
        have HB1 := Lib.hid hB1
        clear hB1
        go_wp2_with fail
        refine (hTE.out _ HB1.out).mono ?_
        rintro e w' ⟨rfl, rfl⟩
        go_wp2_with fail
        refine (hRd.out _).mono ?_
        rintro e w3 ⟨u, rfl, hu, hB3⟩
        obtain ⟨ua, uc, hus⟩ := hu.isSlice
        subst hus
        have HB3 := Lib.hid (ext_trans HB1.out hB3)
        have HU := Lib.hid hu.any
        clear hB3 HB1 hu
        go_wp2_with fail
        refine (hTF2.out _).mono ?_
        rintro e w4 ⟨z, rfl, hz, hB4⟩
        obtain ⟨za, zc, hzs⟩ := hz.isSlice
        subst hzs
        have HB4 := Lib.hid (ext_trans HB3.out hB4)
        have HZ := Lib.hid (And.intro (HU.out.below hB4) hz.any)
        clear hB4 HB3 hz HU
        go_wp2_with fail
        refine (hTB.out _).mono ?_
        rintro e w5 ⟨rfl, hB5⟩
        have hM := Lib.hid (SameTerms_eq _ _ _ w5 (HZ.out.1.below hB5) (HZ.out.2.below hB5))
        have HB5 := Lib.hid (ext_trans HB4.out hB5)
        clear hB5 HB4 HZ
        go_wp2_with fail
        refine hM.out.mono ?_
        rintro e w6 ⟨rfl, hB6⟩
        go_wp2_with fail
        go_ret
        exact ⟨rfl, ext_trans HB5.out hB6⟩

theorem re_shown {t : List Int} (h : chk t = 0) : reE (tmOf t).txt = 0 ∧ reL (tmOf t).txt = t := by
  refine re_yes ?_ (rd_shown h (by omega))
  have h1 := txt_len (tmOf t)
  have h2 := size_flat (tmOf t)
  have h3 := len_of_chk h
  rw [(tm_chk h).2] at h2
  omega
theorem re_zero {s : List UInt8} (h : reE s = 0) : chk (reL s) = 0 ∧ shT (reL s) = s := by
  by_cases hb : 4096 < s.length
  · rw [(re_big hb).1] at h; cases h
  · rw [(re_small hb).1] at h
    rw [(re_small hb).2]
    by_cases hf : fromB s = true
    · have hf2 := of_decide_eq_true hf
      have e : fromL s = s.filterMap sgnOf := if_pos hf2
      rw [e]
      exact ⟨hf2.1, by rw [shT, if_pos hf2.1]; exact hf2.2⟩
    · rw [if_neg hf] at h; cases h

set_option maxRecDepth 100000 in
set_option maxHeartbeats 4000000 in
theorem TextBack_calls (t : List Int) (s : List UInt8) (v : Value) (w : World) (hv : IsInts Any w v t) (_ : s.length ≤ 9223372036854775807) :
    Calls Try.prog 17 #[v, .string ⟨s.toArray⟩] w fun e w' => e = .returned (.bool true) ∧ Below w.heap.size w w' := by
  have hS := Lib.hid (Show_calls t v w hv)
  have HV := Lib.hid hv
  obtain ⟨va, vc, rfl⟩ := hv.isSlice
  have hseq : ((⟨s.toArray⟩ : ByteArray).toList == (⟨s.toArray⟩ : ByteArray).toList) = true := by rw [str_ne]; simp
  have hRd := Lib.hid fun W => Read_calls s W
  unfold ReE at hRd
  have hz0' := Lib.hid (re_zero (s := s))
  clear hv
  by_cases hz : reE s = 0
  · have hz0 := Lib.hid (hz0'.out hz)
    rw [hz] at hRd
    clear hz hz0'
    generalize reL s = y at *
    by_cases hc : chk t = 0
    · have hs : shT t = (tmOf t).txt := if_pos hc
      have hR1 := Lib.hid fun W => Read_calls (tmOf t).txt W
      unfold ReE at hR1
      rw [(re_shown hc).1, (re_shown hc).2] at hR1
      rw [hs, hc] at hS
      clear hs hc
      generalize (tmOf t).txt = X at *
      go_enter Try.func17, Try.ntmps17
      go_wp2_with fail
      refine hS.out.mono ?_
      rintro e w1 ⟨rfl, hB1⟩
      have HB1 := Lib.hid hB1
      clear hB1
      go_wp2_with fail
      refine (hR1.out w1).mono ?_
      rintro e w2 ⟨u, rfl, hu, hB2⟩
      obtain ⟨ua, uc, hus⟩ := hu.isSlice
      subst hus
      have HB2 := Lib.hid (ext_trans HB1.out hB2)
      have hM := Lib.hid (SameTerms_eq t _ _ w2 hu.any (HV.out.below HB2.out))
      clear hB2 hu
      go_wp2_with fail
      refine hM.out.mono ?_
      rintro e w3 ⟨rfl, hB3⟩
      have HB3 := Lib.hid (ext_trans HB2.out hB3)
      clear hB3 HB2 HB1 hM
      go_wp2_with fail
      refine (hRd.out _).mono ?_
      rintro e w4 ⟨z, rfl, hz, hB4⟩
      have HB4 := Lib.hid (ext_trans HB3.out hB4)
      obtain ⟨za, zc, hzs⟩ := hz.isSlice
      subst hzs
      have hS2 := Lib.hid (Show_calls _ _ w4 hz.any)
      rw [hz0.out.1, hz0.out.2] at hS2
      clear hB4 hz
      go_wp2_with fail
      refine hS2.out.mono ?_
      rintro e w5 ⟨rfl, hB5⟩
      have HB5 := Lib.hid (ext_trans HB4.out hB5)
      clear hB5 HB4
      go_wp2_with fail
      refine (textBegun_calls _).mono ?_
      rintro e w6 ⟨rfl, hB6⟩
      go_wp2_with fail
      go_ret
      exact ⟨rfl, ext_trans HB5.out hB6⟩
    · have hcb : (chk t == 0) = false := by rw [beq_eq_false_iff_ne]; exact hc
      have hs : shT t = [] := if_neg hc
      rw [hs] at hS
      clear hs hc
      go_enter Try.func17, Try.ntmps17
      go_wp2_with fail
      refine hS.out.mono ?_
      rintro e w1 ⟨rfl, hB1⟩
      have HB1 := Lib.hid hB1
      clear hB1
      go_wp2_with fail
      refine (hRd.out _).mono ?_
      rintro e w4 ⟨z, rfl, hz, hB4⟩
      have HB4 := Lib.hid (ext_trans HB1.out hB4)
      obtain ⟨za, zc, hzs⟩ := hz.isSlice
      subst hzs
      have hS2 := Lib.hid (Show_calls _ _ w4 hz.any)
      rw [hz0.out.1, hz0.out.2] at hS2
      clear hB4 hz
      go_wp2_with fail
      refine hS2.out.mono ?_
      rintro e w5 ⟨rfl, hB5⟩
      have HB5 := Lib.hid (ext_trans HB4.out hB5)
      clear hB5 HB4
      go_wp2_with fail
      refine (textBegun_calls _).mono ?_
      rintro e w6 ⟨rfl, hB6⟩
      go_wp2_with fail
      go_ret
      exact ⟨rfl, ext_trans HB5.out hB6⟩
  · have hzb : (reE s != 0) = true := by simpa using hz
    clear hz hz0'
    generalize reL s = y at *
    generalize reE s = E at *
    by_cases hc : chk t = 0
    · have hs : shT t = (tmOf t).txt := if_pos hc
      have hR1 := Lib.hid fun W => Read_calls (tmOf t).txt W
      unfold ReE at hR1
      rw [(re_shown hc).1, (re_shown hc).2] at hR1
      rw [hs, hc] at hS
      clear hs hc
      generalize (tmOf t).txt = X at *
      go_enter Try.func17, Try.ntmps17
      go_wp2_with fail
      refine hS.out.mono ?_
      rintro e w1 ⟨rfl, hB1⟩
      have HB1 := Lib.hid hB1
      clear hB1
      go_wp2_with fail
      refine (hR1.out w1).mono ?_
      rintro e w2 ⟨u, rfl, hu, hB2⟩
      obtain ⟨ua, uc, hus⟩ := hu.isSlice
      subst hus
      have HB2 := Lib.hid (ext_trans HB1.out hB2)
      have hM := Lib.hid (SameTerms_eq t _ _ w2 hu.any (HV.out.below HB2.out))
      clear hB2 hu
      go_wp2_with fail
      refine hM.out.mono ?_
      rintro e w3 ⟨rfl, hB3⟩
      have HB3 := Lib.hid (ext_trans HB2.out hB3)
      clear hB3 HB2 HB1 hM
      go_wp2_with fail
      refine (hRd.out _).mono ?_
      rintro e w4 ⟨z, rfl, hz, hB4⟩
      have HB4 := Lib.hid (ext_trans HB3.out hB4)
      obtain ⟨za, zc, hzs⟩ := hz.isSlice
      subst hzs
      clear hB4 hz
      go_wp2_with fail
      refine (textBegun_calls _).mono ?_
      rintro e w6 ⟨rfl, hB6⟩
      go_wp2_with fail
      go_ret
      exact ⟨rfl, ext_trans HB4.out hB6⟩
    · have hcb : (chk t == 0) = false := by rw [beq_eq_false_iff_ne]; exact hc
      have hs : shT t = [] := if_neg hc
      rw [hs] at hS
      clear hs hc
      go_enter Try.func17, Try.ntmps17
      go_wp2_with fail
      refine hS.out.mono ?_
      rintro e w1 ⟨rfl, hB1⟩
      have HB1 := Lib.hid hB1
      clear hB1
      go_wp2_with fail
      refine (hRd.out _).mono ?_
      rintro e w4 ⟨z, rfl, hz, hB4⟩
      have HB4 := Lib.hid (ext_trans HB1.out hB4)
      obtain ⟨za, zc, hzs⟩ := hz.isSlice
      subst hzs
      clear hB4 hz
      go_wp2_with fail
      refine (textBegun_calls _).mono ?_
      rintro e w6 ⟨rfl, hB6⟩
      go_wp2_with fail
      go_ret
      exact ⟨rfl, ext_trans HB4.out hB6⟩

end Go.Proofs.Ytepddehodmljeaa
