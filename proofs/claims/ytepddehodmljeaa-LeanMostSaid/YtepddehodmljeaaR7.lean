/- Walks: hasplaw.choose; TermTrue. -/
import Derived.Test.YtepddehodmljeaaR6
import Derived.Test.YtepddehodmljeaaG5
import Derived.Lib.QuietBelow
import Derived.IntWalk
namespace Go.Proofs.Ytepddehodmljeaa
open Go.RowKit Go.Maps Go.Sort

/-- Which of n things a raw number speaks of. -/
def chs (c n : Int) : Int := if c < 0 then (-(c + 1)) % n else c % n
theorem chs_lt {c n : Int} (h : 0 < n) : 0 ≤ chs c n ∧ chs c n < n := by
  unfold chs
  split
  · exact ⟨Int.emod_nonneg _ (by omega), Int.emod_lt_of_pos _ h⟩
  · exact ⟨Int.emod_nonneg _ (by omega), Int.emod_lt_of_pos _ h⟩
theorem choose_calls (c n : Int) (hn : 0 < n ∧ n ≤ 9223372036854775807) (h1 : -9223372036854775808 ≤ c) (h2 : c ≤ 9223372036854775807) (w : World) :
    Calls Try.prog 66 #[.int .i64 c, .int .i64 n] w fun e w' => e = .returned (.int .i64 (chs c n)) ∧ w = w' := by
  obtain ⟨hn, hn2⟩ := hn
  by_cases h : c < 0
  · have hr : Hid (chs c n = (-(c + 1)) % n) := if_pos h
    have hn0 : (n == 0) = false := by rw [beq_eq_false_iff_ne]; omega
    have hm1 := Int.emod_nonneg (-(c + 1)) (by omega : n ≠ 0)
    have hm2 := Int.emod_lt_of_pos (-(c + 1)) hn
    have h3 : 0 ≤ -(c + 1) := by omega
    go_enter Try.func66, Try.ntmps66
    go_wp2_with fail
    go_ret
    exact ⟨ret_int (by rw [hr.out, ← Int.tmod_eq_emod_of_nonneg h3, Int.neg_tmod]), rfl⟩
  · have hr : Hid (chs c n = c % n) := if_neg h
    have h0 : 0 ≤ c := by omega
    have hm1 := Int.emod_nonneg c (by omega : n ≠ 0)
    have hm2 := Int.emod_lt_of_pos c hn
    go_enter Try.func66, Try.ntmps66
    go_wp2_with fail
    go_ret
    exact ⟨ret_int hr.out.symm, rfl⟩

/-- A contract that ends in Below, for a region that draws its order. -/
theorem qb {n : FuncId} {args : Array Value} {w : World} {v : Value} (h : ∀ W, Below w.heap.size w W → Calls Try.prog n args W fun e w' => e = .returned v ∧ Below W.heap.size W w') :
    ∀ d os, Calls Try.prog n args (grow (redrawn w d) os) fun e w'' => e = .returned v ∧ ∃ p : Regrown, w'' = grow (redrawn w p.d) p.os :=
  fun d os => Calls.regrown_of (h _ (below_regrown w d os))

theorem IsInts.cap {S : Blk} {w : World} {b o n c : Nat} {t : List Int} (h : IsInts S w (.slice (some ⟨b, o, none⟩) n c) t) (hn : t ≠ []) : t.length ≤ c := by
  obtain ⟨-, ⟨h, -⟩ | ⟨-, b', o', c', e, hc, -⟩⟩ := h
  · exact absurd h hn
  · cases e; exact hc
theorem put_err {t u : List Int} {k : Nat} (ht : chk t = 0) (hk : k < t.length) (h : putE t k u ≠ 0) : putE t k u = 2 ∨ chk u ≠ 0 := by
  by_cases hu : chk u = 0
  · left
    by_cases hb : 30 < (puT t k u).length
    · exact (putE_big ht hu hk hb).1
    · exact absurd (putE_ok ht hu hk (by omega)).1 h
  · exact .inr hu
theorem put_good {t u : List Int} {k : Nat} (ht : chk t = 0) (hk : k < t.length) (h : putE t k u = 0) : chk u = 0 ∧ (puT t k u).length ≤ 30 := by
  by_cases hu : chk u = 0
  · refine ⟨hu, ?_⟩
    by_cases hb : 30 < (puT t k u).length
    · rw [(putE_big ht hu hk hb).1] at h; cases h
    · omega
  · rw [(putE_u ht hu).1] at h; exact absurd h hu

set_option maxRecDepth 100000 in
set_option maxHeartbeats 2000000 in
theorem TermTrue_calls (t : List Int) (k : Int) (u : List Int) (v x : Value) (w : World) (hv : IsInts Any w v t) (hk1 : -9223372036854775808 ≤ k ∧ k ≤ 9223372036854775807) (hx : IsInts Any w x u) :
    Calls Try.prog 11 #[v, .int .i64 k, x] w fun e w' => e = .returned (.bool true) ∧ Below w.heap.size w w' := by
  obtain ⟨hk1, hk2⟩ := hk1
  obtain ⟨xa, xc, rfl⟩ := hx.isSlice
  by_cases hc : chk t = 0
  · obtain ⟨vb, vo, vc, rfl⟩ := hv.cells (ne_of_chk hc)
    have htl := len_of_chk hc
    have htp : 0 < t.length := List.length_pos_iff.2 (ne_of_chk hc)
    obtain ⟨at0, hat0, hat1⟩ : ∃ at0 : Nat, chs k t.length = at0 ∧ at0 < t.length := by
      have := chs_lt (c := k) (n := t.length) (by omega)
      exact ⟨(chs k t.length).toNat, by omega, by omega⟩
    have hp := part_at hc hat1
    have hpl := paT_len hc hat1
    have hpc : plc t at0 = 0 := by rw [plc, if_pos hc, if_pos (by omega)]
    have hf : Hid (plc t at0 = 0 ∧ partT t at0 = paT t at0 ∧ endN t at0 = (enT t at0 : Nat) ∧ chk (paT t at0) = 0) :=
      ⟨hpc, by rw [partT, if_pos hpc]; rfl, by rw [endN, if_pos hpc]; rfl, chk_paT hc hat1⟩
    have hh := Lib.hid hc
    have hat := Lib.hid hat0
    have g1 : ¬ ((enT t at0 : Nat) : Int) ≤ (at0 : Int) := by omega
    have g1' : (at0 : Int) < ((enT t at0 : Nat) : Int) := by omega
    have g2 : ((enT t at0 : Nat) : Int) ≤ t.length := by omega
    have g3 : (((enT t at0 : Nat) : Int) - (at0 : Int) != ((paT t at0).length : Int)) = false := by rw [hpl]; simp; omega
    have ht0 : ((t.length : Int) == 0) = false := by rw [beq_eq_false_iff_ne]; omega
    have hgood := Lib.hid fun h => put_good (u := u) hc hat1 h
    have hbad := Lib.hid fun h => put_err (u := u) hc hat1 h
    have hAT := Lib.hid (And.intro hat1 hp)
    clear hc hp hat0 hpc hpl
    go_enter Try.func11, Try.ntmps11
    go_wp2_with fail
    refine (pure_below (Check_calls t _ w hv)).mono ?_
    rintro e w1 ⟨rfl, hB1⟩
    replace hv := hv.below hB1
    replace hx := hx.below hB1
    rw [hh.out]
    go_wp2_with fail
    refine (pure_below (choose_calls k t.length (by omega) hk1 hk2 w1)).mono ?_
    rintro e w2 ⟨rfl, hB2⟩
    replace hv := hv.below hB2
    replace hx := hx.below hB2
    replace hB1 := ext_trans hB1 hB2
    clear hB2
    rw [hat.out]
    go_wp2_with fail
    refine (Part_calls t _ (at0 : Nat) w2 hv).mono ?_
    rintro e w3 ⟨p, rfl, hp, hB3⟩
    replace hv := hv.below hB3
    replace hx := hx.below hB3
    replace hB1 := ext_trans hB1 hB3
    clear hB3
    rw [hf.out.1]
    rw [hf.out.2.1] at hp
    replace hp := hp.any
    obtain ⟨pa, pc, rfl⟩ := hp.isSlice
    go_wp2_with fail
    refine (End_calls t _ (at0 : Nat) w3 hv).mono ?_
    rintro e w4 ⟨rfl, hB4⟩
    replace hv := hv.below hB4
    replace hx := hx.below hB4
    replace hp := hp.below hB4
    replace hB1 := ext_trans hB1 hB4
    clear hB4
    rw [hf.out.2.2.1, hf.out.1]
    go_wp2_with fail
    refine (pure_below (Check_calls (paT t at0) _ w4 hp)).mono ?_
    rintro e w5 ⟨rfl, hB5⟩
    replace hv := hv.below hB5
    replace hx := hx.below hB5
    replace hp := hp.below hB5
    replace hB1 := ext_trans hB1 hB5
    clear hB5
    rw [hf.out.2.2.2]
    go_wp2_with fail
    refine (Put_calls t u _ _ (at0 : Nat) w5 hv hx).mono ?_
    rintro e w6 ⟨y, rfl, hy, hB6⟩
    replace hv := hv.below hB6
    replace hx := hx.below hB6
    replace hp := hp.below hB6
    replace hB1 := ext_trans hB1 hB6
    clear hB6
    replace hy := hy.any
    by_cases hg0 : putE t at0 u = 0
    · obtain ⟨huc, hul⟩ := hgood.out hg0
      have hun := ne_of_chk huc
      have hxn : puT t at0 u ≠ [] := by
        intro e
        have := puT_need hh.out huc hAT.out.1
        rw [e] at this; cases this
      have hcx := chk_puT hh.out huc hAT.out.1 hul
      have hxl : (puT t at0 u).length + (paT t at0).length = t.length + u.length := by
        have h1 := hAT.out.2.2.1
        have h2 := hAT.out.2.2.2.1
        have h3 := paT_len hh.out hAT.out.1
        have h4 := hAT.out.1
        rw [puT, List.length_append, List.length_append, List.length_take, List.length_drop]
        omega
      have hat2 : at0 < (puT t at0 u).length := by
        have h3 := paT_len hh.out hAT.out.1
        have h2 := hAT.out.2.2.2.1
        have h4 := List.length_pos_iff.2 hun
        omega
      have hpx : plc (puT t at0 u) at0 = 0 := by rw [plc, if_pos hcx, if_pos (by omega)]
      have hen := enT_puT (t := t) huc hAT.out.1
      have hback := puT_back hh.out huc hAT.out.1
      have hpo := putE_ok hcx hf.out.2.2.2 hat2 (by rw [hback]; omega)
      rw [hback] at hpo
      have hg : Hid (plc (puT t at0 u) at0 = 0 ∧ partT (puT t at0 u) at0 = u ∧ putE (puT t at0 u) at0 (paT t at0) = 0 ∧ putT (puT t at0 u) at0 (paT t at0) = t) :=
        ⟨hpx, by rw [partT, if_pos hpx, Int.toNat_natCast]; exact hen.2, hpo.1, hpo.2⟩
      have hyT : putT t at0 u = puT t at0 u := by rw [putT, if_pos hg0, Int.toNat_natCast]
      rw [hyT] at hy
      rw [hg0]
      have htk : Hid ((puT t at0 u).take at0 = t.take at0) := by
        rw [Hid, puT, List.take_left' (by rw [List.length_take]; have := hAT.out.1; omega)]
      have hle : ((puT t at0 u).length : Int) = (t.length : Int) - ((paT t at0).length : Int) + (u.length : Int) := by omega
      have hLe : (((puT t at0 u).length : Int) == (t.length : Int) - ((paT t at0).length : Int) + (u.length : Int)) = true := by rw [hle]; simp
      have hub := hx.1
      have hpb : (paT t at0).length ≤ t.length := by have := hAT.out.2.2.2.1; rw [paT_len hh.out hAT.out.1]; omega
      have hW1 := Lib.hid (IntWalk.i64_in ((t.length : Int) - ((paT t at0).length : Int)) (by omega))
      have hW2 := Lib.hid (IntWalk.i64_in ((t.length : Int) - ((paT t at0).length : Int) + (u.length : Int)) (by omega))
      clear hub hpb
      obtain ⟨yb, yo, yc, rfl⟩ := hy.cells hxn
      have hcap1 := hy.cap hxn
      have hcap2 := hv.cap (ne_of_chk hh.out)
      have hc1 : (at0 : Int) ≤ yc := by omega
      have hc2 : (at0 : Int) ≤ vc := by have := hAT.out.1; omega
      have hc3 : at0 ≤ yc := by omega
      have hc4 : at0 ≤ vc := by have := hAT.out.1; omega
      have hlt1 := Lib.hid (And.intro (Nat.le_of_lt hat2) (Nat.le_of_lt hAT.out.1))
      clear hgood hbad hAT hg0 huc hul hun hxn hcx hpx hen hback hpo hyT hle hat2 hxl g1 g1' g3
      go_wp2_with fail
      refine (Part_calls (puT t at0 u) _ (at0 : Nat) w6 hy).mono ?_
      rintro e w7 ⟨q, rfl, hq, hB7⟩
      replace hv := hv.below hB7
      replace hx := hx.below hB7
      replace hp := hp.below hB7
      replace hy := hy.below hB7
      replace hB1 := ext_trans hB1 hB7
      clear hB7
      rw [hg.out.1]
      rw [hg.out.2.1] at hq
      replace hq := hq.any
      obtain ⟨qa, qc, rfl⟩ := hq.isSlice
      go_wp2_with fail
      refine (Put_calls (puT t at0 u) (paT t at0) _ _ (at0 : Nat) w7 hy hp).mono ?_
      rintro e w8 ⟨z, rfl, hz, hB8⟩
      replace hv := hv.below hB8
      replace hx := hx.below hB8
      replace hp := hp.below hB8
      replace hy := hy.below hB8
      replace hq := hq.below hB8
      replace hB1 := ext_trans hB1 hB8
      clear hB8
      rw [hg.out.2.2.1]
      rw [hg.out.2.2.2] at hz
      replace hz := hz.any
      obtain ⟨za, zc, rfl⟩ := hz.isSlice
      have cB := Lib.hid (qb (w := w8) fun W _ => termBegun_calls W)
      have c1 := Lib.hid (qb (w := w8) fun W hb => SameTerms_eq u _ _ W (hq.below hb) (hx.below hb))
      have c2 := Lib.hid (qb (w := w8) fun W hb => SameTerms_eq t _ _ W (hz.below hb) (hv.below hb))
      have hy2 := ints_take hy hlt1.out.1
      rw [htk.out] at hy2
      have hv2 := ints_take hv hlt1.out.2
      have c3 := Lib.hid (qb (w := w8) fun W hb => SameTerms_eq (t.take at0) _ _ W (hy2.below hb) (hv2.below hb))
      have HB := Lib.hid hB1
      clear hq hz hv hy hx hp hB1 hy2 hv2
      go_wp2_with fail
      have kW1 := hW1.out
      have kW2 := hW2.out
      refine wp_region_quiet_below (P := Try.prog) (by kernel_rfl) (by kernel_rfl) ?_
      repeat (quiet_step (first | (with_reducible exact cB.out _ _) | (with_reducible exact c1.out _ _) | (with_reducible exact c2.out _ _) | (with_reducible exact c3.out _ _)))
      refine wpQuiet_nil ?_
      intro _ hw'
      obtain ⟨⟨dq, osq⟩, hw''⟩ := hw'
      subst hw''
      clear kW1 kW2
      go_wp2_with fail
      go_ret
      exact ⟨rfl, ext_trans HB.out (below_regrown _ _ _)⟩
    · have hb2 := hbad.out hg0
      by_cases h2 : putE t at0 u = 2
      · rw [h2]
        clear hb2 hg0 hgood hbad h2
        go_wp2_with fail
        refine (termBegun_calls w6).mono ?_
        rintro e w7 ⟨rfl, hB7⟩
        go_wp2_with fail
        go_ret
        exact ⟨rfl, ext_trans hB1 hB7⟩
      · have hcu : (chk u != 0) = true := by simpa using hb2.resolve_left h2
        have hE0 : (putE t at0 u != 0) = true := by simpa using hg0
        have hE2 : (putE t at0 u == 2) = false := by simpa using h2
        clear hb2 hg0 hgood hbad h2
        go_wp2_with fail
        refine (termBegun_calls w6).mono ?_
        rintro e w7 ⟨rfl, hB7⟩
        replace hx := hx.below hB7
        go_wp2_with fail
        refine (pure_below (Check_calls u _ w7 hx)).mono ?_
        rintro e w8 ⟨rfl, hB8⟩
        go_wp2_with fail
        go_ret
        exact ⟨rfl, ext_trans (ext_trans hB1 hB7) hB8⟩
  · have hc' : (chk t != 0) = true := by simpa using hc
    obtain ⟨va, vc, rfl⟩ := hv.isSlice
    clear hc
    go_enter Try.func11, Try.ntmps11
    go_wp2_with fail
    refine (pure_below (Check_calls t _ w hv)).mono ?_
    rintro e w1 ⟨rfl, hB1⟩
    go_wp2_with fail
    refine (termBegun_calls w1).mono ?_
    rintro e w2 ⟨rfl, hB2⟩
    go_wp2_with fail
    go_ret
    exact ⟨rfl, ext_trans hB1 hB2⟩

end Go.Proofs.Ytepddehodmljeaa
