/- Walks: UnifyTrue, UnifyMost. -/
import Derived.Test.YtepddehodmljeaaX9
namespace Go.Proofs.Ytepddehodmljeaa
open Go.RowKit Go.Maps

theorem SameTerms_ne {s t : List Int} (hne : s ≠ t) (u v : Value) (w : World) (hu : IsInts Any w u s) (hv : IsInts Any w v t) : Calls Try.prog 39 #[u, v] w fun e w' => e = .returned (.bool false) ∧ Below w.heap.size w w' :=
  (SameTerms_calls s t u v w hu hv).mono fun e w' ⟨h, n, hn⟩ => ⟨by rw [h, decide_eq_false hne], by rw [hn]; exact below_drewN _ _ _⟩

set_option maxRecDepth 100000 in
set_option maxHeartbeats 4000000 in
theorem UnifyTrue_calls (a b : List Int) (u v : Value) (w : World) (hu : IsInts Any w u a) (hv : IsInts Any w v b) : Calls Try.prog 18 #[u, v] w fun e w' => e = .returned (.bool true) ∧ Below w.heap.size w w' := by
  obtain ⟨ua, uc, rfl⟩ := hu.isSlice
  obtain ⟨va, vc, rfl⟩ := hv.isSlice
  go_enter Try.func18, Try.ntmps18
  go_wp2_with fail
  refine (Meet_calls a b _ _ w hu hv).mono ?_
  rintro e w1 ⟨s, is, er, x, rfl, hm, hx, hB1⟩
  replace hu := hu.below hB1
  replace hv := hv.below hB1
  replace hx := hx.any TermR.ok
  obtain ⟨xa, xc, rfl⟩ := hx.isSlice
  by_cases he : er = 0
  · subst he
    go_wp2_with fail
    refine (Meet_calls b a _ _ w1 hv hu).mono ?_
    rintro e w2 ⟨u, io, f, y, rfl, hm2, hy, hB2⟩
    replace hu := hu.below hB2
    replace hv := hv.below hB2
    replace hx := hx.below TermR.ok hB2
    replace hB1 := ext_trans hB1 hB2
    clear hB2
    replace hy := hy.any TermR.ok
    obtain ⟨rfl, rfl, rfl⟩ := meet_swap hm rfl hm2
    clear hm2
    obtain ⟨ya, yc, rfl⟩ := hy.isSlice
    cases io
    · clear hm
      go_wp2_with fail
      refine (SameSubs_eq s _ _ w2 hx hy).mono ?_
      rintro e w3 ⟨rfl, hB3⟩
      clear hy
      replace hu := hu.below hB3
      replace hv := hv.below hB3
      replace hx := hx.below TermR.ok hB3
      replace hB1 := ext_trans hB1 hB3
      clear hB3
      clear hx hu hv
      go_wp2_with fail
      refine (unifyBegun_calls w3).mono ?_
      rintro e w4 ⟨rfl, hB4⟩
      replace hB1 := ext_trans hB1 hB4
      clear hB4
      go_wp2_with fail
      go_ret
      exact ⟨rfl, hB1⟩
    · obtain ⟨t1, t2, t3, t4⟩ := meet_true hm
      clear hm
      go_wp2_with fail
      refine (SameSubs_eq s _ _ w2 hx hy).mono ?_
      rintro e w3 ⟨rfl, hB3⟩
      clear hy
      replace hu := hu.below hB3
      replace hv := hv.below hB3
      replace hx := hx.below TermR.ok hB3
      replace hB1 := ext_trans hB1 hB3
      clear hB3
      go_wp2_with fail
      refine (Apply_calls s a _ _ w3 hx hu).mono ?_
      rintro e w4 ⟨xx, rfl, hxx, hB4⟩
      replace hu := hu.below hB4
      replace hv := hv.below hB4
      replace hx := hx.below TermR.ok hB4
      replace hB1 := ext_trans hB1 hB4
      clear hB4
      rw [t1]
      rw [t2] at hxx
      clear t1 t2
      replace hxx := hxx.any
      obtain ⟨xxa, xxc, rfl⟩ := hxx.isSlice
      go_wp2_with fail
      refine (Apply_calls s b _ _ w4 hx hv).mono ?_
      rintro e w5 ⟨yy, rfl, hyy, hB5⟩
      clear hu hv
      replace hx := hx.below TermR.ok hB5
      replace hxx := hxx.below hB5
      replace hB1 := ext_trans hB1 hB5
      clear hB5
      replace hyy := hyy.any
      obtain ⟨yya, yyc, rfl⟩ := hyy.isSlice
      go_wp2_with fail
      refine (After_calls s s _ _ w5 hx hx).mono ?_
      rintro e w6 ⟨tw, rfl, htw, hB6⟩
      replace hx := hx.below TermR.ok hB6
      replace hxx := hxx.below hB6
      replace hyy := hyy.below hB6
      replace hB1 := ext_trans hB1 hB6
      clear hB6
      rw [t3]
      rw [t4] at htw
      clear t3 t4
      replace htw := htw.any TermR.ok
      obtain ⟨twa, twc, rfl⟩ := htw.isSlice
      go_wp2_with fail
      refine (unifyBegun_calls w6).mono ?_
      rintro e w7 ⟨rfl, hB7⟩
      replace hx := hx.below TermR.ok hB7
      replace hxx := hxx.below hB7
      replace hyy := hyy.below hB7
      replace htw := htw.below TermR.ok hB7
      replace hB1 := ext_trans hB1 hB7
      clear hB7
      go_wp2_with fail
      refine (SameTerms_eq (applyT s b) _ _ w7 hxx hyy).mono ?_
      rintro e w8 ⟨rfl, hB8⟩
      clear hxx hyy
      replace hx := hx.below TermR.ok hB8
      replace htw := htw.below TermR.ok hB8
      replace hB1 := ext_trans hB1 hB8
      clear hB8
      go_wp2_with fail
      refine (SameSubs_eq s _ _ w8 htw hx).mono ?_
      rintro e w9 ⟨rfl, hB9⟩
      clear htw hx
      replace hB1 := ext_trans hB1 hB9
      clear hB9
      go_wp2_with fail
      go_ret
      exact ⟨rfl, hB1⟩
  · have he' : (er != 0) = true := by simpa using he
    clear he hm hx hu hv
    go_wp2_with fail
    refine (unifyBegun_calls w1).mono ?_
    rintro e w2 ⟨rfl, hB2⟩
    replace hB1 := ext_trans hB1 hB2
    clear hB2
    go_wp2_with fail
    go_ret
    exact ⟨rfl, hB1⟩


set_option maxRecDepth 100000 in
set_option maxHeartbeats 4000000 in
theorem UnifyMost_calls (a b : List Int) (s : List (List Int)) (u v x : Value) (w : World) (hu : IsInts Any w u a) (hv : IsInts Any w v b) (hs : IsTerms Any w x s) : Calls Try.prog 19 #[u, v, x] w fun e w' => e = .returned (.bool true) ∧ Below w.heap.size w w' := by
  obtain ⟨ua, uc, rfl⟩ := hu.isSlice
  obtain ⟨va, vc, rfl⟩ := hv.isSlice
  obtain ⟨sa, sc, rfl⟩ := hs.isSlice
  go_enter Try.func19, Try.ntmps19
  by_cases ha : applyE s a = 0
  · by_cases hb : applyE s b = 0
    · by_cases hab : applyT s a = applyT s b
      · go_wp2_with fail
        refine (Apply_calls s a _ _ w hs hu).mono ?_
        rintro e w1 ⟨x, rfl, hx, hB1⟩
        replace hu := hu.below hB1
        replace hv := hv.below hB1
        replace hs := hs.below TermR.ok hB1
        replace hx := hx.any
        obtain ⟨xa, xc, rfl⟩ := hx.isSlice
        go_wp2_with fail
        refine (Apply_calls s b _ _ w1 hs hv).mono ?_
        rintro e w2 ⟨y, rfl, hy, hB2⟩
        replace hu := hu.below hB2
        replace hv := hv.below hB2
        replace hs := hs.below TermR.ok hB2
        replace hx := hx.below hB2
        replace hB1 := ext_trans hB1 hB2
        clear hB2
        replace hy := hy.any
        obtain ⟨ya, yc, rfl⟩ := hy.isSlice
        rw [hab] at hx
        rw [hb]
        go_wp2_with fail
        refine (SameTerms_eq (applyT s b) _ _ w2 hx hy).mono ?_
        rintro e w3 ⟨rfl, hB3⟩
        clear hx hy
        replace hu := hu.below hB3
        replace hv := hv.below hB3
        replace hs := hs.below TermR.ok hB3
        replace hB1 := ext_trans hB1 hB3
        clear hB3
        go_wp2_with fail
        refine (Meet_calls a b _ _ w3 hu hv).mono ?_
        rintro e w4 ⟨z, is, er, q, rfl, hm, hq, hB4⟩
        clear hu hv
        replace hs := hs.below TermR.ok hB4
        replace hB1 := ext_trans hB1 hB4
        clear hB4
        replace hq := hq.any TermR.ok
        obtain ⟨qa, qc, rfl⟩ := hq.isSlice
        obtain ⟨m1, m2⟩ := meet_most ha hb hab hm
        clear hm
        by_cases he : er = 0
        · obtain ⟨rfl, f1, f2⟩ := m2 he
          subst he
          clear m1 m2 ha hb hab
          go_wp2_with fail
          refine (After_calls z s _ _ w4 hq hs).mono ?_
          rintro e w5 ⟨tw, rfl, htw, hB5⟩
          clear hq
          replace hs := hs.below TermR.ok hB5
          replace hB1 := ext_trans hB1 hB5
          clear hB5
          rw [f1]
          rw [f2] at htw
          clear f1 f2
          replace htw := htw.any TermR.ok
          obtain ⟨twa, twc, rfl⟩ := htw.isSlice
          go_wp2_with fail
          refine (unifyBegun_calls w5).mono ?_
          rintro e w6 ⟨rfl, hB6⟩
          replace hs := hs.below TermR.ok hB6
          replace htw := htw.below TermR.ok hB6
          replace hB1 := ext_trans hB1 hB6
          clear hB6
          go_wp2_with fail
          refine (SameSubs_eq s _ _ w6 htw hs).mono ?_
          rintro e w7 ⟨rfl, hB7⟩
          clear htw hs
          replace hB1 := ext_trans hB1 hB7
          clear hB7
          go_wp2_with fail
          go_ret
          exact ⟨rfl, hB1⟩
        · obtain rfl := m1 he
          clear m1 m2 ha hb hab hq hs he
          go_wp2_with fail
          refine (unifyBegun_calls w4).mono ?_
          rintro e w5 ⟨rfl, hB5⟩
          replace hB1 := ext_trans hB1 hB5
          clear hB5
          go_wp2_with fail
          go_ret
          exact ⟨rfl, hB1⟩
      · go_wp2_with fail
        refine (Apply_calls s a _ _ w hs hu).mono ?_
        rintro e w1 ⟨x, rfl, hx, hB1⟩
        replace hu := hu.below hB1
        replace hv := hv.below hB1
        replace hs := hs.below TermR.ok hB1
        replace hx := hx.any
        obtain ⟨xa, xc, rfl⟩ := hx.isSlice
        go_wp2_with fail
        refine (Apply_calls s b _ _ w1 hs hv).mono ?_
        rintro e w2 ⟨y, rfl, hy, hB2⟩
        replace hu := hu.below hB2
        replace hv := hv.below hB2
        replace hs := hs.below TermR.ok hB2
        replace hx := hx.below hB2
        replace hB1 := ext_trans hB1 hB2
        clear hB2
        replace hy := hy.any
        obtain ⟨ya, yc, rfl⟩ := hy.isSlice
        rw [hb]
        go_wp2_with fail
        refine (SameTerms_ne hab _ _ w2 hx hy).mono ?_
        rintro e w3 ⟨rfl, hB3⟩
        clear hx hy
        replace hu := hu.below hB3
        replace hv := hv.below hB3
        replace hs := hs.below TermR.ok hB3
        replace hB1 := ext_trans hB1 hB3
        clear hB3
        clear hs hu hv ha hb hab
        go_wp2_with fail
        refine (unifyBegun_calls w3).mono ?_
        rintro e w4 ⟨rfl, hB4⟩
        replace hB1 := ext_trans hB1 hB4
        clear hB4
        go_wp2_with fail
        go_ret
        exact ⟨rfl, hB1⟩
    · go_wp2_with fail
      refine (Apply_calls s a _ _ w hs hu).mono ?_
      rintro e w1 ⟨x, rfl, hx, hB1⟩
      replace hu := hu.below hB1
      replace hv := hv.below hB1
      replace hs := hs.below TermR.ok hB1
      replace hx := hx.any
      obtain ⟨xa, xc, rfl⟩ := hx.isSlice
      go_wp2_with fail
      refine (Apply_calls s b _ _ w1 hs hv).mono ?_
      rintro e w2 ⟨y, rfl, hy, hB2⟩
      replace hu := hu.below hB2
      replace hv := hv.below hB2
      replace hs := hs.below TermR.ok hB2
      replace hx := hx.below hB2
      replace hB1 := ext_trans hB1 hB2
      clear hB2
      replace hy := hy.any
      obtain ⟨ya, yc, rfl⟩ := hy.isSlice
      have hb' : (applyE s b != 0) = true := by simpa using hb
      clear hs hu hv ha hb hx hy
      go_wp2_with fail
      refine (unifyBegun_calls w2).mono ?_
      rintro e w3 ⟨rfl, hB3⟩
      replace hB1 := ext_trans hB1 hB3
      clear hB3
      go_wp2_with fail
      go_ret
      exact ⟨rfl, hB1⟩
  · go_wp2_with fail
    refine (Apply_calls s a _ _ w hs hu).mono ?_
    rintro e w1 ⟨x, rfl, hx, hB1⟩
    replace hu := hu.below hB1
    replace hv := hv.below hB1
    replace hs := hs.below TermR.ok hB1
    replace hx := hx.any
    obtain ⟨xa, xc, rfl⟩ := hx.isSlice
    go_wp2_with fail
    refine (Apply_calls s b _ _ w1 hs hv).mono ?_
    rintro e w2 ⟨y, rfl, hy, hB2⟩
    replace hu := hu.below hB2
    replace hv := hv.below hB2
    replace hs := hs.below TermR.ok hB2
    replace hx := hx.below hB2
    replace hB1 := ext_trans hB1 hB2
    clear hB2
    replace hy := hy.any
    obtain ⟨ya, yc, rfl⟩ := hy.isSlice
    have ha' : (applyE s a != 0) = true := by simpa using ha
    clear hs hu hv ha hx hy
    go_wp2_with fail
    refine (unifyBegun_calls w2).mono ?_
    rintro e w3 ⟨rfl, hB3⟩
    replace hB1 := ext_trans hB1 hB3
    clear hB3
    go_wp2_with fail
    go_ret
    exact ⟨rfl, hB1⟩


end Go.Proofs.Ytepddehodmljeaa
