/- Walks: hasplaw.fxga, some, subBegun; SubTells, SubAfter, SubTrue. -/
import Derived.Test.YtepddehodmljeaaD7
namespace Go.Proofs.Ytepddehodmljeaa
open Go.RowKit Go.Maps

theorem ext_trans {a b c : World} (h : Below a.heap.size a b) (k : Below b.heap.size b c) : Below a.heap.size a c := h.trans (k.mono h.size)
theorem ext_alloc {a b : World} (h : Below a.heap.size a b) (o : Obj) : Below a.heap.size a (b.alloc o) := ext_trans h (below_alloc _ _)

theorem SameTerms_eq (t : List Int) (u v : Value) (w : World) (hu : IsInts Any w u t) (hv : IsInts Any w v t) :
    Calls Try.prog 39 #[u, v] w fun e w' => e = .returned (.bool true) ∧ Below w.heap.size w w' :=
  (SameTerms_calls t t u v w hu hv).mono fun e w' ⟨h, n, hn⟩ => ⟨by rw [h, decide_eq_true rfl], by rw [hn]; exact below_drewN _ _ _⟩
theorem SameSubs_eq (t : List (List Int)) (u v : Value) (w : World) (hu : IsTerms Any w u t) (hv : IsTerms Any w v t) :
    Calls Try.prog 44 #[u, v] w fun e w' => e = .returned (.bool true) ∧ Below w.heap.size w w' :=
  (SameSubs_calls t t u v w hu hv).mono fun e w' ⟨h, n, hn⟩ => ⟨by rw [h, decide_eq_true rfl], by rw [hn]; exact below_drewN _ _ _⟩

/-- f(x,g(a)). -/
def fxgaT : List Int := [4, -1, 2, 0]
theorem fxga_calls (w : World) : Calls Try.prog 103 #[] w fun e w' => ∃ x, e = .returned x ∧ IsInts (Fr w.heap.size) w' x fxgaT ∧ Below w.heap.size w w' := by
  go_enter Try.func103, Try.ntmps103
  go_wp2
  go_ret
  exact ⟨_, rfl, ints_lit w w.heap.size fxgaT 3 (Nat.le_refl _) (by decide), below_alloc _ _⟩

theorem OwnRow.terms {base : Nat} {w : World} {v : Value} {ts : List (List Int)} (h : OwnRow base 24 1 TermR (Fr base) w v ts) (hl : ts.length ≤ 1000000) : IsTerms (Fr base) w v ts :=
  h.isRow TermR.ok (fun _ h => h) (fun _ h => h) (by omega)
theorem IsRow.any {α : Type} {sz : Nat} {R : Rep α} (hR : R.Ok) {S : Blk} {w : World} {v : Value} {xs : List α} (h : IsRow sz R S w v xs) : IsRow sz R Any w v xs := h.mono hR .toAny

/-- x becomes g(y), y becomes x. -/
def someS : List (List Int) := [[2, -2], [-1], [-3], [-4], [-5], [-6], [-7], [-8]]

set_option maxRecDepth 100000 in
theorem some_calls (w : World) : Calls Try.prog 102 #[] w fun e w' => ∃ x, e = .returned x ∧ IsTerms (Fr w.heap.size) w' x someS ∧ Below w.heap.size w w' := by
  obtain ⟨i24, hi, hz, hsz, hby⟩ := info_parts Try.inf24
  go_enter Try.func102, Try.ntmps102
  go_wp2_with fail
  refine (NoneOf_calls w).mono ?_
  rintro e w1 ⟨v, rfl, hO, hB⟩
  obtain ⟨g, c, cur, rfl, hg, hgg, hcc⟩ := hO.at (by simp [noneS])
  have hgl := lt_of_block hgg
  have hO1 := Lib.hid ((hO.below TermR.ok (below_alloc w1 (.cells #[.int .i64 2, .int .i64 (-2)] 3))).below TermR.ok (below_alloc _ (.cells #[.int .i64 (-1)] 3)))
  have hs := hB.size
  have hA : Hid (TermR (Both' (Fr w.heap.size) fun b => b ≠ g) ((w1.alloc (.cells #[.int .i64 2, .int .i64 (-2)] 3)).alloc (.cells #[.int .i64 (-1)] 3)) [.slice (some ⟨w1.heap.size, 0, none⟩) 2 2] [2, -2]) :=
    ⟨_, rfl, ((ints_lit w1 w1.heap.size [2, -2] 3 (Nat.le_refl _) (by decide)).below (below_alloc _ _)).mono (.weak fun b hb => by have : w1.heap.size ≤ b := hb; exact ⟨by show w.heap.size ≤ b; omega, by omega⟩)⟩
  have hA2 : Hid (TermR (Both' (Fr w.heap.size) fun b => b ≠ g) ((w1.alloc (.cells #[.int .i64 2, .int .i64 (-2)] 3)).alloc (.cells #[.int .i64 (-1)] 3)) [.slice (some ⟨w1.heap.size + 1, 0, none⟩) 1 1] [-1]) := by
    refine ⟨_, rfl, ?_⟩
    have h := ints_one (w1.alloc (.cells #[.int .i64 2, .int .i64 (-2)] 3)) (-1) 3
    rw [World.size_alloc] at h
    exact h.mono (.weak fun b hb => by have : w1.heap.size + 1 ≤ b := hb; exact ⟨by show w.heap.size ≤ b; omega, by omega⟩)
  have hB' := Lib.hid (ext_alloc (ext_alloc hB (.cells #[.int .i64 2, .int .i64 (-2)] 3)) (.cells #[.int .i64 (-1)] 3))
  clear hO hgg hB
  simp only [noneS, List.length_cons, List.length_nil] at *
  have tok1 : True := trivial
  go_wp2_with (first
    | ((with_reducible show wpList _ _ _ (Oper.mk none (Op.store _ _ _) _ _ _ _ :: _) _ _); have _t := tok1; refine store_rows TermR.ok _ _ 24 rfl rfl rfl i24 hi hsz w.heap.size 24 (Fr w.heap.size) g 0 8 c _ rfl hO1.out (by decide) [2, -2] hA.out rfl ?_; intro w2 hown2 hg2 hz2; clear tok1)
    | ((with_reducible show wpList _ _ _ (Oper.mk none (Op.store _ _ _) _ _ _ _ :: _) _ _); refine store_rows TermR.ok _ _ 24 rfl rfl rfl i24 hi hsz w.heap.size 24 (Fr w.heap.size) g 1 8 c _ rfl hown2 (by decide) [-1] ?s1 rfl ?_; rotate_left 1; intro w3 hown3 hg3 hz3))
  case s1 => exact TermR.ok _ _ _ _ _ _ hA2.out ⟨hg2.size, fun b hb hl => ⟨hb, hg2.block b hl (fun e => hb.2 (by cases e; rfl))⟩⟩
  go_ret
  refine ⟨_, rfl, hown3.terms (by simp), ?_⟩
  have hsz2 := hg2.size
  simp at hsz2
  exact (hB'.out.trans (below_of_grown hg2 (by simp; omega) fun j hj => by cases hj; exact hg)).trans (below_of_grown hg3 (by omega) fun j hj => by cases hj; exact hg)

theorem lit_any (w : World) (xs : List Int) (hl : xs.length ≤ 1000) : IsInts Any (w.alloc (.cells (xs.map (Value.int .i64)).toArray 3)) (.slice (some ⟨w.heap.size, 0, none⟩) xs.length xs.length) xs :=
  (ints_lit w w.heap.size xs 3 (Nat.le_refl _) (by omega)).any

theorem row_cell {S : Blk} {w : World} {v : Value} {ts : List (List Int)} (h : IsTerms S w v ts) {j : Nat} (hj : j < ts.length) :
    ∃ b o c u, v = .slice (some ⟨b, o, none⟩) ts.length c ∧ w.cell? ⟨b, o + j, none⟩ = some u ∧ IsInts S w u (nthT ts j) := by
  obtain ⟨hlen, ⟨rfl, -⟩ | ⟨hne, b, o, c, rfl, -, -, hlt, cs, he, hc⟩⟩ := h
  · simp at hj
  · obtain ⟨u, h1, h2⟩ := terms_cell he hc hj
    exact ⟨b, o, c, u, rfl, h1, h2⟩

def aft2 : List (List Int) := [[2, -1], [2, -2], [-3], [-4], [-5], [-6], [-7], [-8]]
theorem k1 : applyE someS [4, -1, -2] = 0 ∧ applyT someS [4, -1, -2] = [4, 2, -2, -1] := by decide +kernel
theorem k2 : afterE someS someS = 0 ∧ afterT someS someS = aft2 := by decide +kernel
theorem k3 : chk [4, -5, 4, -2, -5] = 0 ∧ plT [4, -5, 4, -2, -5] = [4, -1, 4, -2, -1] := by decide +kernel
theorem k4 : applyE [] fxgaT = 1 := by decide +kernel
theorem k5 : chkS noneS = 0 := by decide +kernel

set_option maxRecDepth 100000 in
set_option maxHeartbeats 1000000 in
theorem subBegun_calls (w : World) : Calls Try.prog 36 #[] w fun e w' => e = .returned (.bool true) ∧ Below w.heap.size w w' := by
  go_enter Try.func36, Try.ntmps36
  go_wp2_with fail
  refine (some_calls w).mono ?_
  rintro e w1 ⟨x1, rfl, hx1, hB1⟩
  go_wp2_with fail
  refine (Apply_calls someS [4, -1, -2] _ _ _ (hx1.any TermR.ok |>.below TermR.ok (below_alloc w1 _)) (lit_any w1 [4, -1, -2] (by decide))).mono ?_
  rintro e w2 ⟨t, rfl, ht, hB2⟩
  rw [k1.1]
  rw [k1.2] at ht
  replace hB2 := ext_trans (ext_alloc hB1 _) hB2
  clear hx1 hB1
  obtain ⟨ta, tc, rfl⟩ := ht.isSlice
  replace ht := ht.any
  go_wp2_with fail
  refine (some_calls w2).mono ?_
  rintro e w3 ⟨x3, rfl, hx3, hB3⟩
  replace ht := ht.below hB3
  replace hB2 := ext_trans hB2 hB3
  clear hB3
  go_wp2_with fail
  refine (some_calls w3).mono ?_
  rintro e w4 ⟨x4, rfl, hx4, hB4⟩
  go_wp2_with fail
  refine (After_calls someS someS _ _ w4 (hx3.any TermR.ok |>.below TermR.ok hB4) (hx4.any TermR.ok)).mono ?_
  rintro e w5 ⟨u, rfl, hu, hB5⟩
  rw [k2.1]
  rw [k2.2] at hu
  replace ht := ht.below (ext_trans hB4 hB5)
  replace hB2 := ext_trans hB2 (ext_trans hB4 hB5)
  clear hx3 hx4 hB4 hB5
  replace hu := hu.any TermR.ok
  obtain ⟨b, o, c, -, rfl, -, -⟩ := row_cell hu (j := 0) (by decide)
  rw [show aft2.length = 8 from rfl] at hu ⊢
  go_wp2_with fail
  refine (Plain_calls [4, -5, 4, -2, -5] _ _ (lit_any w5 [4, -5, 4, -2, -5] (by decide))).mono ?_
  rintro e w6 ⟨p, rfl, hp, hB6⟩
  rw [k3.1]
  rw [k3.2] at hp
  replace hB6 := ext_trans (below_alloc w5 _) hB6
  replace ht := ht.below hB6
  replace hu := hu.below TermR.ok hB6
  replace hB2 := ext_trans hB2 hB6
  replace hp := hp.any
  clear hB6
  go_wp2_with fail
  refine (fxga_calls w6).mono ?_
  rintro e w7 ⟨f, rfl, hf, hB7⟩
  go_wp2_with fail
  refine (Apply_calls [] fxgaT _ _ w7 (.nil _ _) hf.any).mono ?_
  rintro e w8 ⟨y8, rfl, -, hB8⟩
  rw [k4]
  replace hB7 := ext_trans hB7 hB8
  replace ht := ht.below hB7
  replace hu := hu.below TermR.ok hB7
  replace hp := hp.below hB7
  replace hB2 := ext_trans hB2 hB7
  clear hB7 hB8 hf
  go_wp2_with fail
  refine (None_calls w8).mono ?_
  rintro e w9 ⟨n, rfl, hn, hB9⟩
  replace hn := (hn.terms (by decide)).any TermR.ok
  replace ht := ht.below hB9
  replace hu := hu.below TermR.ok hB9
  replace hp := hp.below hB9
  replace hB2 := ext_trans hB2 hB9
  clear hB9
  go_wp2_with fail
  refine (SameTerms_eq [4, 2, -2, -1] _ _ _ (ht.below (below_alloc w9 _)) (lit_any w9 [4, 2, -2, -1] (by decide))).mono ?_
  rintro e w10 ⟨rfl, hB10⟩
  replace hB10 := ext_trans (below_alloc w9 _) hB10
  replace hu := hu.below TermR.ok hB10
  replace hp := hp.below hB10
  replace hn := hn.below TermR.ok hB10
  replace hB2 := ext_trans hB2 hB10
  clear hB10 ht
  obtain ⟨b', o', c', u0, e, hc0, hu0⟩ := row_cell hu (j := 0) (by decide)
  cases e
  rw [Nat.add_zero] at hc0
  go_wp2_with fail
  refine (SameTerms_eq [2, -1] _ _ _ (hu0.below (below_alloc w10 _)) (lit_any w10 [2, -1] (by decide))).mono ?_
  rintro e w11 ⟨rfl, hB11⟩
  replace hB11 := ext_trans (below_alloc w10 _) hB11
  replace hu := hu.below TermR.ok hB11
  replace hp := hp.below hB11
  replace hn := hn.below TermR.ok hB11
  replace hB2 := ext_trans hB2 hB11
  clear hB11 hu0 hc0
  obtain ⟨b'', o'', c'', u1, e, hc1, hu1⟩ := row_cell hu (j := 1) (by decide)
  cases e
  go_wp2_with fail
  refine (SameTerms_eq [2, -2] _ _ _ (hu1.below (below_alloc w11 _)) (lit_any w11 [2, -2] (by decide))).mono ?_
  rintro e w12 ⟨rfl, hB12⟩
  replace hB12 := ext_trans (below_alloc w11 _) hB12
  replace hp := hp.below hB12
  replace hn := hn.below TermR.ok hB12
  replace hB2 := ext_trans hB2 hB12
  clear hB12 hu1 hc1 hu
  go_wp2_with fail
  refine (SameTerms_eq [4, -1, 4, -2, -1] _ _ _ (hp.below (below_alloc w12 _)) (lit_any w12 [4, -1, 4, -2, -1] (by decide))).mono ?_
  rintro e w13 ⟨rfl, hB13⟩
  replace hB13 := ext_trans (below_alloc w12 _) hB13
  replace hn := hn.below TermR.ok hB13
  replace hB2 := ext_trans hB2 hB13
  clear hB13 hp
  go_wp2_with fail
  refine (NoneOf_calls w13).mono ?_
  rintro e w14 ⟨m, rfl, hm, hB14⟩
  replace hm := (hm.terms (by decide)).any TermR.ok
  replace hn := hn.below TermR.ok hB14
  replace hB2 := ext_trans hB2 hB14
  clear hB14
  go_wp2_with fail
  refine (SameSubs_eq noneS _ _ _ hn hm).mono ?_
  rintro e w15 ⟨rfl, hB15⟩
  replace hn := hn.below TermR.ok hB15
  replace hB2 := ext_trans hB2 hB15
  clear hB15 hm
  go_wp2_with fail
  refine (SubCheck_calls noneS _ _ hn).mono ?_
  rintro e w16 ⟨rfl, rfl⟩
  rw [k5]
  go_wp2_with fail
  go_ret
  exact ⟨rfl, hB2⟩

set_option maxRecDepth 100000 in
set_option maxHeartbeats 1000000 in
theorem SubTells_calls (s : List (List Int)) (t : List Int) (u v : Value) (w : World) (hu : IsTerms Any w u s) (hv : IsInts Any w v t) :
    Calls Try.prog 3 #[u, v] w fun e w' => e = .returned (.bool true) ∧ Below w.heap.size w w' := by
  obtain ⟨a, c, rfl⟩ := hu.isSlice
  obtain ⟨a', c', rfl⟩ := hv.isSlice
  have hE : Hid (applyE s t = applyE s t) := rfl
  go_enter Try.func3, Try.ntmps3
  go_wp2_with fail
  refine (Apply_calls s t _ _ w hu hv).mono ?_
  rintro e w1 ⟨x, rfl, hx, hB1⟩
  replace hu := hu.below TermR.ok hB1
  replace hv := hv.below hB1
  replace hx := hx.any
  go_wp2_with fail
  refine (ApplyOf_calls s t _ _ w1 hu hv).mono ?_
  rintro e w2 ⟨y, rfl, hy, hB2⟩
  replace hu := hu.below TermR.ok hB2
  replace hx := hx.below hB2
  replace hy := hy.any
  replace hB1 := ext_trans hB1 hB2
  clear hB2 hv
  go_wp2_with fail
  refine (subBegun_calls w2).mono ?_
  rintro e w3 ⟨rfl, hB3⟩
  replace hu := hu.below TermR.ok hB3
  replace hx := hx.below hB3
  replace hy := hy.below hB3
  replace hB1 := ext_trans hB1 hB3
  clear hB3
  go_wp2_with fail
  refine (SubCheck_calls s _ w3 hu).mono ?_
  rintro e w4 ⟨rfl, rfl⟩
  go_wp2_with fail
  refine (SubError_calls s _ w3 hu).mono ?_
  rintro e w4 ⟨rfl, rfl⟩
  go_wp2_with fail
  refine (SameTerms_eq _ _ _ w3 hx hy).mono ?_
  rintro e w4 ⟨rfl, hB4⟩
  replace hB1 := ext_trans hB1 hB4
  go_wp2_with fail
  go_ret
  exact ⟨rfl, hB1⟩

end Go.Proofs.Ytepddehodmljeaa
