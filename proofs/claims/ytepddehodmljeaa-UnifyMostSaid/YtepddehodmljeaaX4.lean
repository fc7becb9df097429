/- Walks: meet of unify. -/
import Derived.Test.YtepddehodmljeaaX3
namespace Go.Proofs.Ytepddehodmljeaa
open Go.RowKit Go.Maps

/-- What meet does, of two terms. -/
def MetE (B : Nat) (β : Bn) (x y : Tm) (w : World) (e : Ending) (w' : World) : Prop := ∃ is β', e = .returned (.bool is) ∧ Met β x y is β' ∧ (is = true → BnIs B w' β') ∧ Keeps (fun b => b = B) w w'
def MeetC (B : Nat) (β : Bn) (x y : Tm) : Prop := ∀ u1 u2 w, BnIs B w β → IsInts (fun b => b ≠ B) w u1 x.flat → IsInts (fun b => b ≠ B) w u2 y.flat →
  Calls Try.prog 187 #[.pointer (some ⟨B, 0, none⟩), u1, u2] w (MetE B β x y w)

theorem chk_flat {x : Tm} (h : x.ok) (hs : ∀ s ∈ x.flat, -8 ≤ s ∧ s < 6) (hl : x.size ≤ 30) : chk x.flat = 0 ∧ tmOf x.flat = x :=
  ⟨chk_of (by rw [size_flat]; exact hl) hs (need_tm h), tmOf_flat h⟩

set_option maxRecDepth 100000 in
set_option maxHeartbeats 4000000 in
theorem meet_step {B n m : Nat} (ihn : ∀ n', n' < n → ∀ m β θ x y, St β θ → RtP (x, y) → fr β < n' → (x.inst θ).size < m → MeetC B β x y)
    (ihm : ∀ m', m' < m → ∀ β θ x y, St β θ → RtP (x, y) → fr β < n → (x.inst θ).size < m' → MeetC B β x y)
    {β : Bn} {θ : Int → Tm} {x y : Tm} (hS : St β θ) (hR : RtP (x, y)) (hn : fr β < n) (hm : (x.inst θ).size < m) : MeetC B β x y := by
  intro u1 u2 w hB h1 h2
  obtain ⟨a1, a2, a3, a4, a5, a6⟩ := hR
  dsimp only at a1 a2 a3 a4 a5 a6
  obtain ⟨x', kx⟩ := exists_wk hS a1
  obtain ⟨y', ky⟩ := exists_wk hS a2
  obtain ⟨x1, x2, x3, x4, x5, x6⟩ := kx.facts hS a1 a3 a5
  obtain ⟨y1, y2, y3, y4, y5, y6⟩ := ky.facts hS a2 a4 a6
  have hmet : Hid (∀ is β', Met β x' y' is β' → Met β x y is β') := fun is β' k => met_walk x6 y6 k
  have hwx := Lib.hid (walk_calls hS kx (a3 _ (sg_mem x)).1 hB h1)
  have hwy := Lib.hid fun k => walk_calls hS ky (a4 _ (sg_mem y)).1 (hB.keep (below_drewN _ w k)) (h2.mono (.of_below (below_drewN _ w k)))
  have HX := Lib.hid (And.intro x1 (And.intro x2 (And.intro x3 (And.intro x4 x5))))
  have HY := Lib.hid (And.intro y1 (And.intro y2 (And.intro y3 (And.intro y4 y5))))
  have HS := Lib.hid hS
  have HB := Lib.hid hB
  have HN := Lib.hid hn
  have HM := Lib.hid hm
  have H1 := Lib.hid ihn
  have H2 := Lib.hid ihm
  clear x1 x2 x3 x4 x5 x6 y1 y2 y3 y4 y5 y6 kx ky hS hB h1 h2 hn hm ihn ihm a1 a2 a3 a4 a5 a6
  go_enter Try.func187, Try.ntmps187
  go_wp2_with fail
  refine hwx.out.mono ?_
  rintro e w' ⟨ux, k1, rfl, hx, rfl⟩
  go_wp2_with fail
  refine (hwy.out k1).mono ?_
  rintro e w' ⟨uy, k2, rfl, hy, rfl⟩
  have hB2 := Lib.hid ((HB.out.keep (below_drewN _ w k1)).keep (below_drewN _ _ k2))
  have hW2 := Lib.hid (ext_trans (below_drewN _ w k1) (below_drewN _ _ k2))
  have hx2 := hx.mono (.of_below (below_drewN _ _ k2))
  generalize (w.drewN k1).drewN k2 = w2 at *
  obtain ⟨xb, xo, xc, rfl⟩ := hx2.cells (flat_ne x')
  obtain ⟨yb, yo, yc, rfl⟩ := hy.cells (flat_ne y')
  have c1 := hx2.cell (j := 0) (List.length_pos_iff.2 (flat_ne x'))
  have c2 := hy.cell (j := 0) (List.length_pos_iff.2 (flat_ne y'))
  rw [flat_nth0, Nat.add_zero] at c1 c2
  have hLx : 0 < x'.flat.length := List.length_pos_iff.2 (flat_ne x')
  have hLy : 0 < y'.flat.length := List.length_pos_iff.2 (flat_ne y')
  have hx3 := Lib.hid fun k => hx2.mono (.of_below (below_drewN _ w2 k))
  have hy3 := Lib.hid fun k => hy.mono (.of_below (below_drewN _ w2 k))
  have hB3 := Lib.hid fun k => hB2.out.keep (below_drewN _ w2 k)
  have hW3 := Lib.hid fun k => ext_trans hW2.out (below_drewN _ w2 k)
  clear hx hx2 hy hwx hwy hB2 hW2
  have hsx : Hid (-8 ≤ x'.sg ∧ x'.sg < 6) := HX.out.2.1 _ (sg_mem x')
  have hsy : Hid (-8 ≤ y'.sg ∧ y'.sg < 6) := HY.out.2.1 _ (sg_mem y')
  generalize hlx : x'.flat.length = Lx at *
  generalize hly : y'.flat.length = Ly at *
  have hLX := Lib.hid hlx
  have hLY := Lib.hid hly
  clear hlx hly
  generalize hqx : x'.sg = sx at *
  generalize hqy : y'.sg = sy at *
  have hQX := Lib.hid hqx
  have hQY := Lib.hid hqy
  clear hqx hqy
  go_wp2_with fail
  go_quiet (fail)
  have hx4 := Lib.hid (hx3.out nq)
  have hy4 := Lib.hid (hy3.out nq)
  have hB4 := Lib.hid (hB3.out nq)
  have hW4 := Lib.hid (hW3.out nq)
  clear hx3 hy3 hB3 hW3 c1 c2
  generalize w2.drewN nq = w3 at *
  by_cases hv : sx < 0
  · have e1 := Lib.hid (HX.out.2.2.2.2 hv)
    have dv : decide (sx < 0) = true := decide_eq_true hv
    by_cases hw : sy < 0
    · have e2 := Lib.hid (HY.out.2.2.2.2 hw)
      have dw : decide (sy < 0) = true := decide_eq_true hw
      rcases (by omega : sx = sy ∨ sx < sy ∨ sy < sx) with e | hl | hl
      · subst e
        go_wp2_with fail
        go_ret
        refine ⟨true, β, rfl, hmet.out _ _ ?_, fun _ => hB4.out, .of_below hW4.out⟩
        rw [e1.out.1, e2.out.1]
        exact met_same HS.out _
      · obtain ⟨k, hk8, rfl⟩ : ∃ k : Nat, k < 8 ∧ sx = -1 - (k : Int) := ⟨(-1 - sx).toNat, by have := hsx.out; omega, by omega⟩
        have hkk : (k : Int) < 8 := by omega
        have hmin : min (-1 - (k : Int)) sy = -1 - (k : Int) := by omega
        have hmax : max (-1 - (k : Int)) sy = sy := by omega
        have hwr : IntKind.i64.wrap (-1 - (-1 - (k : Int))) = k := by rw [IntWalk.i64_in _ (by omega)]; omega
        have hst := Lib.hid ((hB4.out.keep (below_alloc w3 (.cells #[.int .i64 sy] 3))).store hsx.out.1 hv (t := .leaf sy) (s := .slice (some ⟨w3.heap.size, 0, none⟩) 1 1) ((ints_lit w3 w3.heap.size [sy] 3 (Nat.le_refl _) (by simp)).mono (.weak fun b hb e => by have h1 : w3.heap.size ≤ b := hb; have := hB4.out.lt; omega)))
        rw [show (-1 - (-1 - (k : Int))).toNat = k by omega] at hst
        obtain ⟨q, hq, -⟩ := (hB4.out.keep (below_alloc w3 (.cells #[.int .i64 sy] 3))).cell hsx.out.1 hv
        rw [show (-1 - (-1 - (k : Int))).toNat = k by omega] at hq
        have hf := (hB4.out.keep (below_alloc w3 (.cells #[.int .i64 sy] 3))).frozen k
        have hKW := Lib.hid (ext_trans hW4.out (below_alloc w3 (.cells #[.int .i64 sy] 3)))
        have hmv := Lib.hid (met_vars HS.out hsx.out.1 hl hw e1.out.2 e2.out.2)
        go_wp2_with fail
        go_ret
        refine ⟨true, _, rfl, hmet.out _ _ ?_, fun _ => hst.out.1, (Keeps.of_below hKW.out).trans hst.out.2⟩
        rw [e1.out.1, e2.out.1]
        exact hmv.out
      · obtain ⟨k, hk8, rfl⟩ : ∃ k : Nat, k < 8 ∧ sy = -1 - (k : Int) := ⟨(-1 - sy).toNat, by have := hsy.out; omega, by omega⟩
        have hkk : (k : Int) < 8 := by omega
        have hmin : min sx (-1 - (k : Int)) = -1 - (k : Int) := by omega
        have hmax : max sx (-1 - (k : Int)) = sx := by omega
        have hne : (sx == -1 - (k : Int)) = false := by simp; omega
        have hwr : IntKind.i64.wrap (-1 - (-1 - (k : Int))) = k := by rw [IntWalk.i64_in _ (by omega)]; omega
        have hst := Lib.hid ((hB4.out.keep (below_alloc w3 (.cells #[.int .i64 sx] 3))).store hsy.out.1 hw (t := .leaf sx) (s := .slice (some ⟨w3.heap.size, 0, none⟩) 1 1) ((ints_lit w3 w3.heap.size [sx] 3 (Nat.le_refl _) (by simp)).mono (.weak fun b hb e => by have h1 : w3.heap.size ≤ b := hb; have := hB4.out.lt; omega)))
        rw [show (-1 - (-1 - (k : Int))).toNat = k by omega] at hst
        obtain ⟨q, hq, -⟩ := (hB4.out.keep (below_alloc w3 (.cells #[.int .i64 sx] 3))).cell hsy.out.1 hw
        rw [show (-1 - (-1 - (k : Int))).toNat = k by omega] at hq
        have hf := (hB4.out.keep (below_alloc w3 (.cells #[.int .i64 sx] 3))).frozen k
        have hKW := Lib.hid (ext_trans hW4.out (below_alloc w3 (.cells #[.int .i64 sx] 3)))
        have hmv := Lib.hid (met_symm (met_vars HS.out hsy.out.1 hl hv e2.out.2 e1.out.2))
        go_wp2_with fail
        go_ret
        refine ⟨true, _, rfl, hmet.out _ _ ?_, fun _ => hst.out.1, (Keeps.of_below hKW.out).trans hst.out.2⟩
        rw [e1.out.1, e2.out.1]
        exact hmv.out
    · have dw : decide (sy < 0) = false := decide_eq_false hw
      have hbc := Lib.hid (bind_calls HS.out hsx.out.1 hv HY.out.1 HY.out.2.1 HY.out.2.2.1 hB4.out hy4.out)
      have hQ : Hid (∀ is, is = !decide (sx ∈ (y'.inst θ).flat) → Met β x' y' is (bnd β sx y')) := fun is e => by
        rw [e1.out.1]
        by_cases ho : sx ∈ (y'.inst θ).flat
        · rw [e, decide_eq_true ho]
          exact met_occurs HS.out hv HY.out.1 (by rw [hQY.out]; omega) ho _
        · rw [e, decide_eq_false ho]
          exact met_bind HS.out hsx.out.1 hv e1.out.2 HY.out.1 HY.out.2.1 HY.out.2.2.1 ho fun v e h0 => by have := hQY.out; rw [e] at this; have : v = sy := this; omega
      go_wp2_with fail
      refine hbc.out.mono ?_
      rintro e w4 ⟨is, rfl, his', hBn, hKp⟩
      have his := Lib.hid his'
      clear his'
      go_wp2_with fail
      go_ret
      exact ⟨is, _, rfl, hmet.out _ _ (hQ.out _ his.out), hBn, (Keeps.of_below hW4.out).trans hKp⟩
  · have dv : decide (sx < 0) = false := decide_eq_false hv
    by_cases hw : sy < 0
    · have e2 := Lib.hid (HY.out.2.2.2.2 hw)
      have dw : decide (sy < 0) = true := decide_eq_true hw
      have hbc := Lib.hid (bind_calls HS.out hsy.out.1 hw HX.out.1 HX.out.2.1 HX.out.2.2.1 hB4.out hx4.out)
      have hQ : Hid (∀ is, is = !decide (sy ∈ (x'.inst θ).flat) → Met β x' y' is (bnd β sy x')) := fun is e => by
        rw [e2.out.1]
        refine met_symm ?_
        by_cases ho : sy ∈ (x'.inst θ).flat
        · rw [e, decide_eq_true ho]
          exact met_occurs HS.out hw HX.out.1 (by rw [hQX.out]; omega) ho _
        · rw [e, decide_eq_false ho]
          exact met_bind HS.out hsy.out.1 hw e2.out.2 HX.out.1 HX.out.2.1 HX.out.2.2.1 ho fun v e h0 => by have := hQX.out; rw [e] at this; have : v = sx := this; omega
      go_wp2_with fail
      refine hbc.out.mono ?_
      rintro e w4 ⟨is, rfl, his', hBn, hKp⟩
      have his := Lib.hid his'
      clear his'
      go_wp2_with fail
      go_ret
      exact ⟨is, _, rfl, hmet.out _ _ (hQ.out _ his.out), hBn, (Keeps.of_below hW4.out).trans hKp⟩
    · have dw : decide (sy < 0) = false := decide_eq_false hw
      by_cases hne : sx = sy
      · subst hne
        have hne2 : (sx != sx) = false := by simp
        obtain ⟨cx1, cx2⟩ := chk_flat HX.out.1 HX.out.2.1 HX.out.2.2.1
        obtain ⟨cy1, cy2⟩ := chk_flat HY.out.1 HY.out.2.1 HY.out.2.2.1
        have nx : nth x'.flat 0 = sx := by rw [flat_nth0]; exact hQX.out
        have ny : nth y'.flat 0 = sx := by rw [flat_nth0]; exact hQY.out
        obtain ⟨N, hN⟩ : ∃ N, ar sx = N := ⟨_, rfl⟩
        have hN2 : N ≤ 2 := by rw [← hN]; exact ar_le _
        obtain ⟨f, hf⟩ : ∃ f : Nat → Tm, ∀ q, f q = x'.sub (psN x'.flat 0 q) := ⟨_, fun _ => rfl⟩
        obtain ⟨g, hg⟩ : ∃ g : Nat → Tm, ∀ q, g q = y'.sub (psN y'.flat 0 q) := ⟨_, fun _ => rfl⟩
        have l0x : 0 < x'.flat.length := List.length_pos_iff.2 (flat_ne x')
        have l0y : 0 < y'.flat.length := List.length_pos_iff.2 (flat_ne y')
        have hpx : x'.parts = (List.range N).map f := by
          have := parts_ps cx1 l0x
          rw [cx2, sub_zero, psT_range, nx, hN, List.map_map] at this
          rw [this]; exact List.map_congr_left fun q _ => (hf q).symm
        have hpy : y'.parts = (List.range N).map g := by
          have := parts_ps cy1 l0y
          rw [cy2, sub_zero, psT_range, ny, hN, List.map_map] at this
          rw [this]; exact List.map_congr_left fun q _ => (hg q).symm
        have hfin : Hid (∀ is β', MetP β ((List.range N).map fun q => (f q, g q)) is β' → Met β x y is β') := fun is β' k =>
          hmet.out _ _ (met_of_parts (by rw [hQX.out]; exact hN) HX.out.1 HY.out.1 (by rw [hQX.out]; omega) (by rw [hQX.out, hQY.out]) hpx hpy k)
        have hno : Hid (∀ q β', q < N → MetP β (((List.range q).map fun q => (f q, g q)) ++ [(f q, g q)]) false β' → Met β x y false β') := fun q β' hq k => by
          refine hfin.out _ _ ?_
          have e : (List.range N).map (fun q => (f q, g q)) = (((List.range q).map fun q => (f q, g q)) ++ [(f q, g q)]) ++ ((List.range N).drop (q + 1)).map fun q => (f q, g q) := by
            have h1 : (List.range N).take (q + 1) = List.range (q + 1) := by rw [List.take_range, Nat.min_eq_left (by omega)]
            conv => lhs; rw [← List.take_append_drop (q + 1) (List.range N), h1, List.map_append]
            rw [List.range_succ, List.map_append]; rfl
          rw [e]; exact metP_no k
        have hsnoc : Hid (∀ q, ((List.range q).map fun q => (f q, g q)) ++ [(f q, g q)] = (List.range (q + 1)).map fun q => (f q, g q)) := fun q => by rw [List.range_succ, List.map_append]; rfl
        have hpart : Hid (∀ q, q < N → ∀ W, Keeps (fun b => b = B) w3 W → ∃ v1 v2, Calls Try.prog 117 #[.slice (some ⟨xb, xo, none⟩) Lx xc, .int .i64 (atN x'.flat 0 q)] W (fun e w' => e = .returned v1 ∧ W = w') ∧
            Calls Try.prog 117 #[.slice (some ⟨yb, yo, none⟩) Ly yc, .int .i64 (atN y'.flat 0 q)] W (fun e w' => e = .returned v2 ∧ W = w') ∧ IsInts (fun b => b ≠ B) W v1 (f q).flat ∧ IsInts (fun b => b ≠ B) W v2 (g q).flat ∧ RtP (f q, g q) ∧ ((f q).inst θ).size < (x'.inst θ).size) := fun q hq W hK => by
          have hSk : Sok (fun b => b ≠ B) (fun b => b ≠ B) w3 W := ⟨hK.size, fun b hb hl => ⟨hb, hK.block b hl hb⟩⟩
          have i1 := hx4.out.mono hSk
          have i2 := hy4.out.mono hSk
          rw [← hLX.out] at i1 ⊢
          rw [← hLY.out] at i2 ⊢
          have p1 := (psN_lt cx1 l0x (by rw [nx, hN]; exact hq)).1
          have p2 := (psN_lt cy1 l0y (by rw [ny, hN]; exact hq)).1
          have g1 := At_eq x'.flat cx1 xb xo xc _ W i1.any p1
          have g2 := At_eq y'.flat cy1 yb yo yc _ W i2.any p2
          have s1 := sub_flat cx1 p1
          have s2 := sub_flat cy1 p2
          rw [cx2, ← hf] at s1
          rw [cy2, ← hg] at s2
          rw [← atN_ps (by rw [nx, hN]; exact hq)] at g1
          rw [← atN_ps (by rw [ny, hN]; exact hq)] at g2
          have c1 := chk_paT cx1 p1
          have c2 := chk_paT cy1 p2
          rw [← s1.2.1] at c1
          rw [← s2.2.1] at c2
          refine ⟨_, _, g1, g2, ?_, ?_, ?_, ?_⟩
          · rw [s1.2.1, atN_ps (by rw [nx, hN]; exact hq)]; exact ints_part cx1 p1 i1
          · rw [s2.2.1, atN_ps (by rw [ny, hN]; exact hq)]; exact ints_part cy1 p2 i2
          · have := rtP_of c1 c2
            rw [tmOf_flat s1.1, tmOf_flat s2.1] at this
            exact this
          · exact part_inst_lt θ (by rw [hpx]; exact List.mem_map.2 ⟨q, List.mem_range.2 hq, rfl⟩)
        have hskip : Hid (∀ q, q < N → ∀ W, Keeps (fun b => b = B) w3 W → Calls Try.prog 115 #[.slice (some ⟨xb, xo, none⟩) Lx xc, .int .i64 (atN x'.flat 0 q)] W (fun e w' => e = .returned (.int .i64 (atN x'.flat 0 (q + 1))) ∧ W = w') ∧
            Calls Try.prog 115 #[.slice (some ⟨yb, yo, none⟩) Ly yc, .int .i64 (atN y'.flat 0 q)] W (fun e w' => e = .returned (.int .i64 (atN y'.flat 0 (q + 1))) ∧ W = w')) := fun q hq W hK => by
          have hSk : Sok (fun b => b ≠ B) (fun b => b ≠ B) w3 W := ⟨hK.size, fun b hb hl => ⟨hb, hK.block b hl hb⟩⟩
          have i1 := hx4.out.mono hSk
          have i2 := hy4.out.mono hSk
          rw [← hLX.out] at i1 ⊢
          rw [← hLY.out] at i2 ⊢
          have p1 := (psN_lt cx1 l0x (by rw [nx, hN]; exact hq)).1
          have p2 := (psN_lt cy1 l0y (by rw [ny, hN]; exact hq)).1
          rw [← atN_ps (by rw [nx, hN]; exact hq)] at p1
          rw [← atN_ps (by rw [ny, hN]; exact hq)] at p2
          have g1 := Skip_calls x'.flat (small_of_signs HX.out.2.1) _ W i1.any x'.flat.length (atN x'.flat 0 q) (by omega)
          have g2 := Skip_calls y'.flat (small_of_signs HY.out.2.1) _ W i2.any y'.flat.length (atN y'.flat 0 q) (by omega)
          rw [(part_at cx1 p1).1, atN_next _ _ (by omega)] at g1
          rw [(part_at cy1 p2).1, atN_next _ _ (by omega)] at g2
          exact ⟨g1, g2⟩
        have hrec : Hid (∀ q, q < N → ∀ β', MetP β ((List.range q).map fun q => (f q, g q)) true β' → ((f q).inst θ).size < (x'.inst θ).size → RtP (f q, g q) → MeetC B β' (f q) (g q)) := fun q hq β' hP hsz hR => by
          unfold MetP at hP
          rw [if_pos rfl] at hP
          obtain ⟨hP1, ⟨θ', hP2⟩, -⟩ := hP
          rcases hP1 with rfl | hP1
          · exact H2.out (((f q).inst θ).size + 1) (by have := HM.out; rw [HX.out.2.2.2.1] at hsz; omega) _ θ _ _ HS.out hR HN.out (by omega)
          · exact H1.out (fr β) HN.out (((f q).inst θ').size + 1) _ θ' _ _ hP2 hR hP1 (by omega)
        have hsize := Lib.hid (Size_calls sx (by have := hsx.out; omega) (by have := hsx.out; omega))
        rw [hN] at hsize
        have h0P := Lib.hid (metP_nil HS.out)
        have a0x : ((atN x'.flat 0 0 : Nat) : Int) = 1 := rfl
        have a0y : ((atN y'.flat 0 0 : Nat) : Int) = 1 := rfl
        have hBW := Lib.hid hB4.out.lt
        clear hf hg hpx hpy l0x l0y nx ny hN cx1 cx2 cy1 cy2
        go_wp2_with fail
        refine (hsize.out _).mono ?_
        rintro e w' ⟨rfl, rfl⟩
        go_wp2_with fail
        go_loopw [9, 10, 74] (fun s9 s10 s74 wr => ∃ q : Nat, q ≤ N ∧ s74 = .int .i64 q ∧ s9 = .int .i64 (atN x'.flat 0 q) ∧ s10 = .int .i64 (atN y'.flat 0 q) ∧ Hid (∃ β', MetP β ((List.range q).map fun q => (f q, g q)) true β' ∧ BnIs B wr β' ∧ Keeps (fun b => b = B) w3 wr)) (fun _ _ s74 _ => N - (intOf s74).toNat)
        case atStart => exact ⟨0, Nat.zero_le _, rfl, by rw [a0x], by rw [a0y], β, h0P.out, hB4.out, .of_below (.refl _ _)⟩
        case round =>
          rename World => wr
          obtain ⟨q, hq, rfl, rfl, rfl, hP⟩ := hrel
          obtain ⟨β', hP1, hP2, hP3⟩ := hP.out
          have hPP := Lib.hid hP1
          have hPB := Lib.hid hP2
          have hPK := Lib.hid hP3
          clear hP hP1 hP2 hP3
          by_cases hlq : q < N
          · have hqq : (q : Int) < N := by omega
            have hq2 : (q : Int) ≤ 2 := by omega
            obtain ⟨v1, v2, g1, g2, i1, i2, hR, hsz⟩ := hpart.out q hlq wr hPK.out
            have G1 := Lib.hid g1
            have G2 := Lib.hid g2
            have hC := Lib.hid (hrec.out q hlq β' hPP.out hsz hR v1 v2 wr hPB.out i1 i2)
            clear g1 g2 i1 i2 hR hsz
            go_wp2_with fail
            refine G1.out.mono ?_
            rintro e w' ⟨rfl, rfl⟩
            go_wp2_with fail
            refine G2.out.mono ?_
            rintro e w' ⟨rfl, rfl⟩
            go_wp2_with fail
            refine hC.out.mono ?_
            rintro e w5 ⟨is, β'', rfl, hM, hB5, hK5⟩
            have HM5 := Lib.hid hM
            have HB5 := Lib.hid hB5
            have hK6 := Lib.hid (hPK.out.trans hK5)
            clear hM hB5 hK5
            cases is
            · have hend := Lib.hid (hno.out q β'' hlq (metP_snoc hPP.out HM5.out))
              go_wp2_with fail
              go_ret
              exact ⟨false, β'', rfl, hend.out, (fun h => by cases h), (Keeps.of_below hW4.out).trans hK6.out⟩
            · have hnx := Lib.hid (metP_snoc hPP.out HM5.out)
              rw [hsnoc.out] at hnx
              obtain ⟨g1, g2⟩ := hskip.out q hlq w5 hK6.out
              have G3 := Lib.hid g1
              have G4 := Lib.hid g2
              clear g1 g2
              go_wp2_with fail
              refine G3.out.mono ?_
              rintro e w' ⟨rfl, rfl⟩
              go_wp2_with fail
              refine G4.out.mono ?_
              rintro e w' ⟨rfl, rfl⟩
              go_wp2_with fail
              go_roundw
              case rel => exact ⟨q + 1, by omega, by go_num, rfl, rfl, β'', hnx.out, HB5.out trivial, hK6.out⟩
              case measure => simp [intOf]; omega
          · obtain rfl : q = N := by omega
            have hend := Lib.hid (hfin.out true β' hPP.out)
            go_wp2_with fail
            go_ret
            exact ⟨true, β', rfl, hend.out, fun _ => hPB.out, (Keeps.of_below hW4.out).trans hPK.out⟩
      · have hne2 : (sx != sy) = true := by simpa using hne
        have hcl := Lib.hid (met_clash (β := β) (β' := β) (x := x') (y := y') (by rw [hQX.out]; omega) (by rw [hQY.out]; omega) (by rw [hQX.out, hQY.out]; exact hne))
        go_wp2_with fail
        go_ret
        exact ⟨false, β, rfl, hmet.out _ _ hcl.out, (fun h => by cases h), .of_below hW4.out⟩

theorem meet_calls {B : Nat} : ∀ n m β θ x y, St β θ → RtP (x, y) → fr β < n → (x.inst θ).size < m → MeetC B β x y := by
  intro n
  induction n using Nat.strongRecOn with
  | ind n ihn =>
    intro m
    induction m using Nat.strongRecOn with
    | ind m ihm =>
      intro β θ x y hS hR hn hm
      exact meet_step ihn ihm hS hR hn hm
theorem meet_calls' {B : Nat} {β : Bn} {θ : Int → Tm} {x y : Tm} (hS : St β θ) (hR : RtP (x, y)) : MeetC B β x y :=
  meet_calls _ _ β θ x y hS hR (Nat.lt_succ_self _) (Nat.lt_succ_self _)

end Go.Proofs.Ytepddehodmljeaa
