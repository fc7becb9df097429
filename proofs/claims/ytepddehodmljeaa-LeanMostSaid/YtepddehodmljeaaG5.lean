/- Places: walks of Over; matchBegun. -/
import Derived.Stop.RegionWithIn
import Derived.Outline
import Derived.Maps.AppendAt
import Derived.Test.YtepddehodmljeaaG3
import Derived.Test.YtepddehodmljeaaG4
namespace Go.Proofs.Ytepddehodmljeaa

/-- A list of terms as a way of what variables become. -/
def sig (s : List (List Int)) : Int → Tm := fun v => tmOf (nthT s (-1 - v).toNat)
theorem sig_ok {s : List (List Int)} (hs : RightS s) : ∀ v, v < 0 → (sig s v).ok := by
  intro v hv
  unfold sig
  by_cases h : (-1 - v).toNat < s.length
  · exact (tm_chk (hs.2 _ (nthT_mem h))).1
  · have : nthT s (-1 - v).toNat = [] := by simp [nthT, List.getD, List.getElem?_eq_none (Nat.not_lt.1 h)]
    rw [this]
    show ar 0 = 0
    decide
theorem sig_flat {s : List (List Int)} (hs : RightS s) {v : Int} (h1 : -8 ≤ v) (h2 : v < 0) : (sig s v).flat = nthT s (-1 - v).toNat :=
  (tm_chk (hs.2 _ (nthT_mem (by rw [hs.1]; omega)))).2
theorem app_sig {s : List (List Int)} (hs : RightS s) {x : Tm} (hx : x.ok) (hv : ∀ v ∈ x.flat, -8 ≤ v) : app s x.flat = (x.inst (sig s)).flat :=
  app_flat x hx fun v hm h0 => (sig_flat hs (hv v hm) h0).symm
theorem app_tm {s : List (List Int)} (hs : RightS s) {t : List Int} (ht : chk t = 0) : app s t = ((tmOf t).inst (sig s)).flat ∧ ((tmOf t).inst (sig s)).ok := by
  obtain ⟨h1, h2⟩ := tm_chk ht
  refine ⟨?_, inst_ok (sig_ok hs) h1⟩
  have := app_sig hs h1 (fun v hv => (signs_of_chk ht v (h2 ▸ hv)).1)
  rwa [h2] at this

theorem chk_var {v : Int} (h1 : -8 ≤ v) (h2 : v < 0) : chk [v] = 0 := by
  refine chk_of (by simp) (fun x hx => by simp at hx; subst hx; omega) ?_
  show need [] (0 + ar v) = some []
  rw [ar_neg h2]; rfl
theorem outS_right {p t : List Int} (hp : chk p = 0) (ht : chk t = 0) {bl : Bl} (h : fitM (tmOf p) (tmOf t) [] = some bl) : RightS (outS bl) := by
  refine ⟨outS_len bl, fun x hx => ?_⟩
  obtain ⟨k, hk, rfl⟩ := List.mem_map.1 hx
  have hk' := List.mem_range.1 hk
  cases hl : lk bl (-1 - (k : Int)) with
  | none => exact chk_var (by omega) (by omega)
  | some y => exact (bound_of hp ht h hl).2.2.2.2

theorem fit_app {p t : List Int} (hp : chk p = 0) (ht : chk t = 0) {bl : Bl} (h : fitM (tmOf p) (tmOf t) [] = some bl) : app (outS bl) p = t := by
  have hr := outS_right hp ht h
  obtain ⟨h1, h2⟩ := tm_chk hp
  obtain ⟨h3, h4⟩ := tm_chk ht
  obtain ⟨-, -, h5, -⟩ := fitM_sound _ _ _ _ h1 h3 h
  rw [(app_tm hr hp).1, h5 (sig (outS bl)) (sig_ok hr), h4]
  intro v x hl
  obtain ⟨g1, g2, -, -, g5⟩ := bound_of hp ht h hl
  rw [sig_flat hr g1 g2, outS_nth bl g1 g2, hl]; rfl

theorem fit_made {p : List Int} (hp : chk p = 0) {s : List (List Int)} (hs : RightS s) : ∃ bl, fitM (tmOf p) (tmOf (app s p)) [] = some bl ∧ ∀ v ∈ p, v < 0 → nthT (outS bl) (-1 - v).toNat = nthT s (-1 - v).toNat := by
  obtain ⟨h1, h2⟩ := tm_chk hp
  obtain ⟨e1, e2⟩ := app_tm hs hp
  have e3 : tmOf (app s p) = (tmOf p).inst (sig s) := by rw [e1, tmOf_flat e2]
  rw [e3]
  obtain ⟨bl, hb, ha⟩ := fitM_complete (sig s) (tmOf p) _ [] h1 rfl (fun v x hx => by cases hx)
  refine ⟨bl, hb, fun v hv h0 => ?_⟩
  have h8 := (signs_of_chk hp v hv).1
  obtain ⟨-, h5, -, -⟩ := fitM_sound _ _ _ _ h1 e2 hb
  obtain ⟨x, hx⟩ := h5 v (by rw [h2]; exact hv) h0
  rw [outS_nth bl h8 h0, hx, ← sig_flat hs h8 h0, ha v x hx]; rfl
theorem fit_self {p : List Int} (hp : chk p = 0) : (fitL p p).isSome = true := by
  obtain ⟨h1, h2⟩ := tm_chk hp
  obtain ⟨bl, hb, -⟩ := fitM_complete .leaf (tmOf p) (tmOf p) [] h1 (inst_self _ h1) (fun v x hx => by cases hx)
  rw [fitL, hb]; rfl

/-! ### Of the answers -/
theorem fitB_true {p t : List Int} (h : chk2 p t = 0) (hb : fitB p t = true) : ∃ bl, fitM (tmOf p) (tmOf t) [] = some bl ∧ fitT p t = outS bl := by
  rw [fitB, if_pos h] at hb
  rw [fitT, if_pos h]
  unfold fitL at hb ⊢
  cases hm : fitM (tmOf p) (tmOf t) [] with
  | none => rw [hm] at hb; cases hb
  | some bl => exact ⟨bl, rfl, rfl⟩
theorem match_apply {p t : List Int} (h : chk2 p t = 0) (hb : fitB p t = true) : applyE (fitT p t) p = 0 ∧ applyT (fitT p t) p = t := by
  obtain ⟨hp, ht⟩ := chk2_zero h
  obtain ⟨bl, hm, hT⟩ := fitB_true h hb
  have ha := fit_app hp ht hm
  have hr := chkS_zero.2 (outS_right hp ht hm)
  rw [hT]
  have := apply_ok hr hp (by rw [ha]; exact len_of_chk ht)
  rw [ha] at this
  exact this
theorem match_self {p : List Int} (hp : chk p = 0) : chk2 p p = 0 ∧ fitB p p = true := by
  have : chk2 p p = 0 := by rw [chk2, if_pos hp, hp]
  exact ⟨this, by rw [fitB, if_pos this, fit_self hp]⟩
theorem match_made {p : List Int} {s : List (List Int)} (h : applyE s p = 0) : chk2 p (applyT s p) = 0 ∧ fitB p (applyT s p) = true ∧ (fitT p (applyT s p)).length = 8 ∧ s.length = 8 ∧
    ∀ v ∈ p, v < 0 → nthT (fitT p (applyT s p)) (-1 - v).toNat = nthT s (-1 - v).toNat := by
  obtain ⟨hs, hp, hl⟩ := applyE_zero h
  have e := (apply_ok hs hp hl).2
  rw [e]
  have hs' := chkS_zero.1 hs
  have hc := chk_app hs' hp hl
  have h2 : chk2 p (app s p) = 0 := by rw [chk2, if_pos hp, hc]
  obtain ⟨bl, hm, hv⟩ := fit_made hp hs'
  have h3 : fitL p (app s p) = some (outS bl) := by rw [fitL, hm]; rfl
  have h4 : fitT p (app s p) = outS bl := by rw [fitT, if_pos h2, h3]; rfl
  refine ⟨h2, by rw [fitB, if_pos h2, h3]; rfl, by rw [h4, outS_len], hs'.1, fun v hvp h0 => by rw [h4]; exact hv v hvp h0⟩

end Go.Proofs.Ytepddehodmljeaa

namespace Go.Proofs.Ytepddehodmljeaa
open Go.RowKit Go.Maps

/-- The places at which p fits, the first k looked at. -/
def ovr (t p : List Int) : Nat → List Int
  | 0 => []
  | k + 1 => ovr t p k ++ (if (fitL p (paT t k)).isSome then [(k : Int)] else [])
theorem ovr_len (t p : List Int) : ∀ k, (ovr t p k).length ≤ k
  | 0 => by simp [ovr]
  | k + 1 => by
    have := ovr_len t p k
    rw [ovr, List.length_append]
    split <;> simp <;> omega
def overT (t p : List Int) : List Int := if chk2 t p = 0 then ovr t p t.length else []

set_option maxRecDepth 100000 in
set_option maxHeartbeats 1000000 in
theorem OverOf_calls (t p : List Int) (u v : Value) (w : World) (hu : IsInts Any w u t) (hv : IsInts Any w v p) :
    Calls Try.prog 50 #[u, v] w fun e w' => ∃ x, e = .returned (.tuple #[x, .int .i64 (chk2 t p)]) ∧ IsInts (Fr w.heap.size) w' x (overT t p) ∧ Below w.heap.size w w' := by
  have h1 := Lib.hid (twoErrors_calls t p u v w hu hv)
  by_cases h : chk2 t p = 0
  · obtain ⟨i3, hi, hz, hsz, hby⟩ := info_parts Try.inf3
    have hr : Hid (overT t p = ovr t p t.length) := by rw [Hid, overT, if_pos h]
    obtain ⟨ht, hp⟩ := chk2_zero h
    have hl := len_of_chk ht
    have hP := Lib.hid fun k (hk : k < t.length) W (hb : Below w.heap.size w W) => partOf_calls t ht u k hk W (hu.below hb)
    have hF := Lib.hid fun k (hk : k < t.length) W x (hb : Below w.heap.size w W) (hx : IsInts Any W x (paT t k)) => fitted_calls p (paT t k) hp (chk_paT ht hk) v x W (hv.below hb) hx
    have hh := Lib.hid h
    obtain ⟨ua, uc, rfl⟩ := hu.isSlice
    obtain ⟨va, vc, rfl⟩ := hv.isSlice
    clear hu hv h ht hp
    go_enter Try.func50, Try.ntmps50
    go_wp2_with fail
    refine h1.out.mono ?_
    rintro e w' ⟨rfl, rfl⟩
    rw [hh.out]
    clear h1
    go_wp2_with fail
    go_loopw [7, 8] (fun out i wr => ∃ k : Nat, k ≤ t.length ∧ i = .int .i64 k ∧ Hid (wr.ownsRow w.heap.size 3 1 out (ovr t p k).length ((ovr t p k).map (Value.int .i64)) ∧ Below w.heap.size w wr)) (fun _ i _ => t.length - (intOf i).toNat)
    case atStart => exact ⟨0, by omega, rfl, World.ownsRow_nil _ _ _ _, .refl _ _⟩
    case round =>
      obtain ⟨k, hk, rfl, hR⟩ := hrel
      by_cases hlt : k < t.length
      · have hik : (k : Int) < t.length := by omega
        go_wp2_with fail
        refine (hP.out k hlt wr hR.out.2).mono ?_
        rintro e w1 ⟨x, rfl, hx, hB1⟩
        have hf := Lib.hid (hF.out k hlt w1 x (ext_trans hR.out.2 hB1) hx.any)
        have hB2 := Lib.hid hB1
        clear hx hB1
        cases hs : (fitL p (paT t k)).isSome
        · have hN : Hid (ovr t p (k + 1) = ovr t p k) := by rw [Hid, ovr, hs]; simp
          rw [hs] at hf
          clear hs
          go_wp2_with fail
          refine hf.out.mono ?_
          rintro e w2 ⟨y, rfl, -, hB3⟩
          go_wp2_with fail
          go_roundw
          case rel =>
            have hB4 := ext_trans hB2.out hB3
            exact ⟨k + 1, by omega, by go_num, by rw [Hid, hN.out]; exact ⟨ownsRow_keep hR.out.1 fun j hj => hB4.block j (hR.out.1.lt j hj).2, ext_trans hR.out.2 hB4⟩⟩
          case measure => simp [intOf]; omega
        · have hN : Hid (ovr t p (k + 1) = ovr t p k ++ [(k : Int)]) := by rw [Hid, ovr, hs]; simp
          rw [hs] at hf
          clear hs
          go_wp2_with fail
          refine hf.out.mono ?_
          rintro e w2 ⟨y, rfl, -, hB3⟩
          have hB4 := Lib.hid (ext_trans hB2.out hB3)
          have hO := Lib.hid ((ownsRow_keep hR.out.1 fun j hj => hB4.out.block j (hR.out.1.lt j hj).2).alloc (.cells #[.int .i64 (k : Int)] 3))
          have hX := Lib.hid (ints_one w2 k 3).any
          have hB5 := Lib.hid (ext_trans hR.out.2 hB4.out)
          have hz5 := hB5.out.size
          have hol := ovr_len t p k
          clear hB3 hB2 hB4
          go_wp2_with (at_builtin; refine app_ints _ _ 23 rfl rfl w.heap.size i3 Try.underlying23 hi hz hsz hby hO.out hX.out ?c1 ?c2 ?c3; rotate_left 2; intro v' w3 hown3 hb3 hg3 _)
          case c1 => simp; omega
          case c2 => simp; omega
          go_roundw
          case rel => exact ⟨k + 1, by omega, by go_num, by rw [Hid, hN.out]; exact ⟨hown3, (hB5.out.alloc hz5 _).trans hb3⟩⟩
          case measure => simp [intOf]; omega
      · obtain rfl : k = t.length := by omega
        have hol := ovr_len t p t.length
        have hO := Lib.hid hR.out.1
        go_wp2_with fail
        go_ret2
        exact ⟨_, by rw [hh.out]; rfl, by rw [hr.out]; exact ints_of_own hR.out.1 (by omega), hR.out.2⟩
  · have hr : Hid (overT t p = []) := by rw [Hid, overT, if_neg h]
    have h' : (chk2 t p != 0) = true := by simpa using h
    clear hu hv h
    go_enter Try.func50, Try.ntmps50
    go_wp2_with fail
    refine h1.out.mono ?_
    rintro e w' ⟨rfl, rfl⟩
    clear h1
    go_wp2_with fail
    go_ret2
    exact ⟨.slice none 0 0, rfl, by rw [hr.out]; exact .nil _ _, .refl _ _⟩

end Go.Proofs.Ytepddehodmljeaa

namespace Go.Proofs.Ytepddehodmljeaa
open Go.RowKit Go.Maps Go.Shelf
attribute [local go_sem] Oper.semAt_some

theorem grown_of_below {w w' : World} (h : Below w.heap.size w w') : w.grownBy w' none := ⟨h.os, h.tape, h.output, h.size, fun k hk _ => h.block k hk⟩

set_option maxRecDepth 100000 in
set_option maxHeartbeats 2000000 in
theorem Places1_in (n : Nat) (hn : 1 ≤ n) (l Bt Bp : Nat) (M : Blk) (t p : List Int) (ht : chk t = 0) (hp : chk p = 0) (v x : Value) (J Jx : List (Nat × Value) → World → Prop)
    (hY : ∀ pre (y : Nat × Value) W, J pre W → pre.length < t.length → YieldAt Fence.wide (n - 1) Try.prog l #[.int .i64 (y.1 : Nat), y.2] W fun e W' =>
      (e = .returned (.bool true) ∧ J (pre ++ [y]) W' ∧ Keeps M W W') ∨ (e = .returned (.bool false) ∧ Jx (pre ++ [y]) W'))
    (W : World) (hJ : AbidesFrom W.heap.size J) (hBt : W.cell? ⟨Bt, 0, none⟩ = some v) (hBp : W.cell? ⟨Bp, 0, none⟩ = some x) (hlt : Bt < W.heap.size) (hlp : Bp < W.heap.size) (hMt : ¬ M Bt) (hMp : ¬ M Bp)
    (hM : ∀ l, W.heap.size ≤ l → M l) (hv : IsInts (fun b => ¬ M b) W v t) (hx : IsInts (fun b => ¬ M b) W x p) (h0 : J [] W) :
    CallsIn Fence.wide n Try.prog 171 #[.func (.yield l) #[] #[], .pointer (some ⟨Bt, 0, none⟩), .pointer (some ⟨Bp, 0, none⟩)] W fun e W' => (∃ v, e = .returned v) ∧
      ((∃ ys : List (Nat × Value), ys.map (fun y => (y.1 : Int)) = ovr t p t.length ∧ J ys W') ∨ (∃ pre : List (Nat × Value), True ∧ Jx pre W')) := by
  refine callsIn_of_wp Try.func171 rfl trivial ?_ rfl
  simp only [Try.ntmps171, List.size_toArray, List.length_cons, List.length_nil, Nat.reduceAdd, Nat.reduceSub, Array.replicate_succ, Array.replicate_zero, List.push_toArray, List.append_toArray, List.nil_append, List.cons_append]
  have hsm := Lib.hid (small_of_signs (signs_of_chk ht))
  have hln := len_of_chk ht
  have hv0 := Lib.hid hv
  have hx0 := Lib.hid hx
  have hT := Lib.hid (And.intro ht hp)
  obtain ⟨va, vc, rfl⟩ := hv.isSlice
  obtain ⟨xa, xc, rfl⟩ := hx.isSlice
  have hYh := Lib.hid hY
  have hJh := Lib.hid hJ
  have hMh := Lib.hid hM
  clear hv hx ht hp hY hJ hM
  gi_wp2_with fail
  gi_loopw [9] (fun i wr => ∃ k : Nat, k ≤ t.length ∧ i = .int .i64 k ∧ Hid (∃ ys : List (Nat × Value), ys.map (fun y => (y.1 : Int)) = ovr t p k ∧ J ys wr ∧ Keeps M W wr))
    (fun i _ => t.length - (intOf i).toNat)
  case atStart => exact ⟨0, by omega, rfl, [], rfl, h0, .refl _ _⟩
  case round =>
    obtain ⟨k, hk, rfl, ys, hys, hJ1, hK1⟩ := hrel
    have HY := Lib.hid hys
    have HJ := Lib.hid hJ1
    have HK := Lib.hid hK1
    by_cases hlt' : k < t.length
    · have hik : (k : Int) < t.length := by omega
      have c1 : wr.cell? ⟨Bt, 0, none⟩ = some (.slice va t.length vc) := (World.cell?_of_block (w := W) (hK1.block Bt hlt hMt)).trans hBt
      have c2 : wr.cell? ⟨Bp, 0, none⟩ = some (.slice xa p.length xc) := (World.cell?_of_block (w := W) (hK1.block Bp hlp hMp)).trans hBp
      clear hys hJ1 hK1
      have hAt : Hid (∀ W', Keeps M W W' → Calls Try.prog 117 #[.slice va t.length vc, .int .i64 k] W' fun e w' => ∃ y c, e = .returned (.slice y (paT t k).length c) ∧ IsInts (fun b => ¬ M b) W' (.slice y (paT t k).length c) (paT t k) ∧ W' = w') := fun W' hk' => by
        have hp := part_at hT.out.1 hlt'
        refine (At_calls (fun b => ¬ M b) t hsm.out _ k (enT t k) W' (hv0.out.mono (hk'.sok fun _ _ h => h)) hp.1 hp.2.1 hp.2.2.1).mono ?_
        rintro e w' ⟨y, rfl, hy, rfl⟩
        obtain ⟨a, c, rfl⟩ := hy.isSlice
        exact ⟨a, c, rfl, hy, rfl⟩
      have hW : Hid (∀ W' y, Keeps M W W' → IsInts (fun b => ¬ M b) W' y (paT t k) → Calls Try.prog 108 #[.slice xa p.length xc, y] W' fun e w' => ∃ z, e = .returned (.tuple #[z, .bool (fitL p (paT t k)).isSome]) ∧ Below W'.heap.size W' w') := fun W' y hk' hy => by
        refine (With_calls p (paT t k) hT.out.2 (chk_paT hT.out.1 hlt') _ y W' (hx0.out.mono ⟨hk'.size, fun b hb hl => ⟨trivial, hk'.block b hl hb⟩⟩) hy.any).mono ?_
        rintro e w' ⟨z, rfl, -, hb⟩
        exact ⟨z, rfl, hb⟩
      have hysl : ys.length < t.length := by
        have h1 := congrArg List.length HY.out
        have h2 := ovr_len t p k
        rw [List.length_map] at h1; omega
      cases hs : (fitL p (paT t k)).isSome
      · have hN : Hid (ovr t p (k + 1) = ovr t p k) := by rw [Hid, ovr, hs]; simp
        rw [hs] at hW
        clear hs
        gi_wp2_with fail
        gi_region_with (first
          | (refine ⟨trivial, (callsIn_wide.2 (hAt.out _ HK.out)).mono ?_⟩; rintro e w' ⟨y, yc, rfl, hy, rfl⟩)
          | (refine ⟨trivial, (callsIn_wide.2 (hAt.out _ (HK.out.trans (.of_below (below_drew _ _))))).mono ?_⟩; rintro e w' ⟨y, yc, rfl, hy, rfl⟩)
          | (refine ⟨trivial, (callsIn_wide.2 (hW.out _ _ HK.out hy)).mono ?_⟩; rintro e w' ⟨z, rfl, hb⟩)
          | (refine ⟨trivial, (callsIn_wide.2 (hW.out _ _ (HK.out.trans (.of_below (below_drew _ _))) hy)).mono ?_⟩; rintro e w' ⟨z, rfl, hb⟩))
        all_goals
          have hb2 : Below wr.heap.size wr w' := by first | exact hb | exact ext_trans (below_drew _ wr) hb
          have HB := Lib.hid hb2
          clear hb hb2 hy c1 c2
          gi_wp2_with fail
          refine ⟨(fun _ h => by cases h), ?_⟩
          gi_wp2_with fail
          go_roundw
          case rel => exact ⟨k + 1, by omega, by go_num, ys, by rw [HY.out, hN.out], hJh.out ys wr w' none HJ.out (grown_of_below HB.out) (fun r e => by cases e), HK.out.trans (.of_below HB.out)⟩
          case measure => simp [intOf]; omega
      · have hN : Hid (ovr t p (k + 1) = ovr t p k ++ [(k : Int)]) := by rw [Hid, ovr, hs]; simp
        rw [hs] at hW
        clear hs
        gi_wp2_with fail
        gi_region_with (first
          | (refine ⟨trivial, (callsIn_wide.2 (hAt.out _ HK.out)).mono ?_⟩; rintro e w' ⟨y, yc, rfl, hy, rfl⟩)
          | (refine ⟨trivial, (callsIn_wide.2 (hAt.out _ (HK.out.trans (.of_below (below_drew _ _))))).mono ?_⟩; rintro e w' ⟨y, yc, rfl, hy, rfl⟩)
          | (refine ⟨trivial, (callsIn_wide.2 (hW.out _ _ HK.out hy)).mono ?_⟩; rintro e w' ⟨z, rfl, hb⟩)
          | (refine ⟨trivial, (callsIn_wide.2 (hW.out _ _ (HK.out.trans (.of_below (below_drew _ _))) hy)).mono ?_⟩; rintro e w' ⟨z, rfl, hb⟩))
        all_goals
          have hb2 : Below wr.heap.size wr w' := by first | exact hb | exact ext_trans (below_drew _ wr) hb
          have HB := Lib.hid hb2
          have HJ2 := Lib.hid (hJh.out ys wr w' none HJ.out (grown_of_below HB.out) (fun r e => by cases e))
          clear hb hb2 hy c1 c2
          obtain ⟨fn, tmps, assign, body, hy, hR⟩ := hYh.out ys (k, z) w' HJ2.out hysl
          gi_wp2_with fail
          refine hR.mono ?_
          rintro e w5 (⟨rfl, hJ5, hk5⟩ | ⟨rfl, hJx5⟩)
          · have HJ5 := Lib.hid hJ5
            have HK5 := Lib.hid ((HK.out.trans (.of_below HB.out)).trans hk5)
            clear hJ5 hk5 hR hy
            gi_wp2_with fail
            go_roundw
            case rel => exact ⟨k + 1, by omega, by go_num, ys ++ [(k, z)], by rw [List.map_append, HY.out, hN.out]; rfl, HJ5.out, HK5.out⟩
            case measure => simp [intOf]; omega
          · gi_wp2_with fail
            refine bodyPost_ret (results_none rfl _ _ _) rfl ?_
            exact ⟨⟨_, rfl⟩, .inr ⟨_, trivial, hJx5⟩⟩
    · obtain rfl : k = t.length := by omega
      clear hys hJ1 hK1
      gi_wp2_with fail
      go_end0
      exact ⟨⟨_, rfl⟩, .inl ⟨ys, HY.out, HJ.out⟩⟩

end Go.Proofs.Ytepddehodmljeaa

namespace Go.Proofs.Ytepddehodmljeaa
open Go.RowKit Go.Maps Go.Shelf
attribute [local go_sem] Oper.semAt_some

theorem Places_stops (n : Nat) (hn : 1 ≤ n) (Bt Bp : Nat) (M : Blk) (t p : List Int) (ht : chk t = 0) (hp : chk p = 0) (v x : Value) (w : World) (hBt : w.cell? ⟨Bt, 0, none⟩ = some v) (hBp : w.cell? ⟨Bp, 0, none⟩ = some x)
    (hlt : Bt < w.heap.size) (hlp : Bp < w.heap.size) (hMt : ¬ M Bt) (hMp : ¬ M Bp) (hM : ∀ l, w.heap.size ≤ l → M l) (hv : IsInts (fun b => ¬ M b) w v t) (hx : IsInts (fun b => ¬ M b) w x p) :
    SeqStopsK Fence.wide n Try.prog 171 #[.pointer (some ⟨Bt, 0, none⟩), .pointer (some ⟨Bp, 0, none⟩)] (fun y : Nat × Value => #[Value.int .i64 (y.1 : Nat), y.2]) (Keeps M) (fun ys => ys.map (fun y => (y.1 : Int)) = ovr t p t.length) (fun _ => True) t.length w :=
  fun l J Jx W hW hJ _ hY h0 => Places1_in n hn l Bt Bp M t p ht hp v x J Jx hY W hJ ((hW.cell (p := ⟨Bt, 0, none⟩) hlt).trans hBt) ((hW.cell (p := ⟨Bp, 0, none⟩) hlp).trans hBp) (Nat.lt_of_lt_of_le hlt hW.size) (Nat.lt_of_lt_of_le hlp hW.size) hMt hMp
    (fun l hl => hM l (Nat.le_trans hW.size hl)) (hv.mono ⟨hW.size, fun b hb hl => ⟨hb, hW.block b hl⟩⟩) (hx.mono ⟨hW.size, fun b hb hl => ⟨hb, hW.block b hl⟩⟩) h0

theorem Places_calls (v x : Value) (w : World) (hv : v.oneCell' = true) (hx : x.oneCell' = true) :
    Calls Try.prog 111 #[v, x] w fun e w' => e = .returned (.func (.func 171) #[] #[.pointer (some ⟨w.heap.size, 0, none⟩), .pointer (some ⟨w.heap.size + 1, 0, none⟩)]) ∧ w' = (w.alloc (.cells #[v] 24)).alloc (.cells #[x] 24) := by
  go_enter Try.func111, Try.ntmps111
  go_wp2_with fail
  go_ret
  exact ⟨rfl, rfl⟩

/-- The places so far. -/
def plN (ys : List (Nat × Value)) : List Int := ys.map fun y => (y.1 : Int)
theorem plN_snoc (ys : List (Nat × Value)) (y : Nat × Value) : plN (ys ++ [y]) = plN ys ++ [(y.1 : Int)] := by simp [plN]

set_option maxRecDepth 100000 in
set_option maxHeartbeats 2000000 in
theorem Over_ok (t p : List Int) (u v : Value) (w : World) (hu : IsInts Any w u t) (hv : IsInts Any w v p) (h : chk2 t p = 0) :
    Calls Try.prog 49 #[u, v] w fun e w' => ∃ x, e = .returned (.tuple #[x, .int .i64 0]) ∧ IsInts (Fr w.heap.size) w' x (ovr t p t.length) ∧ Below w.heap.size w w' := by
  obtain ⟨i3, hi, hz, hsz, hby⟩ := info_parts Try.inf3
  have h1 := Lib.hid (Both_calls t p u v w hu hv)
  rw [h] at h1
  obtain ⟨ht, hp⟩ := chk2_zero h
  have hl := len_of_chk ht
  have hT := Lib.hid (And.intro ht hp)
  have hu0 := Lib.hid hu
  have hv0 := Lib.hid hv
  obtain ⟨ua, uc, rfl⟩ := hu.isSlice
  obtain ⟨va, vc, rfl⟩ := hv.isSlice
  clear hu hv h ht hp
  refine (callsIn_wide (n := 5)).1 ?_
  refine callsIn_of_wp_marks Try.func49 rfl trivial ?_ rfl
  simp only [Try.ntmps49, List.size_toArray, List.length_cons, List.length_nil, Nat.reduceAdd, Nat.reduceSub, Array.replicate_succ, Array.replicate_zero, List.push_toArray, List.append_toArray, List.nil_append, List.cons_append]
  gi_wp2_with fail
  refine ⟨trivial, (callsIn_wide.2 h1.out).mono ?_⟩
  rintro e w' ⟨rfl, rfl⟩
  gi_wp2_with fail
  refine ⟨trivial, (callsIn_wide.2 (Places_calls (.slice ua t.length uc) (.slice va p.length vc) _ rfl rfl)).mono ?_⟩
  rintro e w' ⟨rfl, rfl⟩
  gi_wp2_with fail
  have b0 := Boxed.new w 23 (.slice none 0 0)
  obtain ⟨W0, hW0⟩ : ∃ W0, W0 = ((w.alloc (.cells #[.slice none 0 0] 23)).alloc (.cells #[.slice ua t.length uc] 24)).alloc (.cells #[.slice va p.length vc] 24) := ⟨_, rfl⟩
  rw [← hW0]
  have hz0 : W0.heap.size = w.heap.size + 3 := by rw [hW0]; simp
  have hB0 : Below w.heap.size w W0 := by
    rw [hW0]; exact ext_alloc (ext_alloc (below_alloc _ _) _) _
  have b1 : Boxed W0 w.heap.size 23 (.slice none 0 0) := by rw [hW0]; exact (b0.alloc _).alloc _
  have c2 : W0.cell? ⟨w.heap.size + 1, 0, none⟩ = some (.slice ua t.length uc) := by rw [hW0]; simp [go_sem]
  have c3 : W0.cell? ⟨w.heap.size + 1 + 1, 0, none⟩ = some (.slice va p.length vc) := by rw [hW0]; simp [go_sem]
  clear hW0 b0
  refine wpIn_rangeFunc_ownG rfl (by omega) (gf := 171) (lb := #[.pointer (some ⟨w.heap.size + 1, 0, none⟩), .pointer (some ⟨w.heap.size + 1 + 1, 0, none⟩)]) rfl trivial (enters_of Try.func171 (by kernel_rfl) rfl)
    (Places_stops _ (by omega) (w.heap.size + 1) (w.heap.size + 1 + 1) (fun i => i = w.heap.size ∨ w.heap.size + 3 ≤ i) t p hT.out.1 hT.out.2 _ _ W0 c2 c3 (by omega) (by omega) (by omega) (by omega) (by intro l hl; right; omega)
      (hu0.out.mono ⟨hB0.size, fun b _ hb => ⟨by omega, hB0.block b hb⟩⟩) (hv0.out.mono ⟨hB0.size, fun b _ hb => ⟨by omega, hB0.block b hb⟩⟩)) Keeps.trans (keepsK_b (by intro l hl; right; omega)) (Below.refl _ _) (fun _ => rfl)
    (fun pre W => (∃ v, Boxed W w.heap.size 23 v ∧ W.ownsRow (w.heap.size + 3) 3 1 v (plN pre).length ((plN pre).map (Value.int .i64)) ∧ True) ∧ (Below w.heap.size w W ∧ w.heap.size + 3 ≤ W.heap.size))
    (fun _ _ _ => False)
    (OwnFrom.and (Own.from (holdsRow_own (w.heap.size + 3) w.heap.size 23 3 1 (fun pre => (plN pre).length) (fun pre => (plN pre).map (Value.int .i64)) (fun _ _ => True)) _) (OwnFrom.and (ownFrom_below (Nat.le_refl _) (by omega)) (fun _ _ _ _ hs hg _ => Nat.le_trans hs hg.size)))
    (fun _ _ _ _ _ hs _ _ => hs)
    ⟨⟨_, b1, World.ownsRow_nil _ _ _ _, trivial⟩, hB0, by omega⟩
    (fun y => { tmps := #[.slice ua t.length uc, .slice va p.length vc, undef, undef, .slice none 0 0,
          .int .i64 0, .int .i64 0, .pointer (some ⟨w.heap.size, 0, none⟩),
          .int .i64 y.1, .slice ua t.length uc, .slice va p.length vc, .int .i64 0,
          .int .i64 0, .bool false, undef, .slice ua t.length uc, .slice va p.length vc,
          .func (.func 171) #[] #[.pointer (some ⟨w.heap.size + 1, 0, none⟩), .pointer (some ⟨w.heap.size + 1 + 1, 0, none⟩)],
          .int .i64 y.1, y.2, undef, undef, undef, undef, undef], defers := [] }) ?assign ?body ?done ?stop
  case assign =>
    intro l x W K hK
    gi_wp2
    exact hK
  case body =>
    rintro l pre y W ⟨⟨v, hv, hrow, -⟩, hB, hsz3⟩ hlt
    have hc := hv.cell
    have hbs := hB.size
    have hvl := hv.lt
    have hpl : (plN pre).length = pre.length := by simp [plN]
    have hrb : ∀ k, v.ownBlock = some k → w.heap.size + 3 ≤ k := fun k hk => (hrow.lt k hk).1
    have HP := Lib.hid hpl
    have hpl2 : (plN pre).length ≤ 30 := by omega
    obtain ⟨oa, oc, rfl⟩ : ∃ a c, v = .slice a (plN pre).length c := by
      rcases hrow.2 with ⟨h1, h0⟩ | ⟨g, cap, cur, h1, _⟩
      · exact ⟨none, 0, by rw [h0]; exact h1⟩
      · exact ⟨_, cap, h1⟩
    clear hpl
    gi_wp2_with (gi_at_builtin; refine wpListIn_append_own _ rfl _ _ 23 rfl (w.heap.size + 3) 3 i3 (.int .i64 0) 1 8 Try.underlying23 hi hz hsz hby rfl (by decide) _ _ _ rfl (hrow.alloc _) ⟨W.heap.size, 0, none⟩ 1 1 [.int .i64 y.1] rfl rfl (cell_one_new _ _ _) (by simp [Value.oneCell']) (by unfold maxLen; omega) (by omega) (by simp; omega) ?_; intro v' w1 hown' hgrow _; obtain ⟨g', cap', rfl⟩ := ownsRow_succ hown'; have hv1 := (hv.alloc (.cells #[.int .i64 y.1] 3)).kept hgrow (fun e => by have := hrb _ e.symm; omega); have hc1 := hv1.cell; have hf1 := hv1.frozen)
    have hgr : (W.alloc (.cells #[.int .i64 y.1] 3)).grownBy w1 (Value.slice oa (plN pre).length oc).ownBlock := hgrow
    have hK1 : Keeps (fun i => i = w.heap.size ∨ w.heap.size + 3 ≤ i) W (w1.setCell ⟨w.heap.size, 0, none⟩ (.slice (some ⟨g', 0, none⟩) ((plN pre).length + 1) cap')) := by
      refine ⟨hgr.os, hgr.tape, hgr.output, ?_, fun k hk hm => ?_⟩
      · have := hgr.size; simp at this ⊢; omega
      · rw [Below.heap_setCell _ _ _ _ (fun e => hm (.inl e)), hgr.block k (by simp; omega) (fun e => hm (.inr (hrb k e.symm))), Below.heap_alloc _ _ _ hk]
    refine ⟨?_, hK1, ⟨⟨_, hv1.set _, ?_, trivial⟩, ?_, ?_⟩⟩
    · refine (((KeepsOthers.alloc W _).trans (KeepsOthers.of_grownBy hgr fun j o ej hj => ?_)).trans (KeepsOthers.setCell _ _ _)).from _
      rcases (hrow.alloc (.cells #[.int .i64 y.1] 3)).2 with ⟨h1, _⟩ | ⟨g, cap, cur, h1, _, hgb, _⟩
      · rw [h1] at ej; simp [Value.ownBlock] at ej
      · rw [h1] at ej
        obtain rfl : g = j := by simpa [Value.ownBlock] using ej
        rw [hgb] at hj; cases hj; rfl
    · have h2 := hown'.kept (grownBy_setCell' w1 w.heap.size (.slice (some ⟨g', 0, none⟩) ((plN pre).length + 1) cap')) (.inr (by have := (hown'.lt g' rfl).1; simp [Value.ownBlock]; omega))
      rw [plN_snoc]
      simpa using h2
    · exact hB.trans ⟨hK1.os, hK1.tape, hK1.output, hK1.size, fun k hk => hK1.block k (by omega) (by omega)⟩
    · have := hK1.size; omega
  case done =>
    rintro D ys W hD hys ⟨⟨v, hv, hrow, -⟩, hB, hsz3⟩ hK
    have hc := hv.cell
    have hys' : plN ys = ovr t p t.length := hys
    rw [hys'] at hrow
    have hol := ovr_len t p t.length
    have hR := Lib.hid hrow
    clear hrow hys hys'
    gi_wp2_with fail
    refine ⟨by simp, .inl ⟨_, _, rfl, run_takeDeferred hK, ?_⟩⟩
    refine ⟨_, results_tmp2 rfl _ _ _, v, rfl, ?_, hB.trans (belowK_b (w := W0) (by omega) W D _ _ hD hK rfl rfl)⟩
    have hr2 := ownsRow_putObj hR.out (.deferred none) hK rfl
    refine (ints_of_own hr2 (by omega)).mono (.weak fun b hb => ?_)
    have : w.heap.size + 3 ≤ b := hb
    show w.heap.size ≤ b
    omega
  case stop =>
    rintro D c pre W _ _ h _
    exact h.elim

end Go.Proofs.Ytepddehodmljeaa

namespace Go.Proofs.Ytepddehodmljeaa
open Go.RowKit Go.Maps

theorem Over_calls (t p : List Int) (u v : Value) (w : World) (hu : IsInts Any w u t) (hv : IsInts Any w v p) :
    Calls Try.prog 49 #[u, v] w fun e w' => ∃ x, e = .returned (.tuple #[x, .int .i64 (chk2 t p)]) ∧ IsInts (Fr w.heap.size) w' x (overT t p) ∧ Below w.heap.size w w' := by
  by_cases h : chk2 t p = 0
  · have hr : overT t p = ovr t p t.length := by rw [overT, if_pos h]
    rw [hr, h]
    exact Over_ok t p u v w hu hv h
  · have hr : Hid (overT t p = []) := by rw [Hid, overT, if_neg h]
    have h' : (chk2 t p != 0) = true := by simpa using h
    have h1 := Lib.hid (Both_calls t p u v w hu hv)
    clear hu hv h
    go_enter Try.func49, Try.ntmps49
    go_wp2_with fail
    refine h1.out.mono ?_
    rintro e w' ⟨rfl, rfl⟩
    clear h1
    go_wp2_with fail
    go_ret2
    exact ⟨.slice none 0 0, rfl, by rw [hr.out]; exact .nil _ _, .refl _ _⟩

theorem IsInts.cells {S : Blk} {w : World} {v : Value} {t : List Int} (h : IsInts S w v t) (hn : t ≠ []) : ∃ b o c, v = .slice (some ⟨b, o, none⟩) t.length c := by
  obtain ⟨-, ⟨h, -⟩ | ⟨-, b, o, c, h, -⟩⟩ := h
  · exact absurd h hn
  · exact ⟨b, o, c, h⟩
theorem IsInts.cell {S : Blk} {w : World} {b o n c : Nat} {t : List Int} (h : IsInts S w (.slice (some ⟨b, o, none⟩) n c) t) {j : Nat} (hj : j < t.length) : w.cell? ⟨b, o + j, none⟩ = some (.int .i64 (nth t j)) := by
  obtain ⟨-, ⟨h, -⟩ | ⟨-, b', o', c', e, -, -, -, hc⟩⟩ := h
  · rw [h] at hj; simp at hj
  · cases e; exact hc j hj

theorem lit_next (w : World) (o : Obj) (xs : List Int) (hl : xs.length ≤ 1000) : IsInts Any ((w.alloc o).alloc (.cells (xs.map (Value.int .i64)).toArray 3)) (.slice (some ⟨w.heap.size + 1, 0, none⟩) xs.length xs.length) xs := by
  have := lit_any (w.alloc o) xs hl
  rwa [World.size_alloc] at this

def mbS : List (List Int) := [[3, 0], [-1], [-3], [-4], [-5], [-6], [-7], [-8]]
theorem mb : fitB [4, -1, 2, -2] [4, 3, 0, 2, -1] = true ∧ chk2 [4, -1, 2, -2] [4, 3, 0, 2, -1] = 0 ∧ fitT [4, -1, 2, -2] [4, 3, 0, 2, -1] = mbS ∧ fitB [4, -1, -1] [4, 0, 1] = false ∧ chk2 [4, -1, -1] [4, 0, 1] = 0 ∧
    chk2 [4, 2, 2, 0, 2, 1] [2, -3] = 0 ∧ overT [4, 2, 2, 0, 2, 1] [2, -3] = [1, 2, 4] ∧ fitB [] fxgaT = false ∧ chk2 [] fxgaT = 1 := by decide +kernel

set_option maxRecDepth 100000 in
set_option maxHeartbeats 1000000 in
theorem matchBegun_calls (w : World) : Calls Try.prog 48 #[] w fun e w' => e = .returned (.bool true) ∧ Below w.heap.size w w' := by
  go_enter Try.func48, Try.ntmps48
  go_wp2_with fail
  refine (Fit_calls [4, -1, 2, -2] [4, 3, 0, 2, -1] _ _ _ ((lit_any w [4, -1, 2, -2] (by decide)).below (below_alloc _ _)) (lit_next w _ [4, 3, 0, 2, -1] (by decide))).mono ?_
  rintro e w1 ⟨s, rfl, hs, hB1⟩
  replace hB1 := ext_trans (ext_alloc (below_alloc w _) _) hB1
  rw [mb.1, mb.2.1]
  rw [mb.2.2.1] at hs
  replace hs := hs.any TermR.ok
  obtain ⟨sb, so, sc, -, rfl, -, -⟩ := row_cell hs (j := 0) (by decide)
  rw [show mbS.length = 8 from rfl] at hs ⊢
  go_wp2_with fail
  refine (Fit_calls [4, -1, -1] [4, 0, 1] _ _ _ ((lit_any w1 [4, -1, -1] (by decide)).below (below_alloc _ _)) (lit_next w1 _ [4, 0, 1] (by decide))).mono ?_
  rintro e w2 ⟨s2, rfl, -, hB2⟩
  replace hB2 := ext_trans (ext_alloc (below_alloc w1 _) _) hB2
  replace hs := hs.below TermR.ok hB2
  replace hB1 := ext_trans hB1 hB2
  clear hB2
  rw [mb.2.2.2.1, mb.2.2.2.2.1]
  go_wp2_with fail
  refine (Over_calls [4, 2, 2, 0, 2, 1] [2, -3] _ _ _ ((lit_any w2 [4, 2, 2, 0, 2, 1] (by decide)).below (below_alloc _ _)) (lit_next w2 _ [2, -3] (by decide))).mono ?_
  rintro e w3 ⟨l, rfl, hl, hB3⟩
  replace hB3 := ext_trans (ext_alloc (below_alloc w2 _) _) hB3
  replace hs := hs.below TermR.ok hB3
  replace hB1 := ext_trans hB1 hB3
  clear hB3
  rw [mb.2.2.2.2.2.1]
  rw [mb.2.2.2.2.2.2.1] at hl
  replace hl := hl.any
  obtain ⟨lb, lo, lc, rfl⟩ := hl.cells (by decide)
  go_wp2_with fail
  refine (fxga_calls w3).mono ?_
  rintro e w4 ⟨f, rfl, hf, hB4⟩
  replace hs := hs.below TermR.ok hB4
  replace hl := hl.below hB4
  replace hB1 := ext_trans hB1 hB4
  clear hB4
  go_wp2_with fail
  refine (Fit_calls [] fxgaT _ _ w4 (.nil _ _) hf.any).mono ?_
  rintro e w5 ⟨s3, rfl, -, hB5⟩
  clear hf
  replace hs := hs.below TermR.ok hB5
  replace hl := hl.below hB5
  replace hB1 := ext_trans hB1 hB5
  clear hB5
  rw [mb.2.2.2.2.2.2.2.1, mb.2.2.2.2.2.2.2.2]
  obtain ⟨b0, o0, c0, u0, e0, hc0, hu0⟩ := row_cell hs (j := 0) (by decide)
  cases e0
  rw [Nat.add_zero] at hc0
  go_wp2_with fail
  refine (SameTerms_eq [3, 0] _ _ _ (hu0.below (below_alloc w5 _)) (lit_any w5 [3, 0] (by decide))).mono ?_
  rintro e w6 ⟨rfl, hB6⟩
  replace hB6 := ext_trans (below_alloc w5 _) hB6
  clear hu0 hc0
  replace hs := hs.below TermR.ok hB6
  replace hl := hl.below hB6
  replace hB1 := ext_trans hB1 hB6
  clear hB6
  obtain ⟨b1, o1, c1, u1, e1, hc1, hu1⟩ := row_cell hs (j := 1) (by decide)
  cases e1
  go_wp2_with fail
  refine (SameTerms_eq [-1] _ _ _ (hu1.below (below_alloc w6 _)) (lit_any w6 [-1] (by decide))).mono ?_
  rintro e w7 ⟨rfl, hB7⟩
  replace hB7 := ext_trans (below_alloc w6 _) hB7
  clear hu1 hc1
  replace hs := hs.below TermR.ok hB7
  replace hl := hl.below hB7
  replace hB1 := ext_trans hB1 hB7
  clear hB7
  obtain ⟨b2, o2, c2, u2, e2, hc2, hu2⟩ := row_cell hs (j := 2) (by decide)
  cases e2
  go_wp2_with fail
  refine (SameTerms_eq [-3] _ _ _ (hu2.below (below_alloc w7 _)) (lit_any w7 [-3] (by decide))).mono ?_
  rintro e w8 ⟨rfl, hB8⟩
  replace hB8 := ext_trans (below_alloc w7 _) hB8
  clear hu2 hc2
  replace hs := hs.below TermR.ok hB8
  replace hl := hl.below hB8
  replace hB1 := ext_trans hB1 hB8
  clear hB8
  have hl0 := hl.cell (j := 0) (by decide)
  have hl1 := hl.cell (j := 1) (by decide)
  have hl2 := hl.cell (j := 2) (by decide)
  rw [Nat.add_zero] at hl0
  simp only [nth, List.getD_cons_zero, List.getD_cons_succ] at hl0 hl1 hl2
  go_wp2_with fail
  go_ret
  exact ⟨rfl, hB1⟩

set_option maxRecDepth 100000 in
set_option maxHeartbeats 1000000 in
theorem MatchTells_calls (p t : List Int) (u v : Value) (w : World) (hu : IsInts Any w u p) (hv : IsInts Any w v t) : Calls Try.prog 6 #[u, v] w fun e w' => e = .returned (.bool true) ∧ Below w.heap.size w w' := by
  obtain ⟨ua, uc, rfl⟩ := hu.isSlice
  obtain ⟨va, vc, rfl⟩ := hv.isSlice
  go_enter Try.func6, Try.ntmps6
  go_wp2_with fail
  refine (Fit_calls p t _ _ w hu hv).mono ?_
  rintro e w1 ⟨x, rfl, hx, hB1⟩
  replace hu := hu.below hB1
  replace hv := hv.below hB1
  replace hx := hx.any TermR.ok
  go_wp2_with fail
  refine (FitOf_calls p t _ _ w1 hu hv).mono ?_
  rintro e w2 ⟨y, rfl, hy, hB2⟩
  clear hu hv
  replace hx := hx.below TermR.ok hB2
  replace hB1 := ext_trans hB1 hB2
  clear hB2
  replace hy := hy.any TermR.ok
  go_wp2_with fail
  refine (matchBegun_calls w2).mono ?_
  rintro e w3 ⟨rfl, hB3⟩
  replace hx := hx.below TermR.ok hB3
  replace hy := hy.below TermR.ok hB3
  replace hB1 := ext_trans hB1 hB3
  clear hB3
  go_wp2_with fail
  refine (SameSubs_eq (fitT p t) _ _ w3 hx hy).mono ?_
  rintro e w4 ⟨rfl, hB4⟩
  clear hx hy
  replace hB1 := ext_trans hB1 hB4
  clear hB4
  go_wp2_with fail
  go_ret
  exact ⟨rfl, hB1⟩

end Go.Proofs.Ytepddehodmljeaa
