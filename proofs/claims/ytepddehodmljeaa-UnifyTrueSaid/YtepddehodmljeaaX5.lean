/- Walks: whole of unify. -/
import Derived.Test.YtepddehodmljeaaX4
namespace Go.Proofs.Ytepddehodmljeaa
open Go.RowKit Go.Maps

/-- What is thrown. -/
def thrown : List PanicEntry := [{ v := .iface 212 (.agg #[]), recovered := false }]
/-- What whole does: the term, if it is not too large. -/
def WhE (θ : Int → Tm) (t : Tm) (w : World) (e : Ending) (w' : World) : Prop :=
  Below w.heap.size w w' ∧ ((t.inst θ).flat.length ≤ 30 ∧ (∃ v, e = .returned v ∧ IsInts (Fr w.heap.size) w' v (t.inst θ).flat) ∨ 30 < (t.inst θ).flat.length ∧ e = .panicked thrown)

theorem app_app2 (S : List (List Int)) (a b : List Int) : app S (a ++ b) = app S a ++ app S b := List.flatMap_append
theorem app_one' (S : List (List Int)) (n : Int) : app S [n] = sb S n := by simp [app]
theorem app_take {S : List (List Int)} {t : List Int} {k : Nat} (hk : k < t.length) : app S (t.take k) ++ sb S (nth t k) = app S (t.take (k + 1)) := by
  rw [List.take_succ_eq_append_getElem hk, nth_eq hk, app_app2, app_one']
theorem app_take_le (S : List (List Int)) (t : List Int) (k : Nat) : (app S (t.take k)).length ≤ (app S t).length := by
  have := app_app2 S (t.take k) (t.drop k)
  rw [List.take_append_drop] at this
  rw [this, List.length_append]; omega

set_option maxRecDepth 100000 in
set_option maxHeartbeats 4000000 in
theorem whole_calls {B : Nat} {β : Bn} {θ : Int → Tm} (hS : St β θ) {r : Int → Nat} (hr : Rnk r β) : ∀ (n : Nat) (t : Tm) (u : Value) (w : World), t.ok → (∀ s ∈ t.flat, -8 ≤ s ∧ s < 6) → t.size ≤ 30 → (∀ s ∈ t.flat, s < 0 → r s < n) →
    BnIs B w β → IsInts (fun b => b ≠ B) w u t.flat → Calls Try.prog 189 #[.pointer (some ⟨B, 0, none⟩), u] w (WhE θ t w)
  | n, t, u, w, ht, hs, hl, hn, hB, hu => by
    obtain ⟨i3, hi, hz, hsz, hby⟩ := info_parts Try.inf3
    obtain ⟨ub, uo, uc, rfl⟩ := hu.cells (flat_ne t)
    have HT := Lib.hid (And.intro ht (And.intro hs hn))
    have HB := Lib.hid hB
    have HU := Lib.hid hu
    have HS := Lib.hid hS
    have HR := Lib.hid hr
    have hLN : (t.flat.length : Int) ≤ 30 := by rw [size_flat]; omega
    have hLN2 : t.flat.length ≤ 30 := by omega
    have hrec : Hid (∀ m, m < n → ∀ (y : Tm) (u : Value) (w : World), y.ok → (∀ s ∈ y.flat, -8 ≤ s ∧ s < 6) → y.size ≤ 30 → (∀ s ∈ y.flat, s < 0 → r s < m) → BnIs B w β → IsInts (fun b => b ≠ B) w u y.flat →
        Calls Try.prog 189 #[.pointer (some ⟨B, 0, none⟩), u] w (WhE θ y w)) := fun m hm y u w => whole_calls hS hr m y u w
    have happ : Hid (app (meetS θ) t.flat = (t.inst θ).flat) := meetS_app ht fun s h => (hs s h).1
    obtain ⟨S, hSm⟩ : ∃ S, S = meetS θ := ⟨_, rfl⟩
    have hsb : Hid (∀ s, -8 ≤ s → s < 0 → sb S s = (θ s).flat) := fun s h8 h0 => by rw [hSm, sb, if_pos h0, meetS_nth h8 h0]
    rw [← hSm] at happ
    clear hSm
    have hfin : Hid (∀ e w', Below w.heap.size w w' → ((app S t.flat).length ≤ 30 ∧ (∃ v, e = .returned v ∧ IsInts (Fr w.heap.size) w' v (app S t.flat)) ∨ 30 < (app S t.flat).length ∧ e = .panicked thrown) → WhE θ t w e w') := fun e w' hb h => by
      rw [happ.out] at h; exact ⟨hb, h⟩
    clear ht hs hl hn hB hu hS hr
    go_enter Try.func189, Try.ntmps189
    go_wp2_with fail
    go_loopw [5, 11] (fun s5 s11 wr => ∃ k : Nat, k ≤ t.flat.length ∧ s11 = .int .i64 k ∧ Hid (wr.ownsRow w.heap.size 3 1 s5 (app S (t.flat.take k)).length ((app S (t.flat.take k)).map (Value.int .i64)) ∧ (app S (t.flat.take k)).length ≤ 30 ∧ Below w.heap.size w wr)) (fun _ s11 _ => t.flat.length - (intOf s11).toNat)
    case atStart => exact ⟨0, Nat.zero_le _, rfl, World.ownsRow_nil _ _ _ _, by simp [app], .refl _ _⟩
    case round =>
      rename World => wr
      obtain ⟨k, hk, rfl, hR⟩ := hrel
      obtain ⟨so, sc, hsv⟩ := (ints_of_own hR.out.1 (by have := hR.out.2.1; omega)).isSlice
      subst hsv
      by_cases hlk : k < t.flat.length
      · have hkk : (k : Int) < t.flat.length := by omega
        have hk30 : (k : Int) ≤ 30 := by omega
        have hc := (HU.out.mono (.of_below hR.out.2.2)).cell hlk
        have hmk := nth_mem hlk
        have hs8 := HT.out.2.1 _ hmk
        have hnext := Lib.hid (app_take (S := S) hlk)
        have hBw : Hid (BnIs B (wr.alloc (.cells #[.int .i64 (nth t.flat k)] 3)) β) := (HB.out.keep hR.out.2.2).keep (below_alloc _ _)
        have hli : Hid (IsInts (fun b => b ≠ B) (wr.alloc (.cells #[.int .i64 (nth t.flat k)] 3)) (.slice (some ⟨wr.heap.size, 0, none⟩) 1 1) [nth t.flat k]) := (ints_lit wr wr.heap.size [nth t.flat k] 3 (Nat.le_refl _) (by simp)).mono (.weak fun b hb e => by have h1 : wr.heap.size ≤ b := hb; have := (HB.out.keep hR.out.2.2).lt; omega)
        have hO := Lib.hid (hR.out.1.alloc (.cells #[.int .i64 (nth t.flat k)] 3))
        have hB1 := Lib.hid (ext_trans hR.out.2.2 (below_alloc wr (.cells #[.int .i64 (nth t.flat k)] 3)))
        have hy0 : ∃ y : Tm, Wk β (.leaf (nth t.flat k)) y ∧
            ((nth t.flat k < 0 ∧ 0 ≤ y.sg ∧ (y.inst θ).flat = sb S (nth t.flat k) ∧ (∀ u ∈ y.flat, u < 0 → r u < r (nth t.flat k)) ∧ y.ok ∧ (∀ z ∈ y.flat, -8 ≤ z ∧ z < 6) ∧ y.size ≤ 30) ∨ ((0 ≤ nth t.flat k ∨ (nth t.flat k < 0 ∧ y.sg < 0)) ∧ sb S (nth t.flat k) = [y.sg])) := by
          by_cases h0 : nth t.flat k < 0
          · obtain ⟨y, g1, g2, g3, g4, g5, g6, g7⟩ := wk_var HS.out HR.out hs8.1 h0
            refine ⟨y, g1, ?_⟩
            have e := hsb.out _ hs8.1 h0
            by_cases hy : y.sg < 0
            · exact .inr ⟨.inr ⟨h0, hy⟩, by rw [e, (g6 hy).2]; rfl⟩
            · exact .inl ⟨h0, by omega, by rw [e, g5], g7 (by omega), g2, g3, g4⟩
          · refine ⟨.leaf (nth t.flat k), .stay fun h => absurd h h0, .inr ⟨.inl (by omega), ?_⟩⟩
            rw [sb, if_neg h0]; rfl
        obtain ⟨y, hy, hyc⟩ := hy0
        have HYC := Lib.hid hyc
        have hwk := Lib.hid (walk_calls HS.out hy hs8.1 hBw.out hli.out)
        have hmk' := Lib.hid hmk
        clear hyc hy hmk
        go_wp2_with fail
        refine hwk.out.mono ?_
        rintro e w2 ⟨u2, n2, rfl, hu2, rfl⟩
        have hB3 := Lib.hid (ext_trans hB1.out (below_drewN _ _ n2))
        have hO3 := Lib.hid (ownsRow_keep hO.out fun j hj => (below_drewN _ (wr.alloc (.cells #[.int .i64 (nth t.flat k)] 3)) n2).block j (World.ownsRow.lt hO.out j hj).2)
        have hBn := Lib.hid (HB.out.keep hB3.out)
        generalize (wr.alloc (.cells #[.int .i64 (nth t.flat k)] 3)).drewN n2 = w2 at *
        obtain ⟨yb, yo, yc, rfl⟩ := hu2.cells (flat_ne y)
        have hc2 := hu2.cell (j := 0) (List.length_pos_iff.2 (flat_ne y))
        rw [flat_nth0, Nat.add_zero] at hc2
        have hmp : 0 < y.flat.length := List.length_pos_iff.2 (flat_ne y)
        have HU2 := Lib.hid hu2
        have hlen := Lib.hid hR.out.2.1
        have htot := Lib.hid (app_take_le S t.flat (k + 1))
        clear hu2 hwk hBw hli hc hO hB1 hR
        rcases HYC.out with ⟨h0, hyp, hyi, hyr, hyo, hys, hyl⟩ | ⟨hor, hsy⟩
        · have hcall := Lib.hid (hrec.out (r (nth t.flat k)) (HT.out.2.2 _ hmk'.out h0) y _ w2 hyo hys hyl hyr hBn.out HU2.out)
          have hI := Lib.hid hyi
          clear hyi hyr hyo hys hyl HYC
          generalize y.flat.length = M at *
          generalize y.sg = z at *
          go_wp2_with fail
          refine hcall.out.mono ?_
          rintro e w3 ⟨hb, ⟨hle, v, rfl, hv⟩ | ⟨hgt, rfl⟩⟩
          · have hnl : Hid ((app S (t.flat.take (k + 1))).length ≤ 100) := by have := congrArg List.length hnext.out; rw [List.length_append, ← hI.out] at this; have := hlen.out; show _ ≤ _; omega
            rw [hI.out] at hv hle
            have hV := Lib.hid hv.any
            obtain ⟨va, vc, rfl⟩ := hv.isSlice
            have hO5 := Lib.hid (ownsRow_keep hO3.out fun j hj => hb.block j (World.ownsRow.lt hO3.out j hj).2)
            have hBB := Lib.hid hb
            clear hv hb
            by_cases hgt : 30 < (app S (t.flat.take (k + 1))).length
            · have hgi : (30 : Int) < ((app S (t.flat.take (k + 1))).length : Nat) := by omega
              go_wp2_with (at_builtin; refine app_ints _ _ 24 rfl rfl w.heap.size i3 Try.underlying24 hi hz hsz hby hO5.out hV.out ?dp1 ?dp2 ?dp3; rotate_left 2; intro v' w4 hown4 hb4 hg4 _; rw [hnext.out] at hown4; obtain ⟨so', sc', hsv'⟩ := (ints_of_own hown4 (by have := hnl.out; omega)).isSlice; subst hsv'; have hB5 := Lib.hid ((ext_trans hB3.out hBB.out).trans hb4); have H4 := Lib.hid hown4; clear hown4 hb4)
              case dp1 => have := hlen.out; omega
              case dp2 => have := hB3.out.size; have := hBB.out.size; omega
              exact ⟨rfl, hfin.out _ _ hB5.out (.inr ⟨by have := htot.out; omega, rfl⟩)⟩
            · have hgi : ¬ (30 : Int) < ((app S (t.flat.take (k + 1))).length : Nat) := by omega
              have hgd : decide ((((app S (t.flat.take (k + 1))).length : Nat) : Int) > 30) = false := decide_eq_false (by omega)
              go_wp2_with (at_builtin; refine app_ints _ _ 24 rfl rfl w.heap.size i3 Try.underlying24 hi hz hsz hby hO5.out hV.out ?dn1 ?dn2 ?dn3; rotate_left 2; intro v' w4 hown4 hb4 hg4 _; rw [hnext.out] at hown4; obtain ⟨so', sc', hsv'⟩ := (ints_of_own hown4 (by have := hnl.out; omega)).isSlice; subst hsv'; have hB5 := Lib.hid ((ext_trans hB3.out hBB.out).trans hb4); have H4 := Lib.hid hown4; clear hown4 hb4)
              case dn1 => have := hlen.out; omega
              case dn2 => have := hB3.out.size; have := hBB.out.size; omega
              go_roundw
              case rel => exact ⟨k + 1, by omega, by go_num, H4.out, by omega, hB5.out⟩
              case measure => simp [intOf]; omega
          · refine ⟨rfl, hfin.out _ _ (ext_trans hB3.out hb) (.inr ⟨?_, rfl⟩)⟩
            have := congrArg List.length hnext.out
            rw [List.length_append, ← hI.out] at this
            have := htot.out
            omega
        · have hnl : Hid ((app S (t.flat.take (k + 1))).length ≤ 100) := by have e := congrArg List.length hnext.out; rw [List.length_append, hsy, List.length_singleton] at e; have := hlen.out; show _ ≤ _; omega
          rw [hsy] at hnext
          have hX := Lib.hid (ints_one w2 y.sg 3).any
          have hO4 := Lib.hid (hO3.out.alloc (.cells #[.int .i64 y.sg] 3))
          clear HYC hsy HU2
          generalize y.flat.length = M at *
          generalize y.sg = z at *
          rcases hor with h0 | ⟨h0, hz0⟩
          · by_cases hgt : 30 < (app S (t.flat.take (k + 1))).length
            · have hgi : (30 : Int) < ((app S (t.flat.take (k + 1))).length : Nat) := by omega
              go_wp2_with (at_builtin; refine app_ints _ _ 24 rfl rfl w.heap.size i3 Try.underlying24 hi hz hsz hby hO4.out hX.out ?cp1 ?cp2 ?cp3; rotate_left 2; intro v' w4 hown4 hb4 hg4 _; rw [hnext.out] at hown4; obtain ⟨so', sc', hsv'⟩ := (ints_of_own hown4 (by have := hnl.out; omega)).isSlice; subst hsv'; have hB5 := Lib.hid ((ext_trans hB3.out (below_alloc w2 (.cells #[.int .i64 z] 3))).trans hb4); have H4 := Lib.hid hown4; clear hown4 hb4)
              case cp1 => have := hlen.out; simp; omega
              case cp2 => have := hB3.out.size; simp; omega
              exact ⟨rfl, hfin.out _ _ hB5.out (.inr ⟨by have := htot.out; omega, rfl⟩)⟩
            · have hgi : ¬ (30 : Int) < ((app S (t.flat.take (k + 1))).length : Nat) := by omega
              have hgd : decide ((((app S (t.flat.take (k + 1))).length : Nat) : Int) > 30) = false := decide_eq_false (by omega)
              go_wp2_with (at_builtin; refine app_ints _ _ 24 rfl rfl w.heap.size i3 Try.underlying24 hi hz hsz hby hO4.out hX.out ?cn1 ?cn2 ?cn3; rotate_left 2; intro v' w4 hown4 hb4 hg4 _; rw [hnext.out] at hown4; obtain ⟨so', sc', hsv'⟩ := (ints_of_own hown4 (by have := hnl.out; omega)).isSlice; subst hsv'; have hB5 := Lib.hid ((ext_trans hB3.out (below_alloc w2 (.cells #[.int .i64 z] 3))).trans hb4); have H4 := Lib.hid hown4; clear hown4 hb4)
              case cn1 => have := hlen.out; simp; omega
              case cn2 => have := hB3.out.size; simp; omega
              go_roundw
              case rel => exact ⟨k + 1, by omega, by go_num, H4.out, by omega, hB5.out⟩
              case measure => simp [intOf]; omega
          · by_cases hgt : 30 < (app S (t.flat.take (k + 1))).length
            · have hgi : (30 : Int) < ((app S (t.flat.take (k + 1))).length : Nat) := by omega
              go_wp2_with (at_builtin; refine app_ints _ _ 24 rfl rfl w.heap.size i3 Try.underlying24 hi hz hsz hby hO4.out hX.out ?ep1 ?ep2 ?ep3; rotate_left 2; intro v' w4 hown4 hb4 hg4 _; rw [hnext.out] at hown4; obtain ⟨so', sc', hsv'⟩ := (ints_of_own hown4 (by have := hnl.out; omega)).isSlice; subst hsv'; have hB5 := Lib.hid ((ext_trans hB3.out (below_alloc w2 (.cells #[.int .i64 z] 3))).trans hb4); have H4 := Lib.hid hown4; clear hown4 hb4)
              case ep1 => have := hlen.out; simp; omega
              case ep2 => have := hB3.out.size; simp; omega
              exact ⟨rfl, hfin.out _ _ hB5.out (.inr ⟨by have := htot.out; omega, rfl⟩)⟩
            · have hgi : ¬ (30 : Int) < ((app S (t.flat.take (k + 1))).length : Nat) := by omega
              have hgd : decide ((((app S (t.flat.take (k + 1))).length : Nat) : Int) > 30) = false := decide_eq_false (by omega)
              go_wp2_with (at_builtin; refine app_ints _ _ 24 rfl rfl w.heap.size i3 Try.underlying24 hi hz hsz hby hO4.out hX.out ?en1 ?en2 ?en3; rotate_left 2; intro v' w4 hown4 hb4 hg4 _; rw [hnext.out] at hown4; obtain ⟨so', sc', hsv'⟩ := (ints_of_own hown4 (by have := hnl.out; omega)).isSlice; subst hsv'; have hB5 := Lib.hid ((ext_trans hB3.out (below_alloc w2 (.cells #[.int .i64 z] 3))).trans hb4); have H4 := Lib.hid hown4; clear hown4 hb4)
              case en1 => have := hlen.out; simp; omega
              case en2 => have := hB3.out.size; simp; omega
              go_roundw
              case rel => exact ⟨k + 1, by omega, by go_num, H4.out, by omega, hB5.out⟩
              case measure => simp [intOf]; omega
      · obtain rfl : k = t.flat.length := by omega
        go_wp2_with fail
        go_ret
        refine hfin.out _ _ hR.out.2.2 (.inl ?_)
        have h1 := hR.out.1
        have h2 := hR.out.2.1
        rw [List.take_length] at h1 h2
        refine ⟨h2, _, rfl, ?_⟩
        have := ints_of_own h1 (by omega)
        rw [List.take_length]
        exact this
termination_by n => n

end Go.Proofs.Ytepddehodmljeaa
