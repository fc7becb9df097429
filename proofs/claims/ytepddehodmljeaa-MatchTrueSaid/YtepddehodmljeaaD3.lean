/- Walks: sub.Apply; haspref.applied, ApplyOf. -/
import Derived.Test.YtepddehodmljeaaD2
namespace Go.Proofs.Ytepddehodmljeaa
open Go.RowKit

/-- The error of Apply, and what comes. -/
def applyE (s : List (List Int)) (t : List Int) : Int := if chkS s ≠ 0 then chkS s else if chk t ≠ 0 then chk t else if 30 < (app s t).length then 2 else 0
def applyT (s : List (List Int)) (t : List Int) : List Int := if applyE s t = 0 then app s t else []

theorem apply_s {s : List (List Int)} {t : List Int} (h : chkS s ≠ 0) : applyE s t = chkS s ∧ applyT s t = [] := by
  have : applyE s t = chkS s := by rw [applyE, if_pos h]
  exact ⟨this, by rw [applyT, this, if_neg h]⟩
theorem apply_t {s : List (List Int)} {t : List Int} (h : chkS s = 0) (h2 : chk t ≠ 0) : applyE s t = chk t ∧ applyT s t = [] := by
  have : applyE s t = chk t := by rw [applyE, if_neg (by simpa using h), if_pos h2]
  exact ⟨this, by rw [applyT, this, if_neg h2]⟩
theorem apply_big {s : List (List Int)} {t : List Int} (h : chkS s = 0) (h2 : chk t = 0) (h3 : 30 < (app s t).length) : applyE s t = 2 ∧ applyT s t = [] := by
  have : applyE s t = 2 := by rw [applyE, if_neg (by simpa using h), if_neg (by simpa using h2), if_pos h3]
  exact ⟨this, by rw [applyT, this, if_neg (by omega)]⟩
theorem apply_ok {s : List (List Int)} {t : List Int} (h : chkS s = 0) (h2 : chk t = 0) (h3 : (app s t).length ≤ 30) : applyE s t = 0 ∧ applyT s t = app s t := by
  have : applyE s t = 0 := by rw [applyE, if_neg (by simpa using h), if_neg (by simpa using h2), if_neg (by omega)]
  exact ⟨this, by rw [applyT, this, if_pos rfl]⟩

theorem ints_one (w : World) (x : Int) (e : TypeId) : IsInts (Fr w.heap.size) (w.alloc (.cells #[.int .i64 x] e)) (.slice (some ⟨w.heap.size, 0, none⟩) 1 1) [x] := ints_lit w w.heap.size [x] e (Nat.le_refl _) (by simp)

theorem Apply_calls (s : List (List Int)) (t : List Int) (u v : Value) (w : World) (hu : IsTerms Any w u s) (hv : IsInts Any w v t) :
    Calls Try.prog 34 #[u, v] w fun e w' => ∃ x, e = .returned (.tuple #[x, .int .i64 (applyE s t)]) ∧ IsInts (Fr w.heap.size) w' x (applyT s t) ∧ Below w.heap.size w w' := by
  have h1 := Lib.hid (SubCheck_calls s u w hu)
  have h2 := Lib.hid (Check_calls t v w hv)
  by_cases hs : chkS s = 0
  · by_cases ht : chk t = 0
    · have h3 := Lib.hid (By_calls s t u v w (chkS_zero.1 hs) (signs_of_chk ht) (by have := len_of_chk ht; omega) hu hv)
      by_cases hb : 30 < (app s t).length
      · have hr := Lib.hid (apply_big hs ht hb)
        clear hu hv
        go_enter Try.func34, Try.ntmps34
        go_wp2_with fail
        refine h1.out.mono ?_
        rintro e w' ⟨rfl, rfl⟩
        go_wp2_with fail
        refine h2.out.mono ?_
        rintro e w' ⟨rfl, rfl⟩
        clear h1 h2
        go_wp2_with fail
        refine h3.out.mono ?_
        rintro e w1 ⟨x, rfl, hx, hB⟩
        go_wp2_with fail
        refine (Fits_big _ _ _ hx.any hb).mono ?_
        rintro e w' ⟨rfl, rfl⟩
        go_wp2_with fail
        go_ret2
        exact ⟨_, by rw [hr.out.1]; rfl, by rw [hr.out.2]; exact .nil _ _, hB⟩
      · have hr := Lib.hid (apply_ok hs ht (by omega))
        clear hu hv
        go_enter Try.func34, Try.ntmps34
        go_wp2_with fail
        refine h1.out.mono ?_
        rintro e w' ⟨rfl, rfl⟩
        go_wp2_with fail
        refine h2.out.mono ?_
        rintro e w' ⟨rfl, rfl⟩
        clear h1 h2
        go_wp2_with fail
        refine h3.out.mono ?_
        rintro e w1 ⟨x, rfl, hx, hB⟩
        go_wp2_with fail
        refine (Fits_ok _ _ _ hx.any (by omega)).mono ?_
        rintro e w' ⟨rfl, rfl⟩
        go_wp2_with fail
        go_ret2
        exact ⟨_, by rw [hr.out.1]; rfl, by rw [hr.out.2]; exact hx, hB⟩
    · have hr := Lib.hid (apply_t hs ht)
      have ht' : (chk t != 0) = true := by simpa using ht
      clear hu hv ht
      go_enter Try.func34, Try.ntmps34
      go_wp2_with fail
      refine h1.out.mono ?_
      rintro e w' ⟨rfl, rfl⟩
      go_wp2_with fail
      refine h2.out.mono ?_
      rintro e w' ⟨rfl, rfl⟩
      clear h1 h2
      go_wp2_with fail
      go_ret2
      exact ⟨_, by rw [hr.out.1]; rfl, by rw [hr.out.2]; exact .nil _ _, .refl _ _⟩
  · have hr := Lib.hid (apply_s (t := t) hs)
    have hs' : (chkS s != 0) = true := by simpa using hs
    clear hu hv hs
    go_enter Try.func34, Try.ntmps34
    go_wp2_with fail
    refine h1.out.mono ?_
    rintro e w' ⟨rfl, rfl⟩
    clear h1 h2
    go_wp2_with fail
    go_ret2
    exact ⟨_, by rw [hr.out.1]; rfl, by rw [hr.out.2]; exact .nil _ _, .refl _ _⟩

set_option maxRecDepth 100000 in
theorem applied_calls (s : List (List Int)) (t : List Int) (u v : Value) (w : World) (hs : RightS s) (ht : Signs t) (htl : t.length ≤ 1000) (hu : IsTerms Any w u s) (hv : IsInts Any w v t) :
    Calls Try.prog 101 #[u, v] w fun e w' => ∃ x, e = .returned x ∧ IsInts (Fr w.heap.size) w' x (app s t) ∧ Below w.heap.size w w' := by
  have hfin := Lib.hid (joinF_all (sb s) t)
  obtain ⟨i3, hi, hz, hsz, hby⟩ := info_parts Try.inf3
  have hlenF : ∀ k, k ≤ t.length → (joinF (fun k => sb s (nth t k)) k).length ≤ 30000 := by
    intro k hk
    rw [joinF_flatMap _ _ _ hk]
    have h1 := flatMap_len (sb s) 30 (t.take k) (fun x hx => sb_len hs (ht x (List.mem_of_mem_take hx)).1)
    have h2 : (t.take k).length ≤ 1000 := by simp; omega
    exact Nat.le_trans h1 (by omega)
  have hL := Lib.hid hlenF
  clear hlenF
  have hSB := Lib.hid (fun (n : Int) (h : -8 ≤ n) => sb_len hs h)
  obtain ⟨hlen, ⟨rfl, -⟩ | ⟨hne, b, o, c, rfl, -, -, hlt, cs, he, hc⟩⟩ := hu
  · simp [RightS] at hs
  have hT : Hid (∀ j, j < 8 → ∃ u, w.cell? ⟨b, o + j, none⟩ = some u ∧ IsInts Any w u (nthT s j)) := fun j hj => terms_cell he hc (by rw [hs.1]; exact hj)
  have hsl := hs.1
  rw [hsl]
  clear he hc hne hsl hs hlen
  obtain ⟨hlen2, ⟨rfl, a2, c2, rfl, -⟩ | ⟨hne2, b2, o2, c2, rfl, -, -, hlt2, hc2⟩⟩ := hv
  · clear ht htl
    go_enter Try.func101, Try.ntmps101
    go_wp2_with fail
    refine wp_loop_rounds 1 ?_
    rw [rounds_succ]
    go_wp2_with fail
    go_ret
    exact ⟨_, rfl, .nil _ _, .refl _ _⟩
  · have hC := Lib.hid hc2
    have hS := Lib.hid ht
    clear ht hc2 hne2
    go_enter Try.func101, Try.ntmps101
    go_wp2_with fail
    go_loopw [5, 6] (fun out i wr => ∃ k : Nat, k ≤ t.length ∧ i = .int .i64 k ∧ Hid (wr.ownsRow w.heap.size 3 1 out (joinF (fun k => sb s (nth t k)) k).length ((joinF (fun k => sb s (nth t k)) k).map (Value.int .i64)) ∧ Below w.heap.size w wr)) (fun _ i _ => t.length - (intOf i).toNat)
    case atStart => exact ⟨0, Nat.zero_le _, rfl, World.ownsRow_nil _ _ _ _, .refl _ _⟩
    case round =>
      obtain ⟨k, hk, rfl, hR⟩ := hrel
      by_cases hlt' : k < t.length
      · have hcell : wr.cell? ⟨b2, o2 + k, none⟩ = some (.int .i64 (nth t k)) := (hR.out.2.cell (p := ⟨b2, o2 + k, none⟩) hlt2).trans (hC.out k hlt')
        have hsn := hS.out _ (nth_mem hlt')
        obtain ⟨hn1, hn2⟩ := hsn
        have hle := Lib.hid (hL.out k hk)
        by_cases h0 : nth t k < 0
        · have hr : Hid (sb s (nth t k) = nthT s ((-nth t k).toNat - 1)) := by rw [Hid, sb, if_pos h0, show (-1 - nth t k).toNat = (-nth t k).toNat - 1 by omega]
          obtain ⟨x, hcx, hx⟩ := hT.out ((-nth t k).toNat - 1) (by omega)
          have hcx' : wr.cell? ⟨b, o + ((-nth t k).toNat - 1), none⟩ = some x := (hR.out.2.cell (p := ⟨b, o + ((-nth t k).toNat - 1), none⟩) hlt).trans hcx
          have hX : Hid (IsInts Any wr x (nthT s ((-nth t k).toNat - 1))) := hx.below (hR.out.2.mono (Nat.le_refl _))
          clear hcx hx
          go_wp2_with (at_builtin; refine app_ints _ _ 24 rfl rfl w.heap.size i3 Try.underlying24 hi hz hsz hby hR.out.1 hX.out ?c1 ?c2 ?c3; rotate_left 2; intro v' w2 hown2 hb2 hg2 _)
          case c1 =>
            rw [← hr.out]
            have := hle.out
            have := hSB.out _ hn1
            omega
          case c2 => exact hR.out.2.size
          go_roundw
          case rel => exact ⟨k + 1, by omega, by go_num, by rw [← hr.out] at hown2; exact hown2, hR.out.2.trans hb2⟩
          case measure => simp [intOf]; omega
        · have h0' : 0 ≤ nth t k := by omega
          have hr : Hid (sb s (nth t k) = [nth t k]) := by rw [Hid, sb, if_neg h0]
          have hsize := hR.out.2.size
          have hX := Lib.hid (ints_one wr (nth t k) 3).any
          clear h0
          go_wp2_with (at_builtin; refine app_ints _ _ 24 rfl rfl w.heap.size i3 Try.underlying24 hi hz hsz hby (hR.out.1.alloc _) hX.out ?d1 ?d2 ?d3; rotate_left 2; intro v' w2 hown2 hb2 hg2 _)
          case d1 =>
            have := hle.out
            simp only [List.length_cons, List.length_nil]
            omega
          case d2 => simp; omega
          go_roundw
          case rel => exact ⟨k + 1, by omega, by go_num, by rw [← hr.out] at hown2; exact hown2, (hR.out.2.alloc (by omega) _).trans hb2⟩
          case measure => simp [intOf]; omega
      · have hkl : k = t.length := by omega
        subst hkl
        have hle := Lib.hid (hL.out _ hk)
        go_wp2_with fail
        go_ret
        refine ⟨_, rfl, ?_, hR.out.2⟩
        have := ints_of_own hR.out.1 (Nat.le_trans hle.out (by omega))
        rw [hfin.out] at this
        exact this

theorem ApplyOf_calls (s : List (List Int)) (t : List Int) (u v : Value) (w : World) (hu : IsTerms Any w u s) (hv : IsInts Any w v t) :
    Calls Try.prog 35 #[u, v] w fun e w' => ∃ x, e = .returned (.tuple #[x, .int .i64 (applyE s t)]) ∧ IsInts (Fr w.heap.size) w' x (applyT s t) ∧ Below w.heap.size w w' := by
  have h1 := Lib.hid (SubError_calls s u w hu)
  have h2 := Lib.hid (TermError_calls t v w hv)
  by_cases hs : chkS s = 0
  · by_cases ht : chk t = 0
    · have h3 := Lib.hid (applied_calls s t u v w (chkS_zero.1 hs) (signs_of_chk ht) (by have := len_of_chk ht; omega) hu hv)
      by_cases hb : 30 < (app s t).length
      · have hr := Lib.hid (apply_big hs ht hb)
        have hb' : 30 < ((app s t).length : Int) := by omega
        clear hu hv
        go_enter Try.func35, Try.ntmps35
        go_wp2_with fail
        refine h1.out.mono ?_
        rintro e w' ⟨rfl, rfl⟩
        go_wp2_with fail
        refine h2.out.mono ?_
        rintro e w' ⟨rfl, rfl⟩
        clear h1 h2
        go_wp2_with fail
        refine h3.out.mono ?_
        rintro e w1 ⟨x, rfl, hx, hB⟩
        obtain ⟨ax, cx, rfl⟩ := hx.isSlice
        have hX := Lib.hid hx
        clear hx
        go_wp2_with fail
        go_ret2
        exact ⟨_, by rw [hr.out.1]; rfl, by rw [hr.out.2]; exact .nil _ _, hB⟩
      · have hr := Lib.hid (apply_ok hs ht (by omega))
        have hb' : ((app s t).length : Int) ≤ 30 := by omega
        clear hu hv
        go_enter Try.func35, Try.ntmps35
        go_wp2_with fail
        refine h1.out.mono ?_
        rintro e w' ⟨rfl, rfl⟩
        go_wp2_with fail
        refine h2.out.mono ?_
        rintro e w' ⟨rfl, rfl⟩
        clear h1 h2
        go_wp2_with fail
        refine h3.out.mono ?_
        rintro e w1 ⟨x, rfl, hx, hB⟩
        obtain ⟨ax, cx, rfl⟩ := hx.isSlice
        have hX := Lib.hid hx
        clear hx
        go_wp2_with fail
        go_ret2
        exact ⟨_, by rw [hr.out.1]; rfl, by rw [hr.out.2]; exact hX.out, hB⟩
    · have hr := Lib.hid (apply_t hs ht)
      have ht' : (chk t != 0) = true := by simpa using ht
      clear hu hv ht
      go_enter Try.func35, Try.ntmps35
      go_wp2_with fail
      refine h1.out.mono ?_
      rintro e w' ⟨rfl, rfl⟩
      go_wp2_with fail
      refine h2.out.mono ?_
      rintro e w' ⟨rfl, rfl⟩
      clear h1 h2
      go_wp2_with fail
      go_ret2
      exact ⟨_, by rw [hr.out.1]; rfl, by rw [hr.out.2]; exact .nil _ _, .refl _ _⟩
  · have hr := Lib.hid (apply_s (t := t) hs)
    have hs' : (chkS s != 0) = true := by simpa using hs
    clear hu hv hs
    go_enter Try.func35, Try.ntmps35
    go_wp2_with fail
    refine h1.out.mono ?_
    rintro e w' ⟨rfl, rfl⟩
    clear h1 h2
    go_wp2_with fail
    go_ret2
    exact ⟨_, by rw [hr.out.1]; rfl, by rw [hr.out.2]; exact .nil _ _, .refl _ _⟩

end Go.Proofs.Ytepddehodmljeaa
