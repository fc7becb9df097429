/- Walks: sub.Check, haspref.SubError: of a list of terms. -/
import Derived.Test.YtepddehodmljeaaB2
namespace Go.Proofs.Ytepddehodmljeaa
open Go.RowKit

/-- The first error in a list of terms. -/
def chkL : List (List Int) → Int
  | [] => 0
  | t :: ts => if chk t = 0 then chkL ts else chk t

theorem chkL_skip : ∀ (ts : List (List Int)) (k : Nat), k ≤ ts.length → (∀ j, j < k → chk (nthT ts j) = 0) → chkL ts = chkL (ts.drop k)
  | ts, 0, _, _ => by simp
  | [], k + 1, h, _ => by simp at h
  | t :: ts, k + 1, h, hp => by
    have h0 : chk t = 0 := hp 0 (by omega)
    rw [chkL, if_pos h0, List.drop_succ_cons]
    exact chkL_skip ts k (by simpa using h) (fun j hj => by have := hp (j + 1) (by omega); simpa [nthT, List.getD] using this)
theorem chkL_at {ts : List (List Int)} {k : Nat} (hk : k < ts.length) (hp : ∀ j, j < k → chk (nthT ts j) = 0) (h : chk (nthT ts k) ≠ 0) : chkL ts = chk (nthT ts k) := by
  rw [chkL_skip ts k (by omega) hp, List.drop_eq_getElem_cons hk, chkL, ← nthT_eq hk, if_neg h]
theorem chkL_all {ts : List (List Int)} (hp : ∀ j, j < ts.length → chk (nthT ts j) = 0) : chkL ts = 0 := by
  rw [chkL_skip ts _ (Nat.le_refl _) hp]; simp [chkL]

def chkS (s : List (List Int)) : Int := if s.length = 8 then chkL s else 1

theorem SubCheck_calls (s : List (List Int)) (v : Value) (w : World) (hv : IsTerms Any w v s) :
    Calls Try.prog 37 #[v] w fun e w' => e = .returned (.int .i64 (chkS s)) ∧ w = w' := by
  obtain ⟨a, c, rfl⟩ := hv.isSlice
  by_cases hl : s.length = 8
  · have hr : Hid (chkS s = chkL s) := by rw [Hid, chkS, if_pos hl]
    obtain ⟨hlen, ⟨rfl, -⟩ | ⟨hne, b, o, c, e, -, -, hlt, cs, he, hc⟩⟩ := hv
    · simp at hl
    cases e
    have hcell : Hid (∀ j, j < s.length → ∃ u, w.cell? ⟨b, o + j, none⟩ = some u ∧ IsInts Any w u (nthT s j)) := fun j hj => terms_cell he hc hj
    rw [hl]
    have hl := Lib.hid hl
    clear he hc hne
    go_enter Try.func37, Try.ntmps37
    go_wp2_with fail
    go_loop [11] (fun i => ∃ k : Nat, k ≤ 8 ∧ i = .int .i64 k ∧ ∀ j, j < k → chk (nthT s j) = 0) (fun i => 8 - (intOf i).toNat)
    case atStart => exact ⟨0, Nat.zero_le _, rfl, fun _ h => by omega⟩
    case round =>
      obtain ⟨k, hk, rfl, hp⟩ := hrel
      have hP := Lib.hid hp
      clear hp
      by_cases hlt' : k < 8
      · obtain ⟨u, hcu, hu⟩ := hcell.out k (by rw [hl.out]; exact hlt')
        have h1 := Lib.hid (Check_calls _ u w hu)
        clear hu
        by_cases hx : chk (nthT s k) = 0
        · go_wp2_with fail
          refine h1.out.mono ?_
          rintro e w' ⟨rfl, rfl⟩
          clear h1
          go_wp2_with fail
          have hX := Lib.hid hx
          clear hx
          go_round
          case rel =>
            refine ⟨k + 1, by omega, by go_num, fun j hj => ?_⟩
            by_cases e : j = k
            · subst e; exact hX.out
            · exact hP.out j (by omega)
          case measure => simp [intOf]; omega
        · have hx' : (chk (nthT s k) != 0) = true := by simpa using hx
          have hfin : Hid (chkS s = chk (nthT s k)) := by rw [Hid, hr.out, chkL_at (by rw [hl.out]; exact hlt') hP.out hx]
          clear hx
          go_wp2_with fail
          refine h1.out.mono ?_
          rintro e w' ⟨rfl, rfl⟩
          clear h1
          go_wp2_with fail
          go_ret
          exact ⟨ret_int hfin.out.symm, rfl⟩
      · have hkl : k = 8 := by omega
        subst hkl
        have hfin : Hid (chkS s = 0) := by rw [Hid, hr.out, chkL_all (by rw [hl.out]; exact hP.out)]
        go_wp2_with fail
        go_ret
        exact ⟨ret_int hfin.out.symm, rfl⟩
  · have hr : Hid (chkS s = 1) := by rw [Hid, chkS, if_neg hl]
    have hl' : ((s.length : Int) != 8) = true := by rw [bne_iff_ne]; omega
    clear hv hl
    go_enter Try.func37, Try.ntmps37
    go_wp2_with fail
    go_ret
    exact ⟨ret_int hr.out.symm, rfl⟩

theorem SubError_calls (s : List (List Int)) (v : Value) (w : World) (hv : IsTerms Any w v s) :
    Calls Try.prog 38 #[v] w fun e w' => e = .returned (.int .i64 (chkS s)) ∧ w = w' := by
  obtain ⟨a, c, rfl⟩ := hv.isSlice
  by_cases hl : s.length = 8
  · have hr : Hid (chkS s = chkL s) := by rw [Hid, chkS, if_pos hl]
    obtain ⟨hlen, ⟨rfl, -⟩ | ⟨hne, b, o, c, e, -, -, hlt, cs, he, hc⟩⟩ := hv
    · simp at hl
    cases e
    have hcell : Hid (∀ j, j < s.length → ∃ u, w.cell? ⟨b, o + j, none⟩ = some u ∧ IsInts Any w u (nthT s j)) := fun j hj => terms_cell he hc hj
    rw [hl]
    have hl := Lib.hid hl
    clear he hc hne
    go_enter Try.func38, Try.ntmps38
    go_wp2_with fail
    go_loop [3] (fun i => ∃ k : Nat, k ≤ 8 ∧ i = .int .i64 k ∧ ∀ j, j < k → chk (nthT s j) = 0) (fun i => 8 - (intOf i).toNat)
    case atStart => exact ⟨0, Nat.zero_le _, rfl, fun _ h => by omega⟩
    case round =>
      obtain ⟨k, hk, rfl, hp⟩ := hrel
      have hP := Lib.hid hp
      clear hp
      by_cases hlt' : k < 8
      · obtain ⟨u, hcu, hu⟩ := hcell.out k (by rw [hl.out]; exact hlt')
        have h1 := Lib.hid (TermError_calls _ u w hu)
        clear hu
        by_cases hx : chk (nthT s k) = 0
        · go_wp2_with fail
          refine h1.out.mono ?_
          rintro e w' ⟨rfl, rfl⟩
          clear h1
          go_wp2_with fail
          have hX := Lib.hid hx
          clear hx
          go_round
          case rel =>
            refine ⟨k + 1, by omega, by go_num, fun j hj => ?_⟩
            by_cases e : j = k
            · subst e; exact hX.out
            · exact hP.out j (by omega)
          case measure => simp [intOf]; omega
        · have hx' : (chk (nthT s k) != 0) = true := by simpa using hx
          have hfin : Hid (chkS s = chk (nthT s k)) := by rw [Hid, hr.out, chkL_at (by rw [hl.out]; exact hlt') hP.out hx]
          clear hx
          go_wp2_with fail
          refine h1.out.mono ?_
          rintro e w' ⟨rfl, rfl⟩
          clear h1
          go_wp2_with fail
          go_ret
          exact ⟨ret_int hfin.out.symm, rfl⟩
      · have hkl : k = 8 := by omega
        subst hkl
        have hfin : Hid (chkS s = 0) := by rw [Hid, hr.out, chkL_all (by rw [hl.out]; exact hP.out)]
        go_wp2_with fail
        go_ret
        exact ⟨ret_int hfin.out.symm, rfl⟩
  · have hr : Hid (chkS s = 1) := by rw [Hid, chkS, if_neg hl]
    have hl' : ((s.length : Int) != 8) = true := by rw [bne_iff_ne]; omega
    clear hv hl
    go_enter Try.func38, Try.ntmps38
    go_wp2_with fail
    go_ret
    exact ⟨ret_int hr.out.symm, rfl⟩

end Go.Proofs.Ytepddehodmljeaa
