/- Walks: slices.Equal, haspref.SameTerms; term.Fits, At, Both; slices.Clone; haspref.twoErrors. -/
import Derived.Test.YtepddehodmljeaaB1
import Derived.Deep.QuietTactic
import Derived.BigQuiet
namespace Go.Proofs.Ytepddehodmljeaa
open Go.RowKit

theorem drewN_add (w : World) (n m : Nat) : (w.drewN n).drewN m = w.drewN (n + m) := by simp [World.drewN, Nat.add_assoc]
theorem below_drewN (B : Nat) (w : World) (n : Nat) : Below B w (w.drewN n) := ⟨rfl, rfl, rfl, Nat.le_refl _, fun _ _ => rfl⟩

theorem Equal_calls (s t : List Int) (u v : Value) (w : World) (hu : IsInts Any w u s) (hv : IsInts Any w v t) :
    Calls Try.prog 144 #[u, v] w fun e w' => e = .returned (.bool (decide (s = t))) ∧ ∃ n, w' = w.drewN n := by
  obtain ⟨a, c, rfl⟩ := hu.isSlice
  obtain ⟨a', c', rfl⟩ := hv.isSlice
  by_cases hl : s.length = t.length
  · obtain ⟨hlen, ⟨rfl, a1, c1, e1, -⟩ | ⟨hne, b, o, c, e1, -, -, hlt, hc⟩⟩ := hu
    · cases e1
      obtain rfl : t = [] := List.eq_nil_of_length_eq_zero (by simpa using hl.symm)
      clear hv hl
      go_enter Try.func144, Try.ntmps144
      go_wp2_with fail
      refine wp_loop_rounds 1 ?_
      rw [rounds_succ]
      go_wp2_with fail
      go_ret
      exact ⟨rfl, 0, rfl⟩
    · cases e1
      obtain ⟨hlen2, ⟨rfl, -⟩ | ⟨hne2, b2, o2, c2, e2, -, -, hlt2, hc2⟩⟩ := hv
      · exact absurd (List.eq_nil_of_length_eq_zero hl) hne
      cases e2
      rw [← hl]
      have hL := Lib.hid hl
      clear hl
      go_enter Try.func144, Try.ntmps144
      go_wp2_with fail
      go_loopw [13] (fun i wr => ∃ k : Nat, k ≤ s.length ∧ i = .int .i64 k ∧ (∀ j, j < k → nth s j = nth t j) ∧ ∃ n, wr = w.drewN n) (fun i _ => s.length - (intOf i).toNat)
      case atStart => exact ⟨0, Nat.zero_le _, rfl, fun _ h => by omega, 0, rfl⟩
      case round =>
        obtain ⟨k, hk, rfl, hp, n, rfl⟩ := hrel
        have hP := Lib.hid hp
        clear hp
        by_cases hlt' : k < s.length
        · have hcell := hc k hlt'
          have hcell2 := hc2 k (by rw [← hL.out]; exact hlt')
          have hi : (k : Int) < s.length := by omega
          by_cases hx : nth s k = nth t k
          · have hX := Lib.hid hx
            have hx' : (nth s k != nth t k) = false := by simpa using hx
            clear hx hc hc2
            go_wp2_with fail
            go_quiet (fail)
            go_wp2_with fail
            go_roundw
            case rel =>
              refine ⟨k + 1, by omega, by go_num, fun j hj => ?_, _, rfl⟩
              by_cases e : j = k
              · subst e; exact hX.out
              · exact hP.out j (by omega)
            case measure => simp [intOf]; omega
          · have hx' : (nth s k != nth t k) = true := by simpa using hx
            have hfin : Hid (s ≠ t) := by
              rintro rfl; exact hx rfl
            clear hx hc hc2
            go_wp2_with fail
            go_quiet (fail)
            go_wp2_with fail
            go_ret
            exact ⟨ret_bool (decide_eq_false hfin.out).symm, _, drewN_add _ _ _⟩
        · have hkl : k = s.length := by omega
          subst hkl
          have hfin : Hid (s = t) := ext_nth hL.out hP.out
          clear hc hc2
          go_wp2_with fail
          go_ret
          exact ⟨ret_bool (decide_eq_true hfin.out).symm, _, rfl⟩
  · have hfin : Hid (s ≠ t) := by rintro rfl; exact hl rfl
    have hl' : ((s.length : Int) != t.length) = true := by rw [bne_iff_ne]; omega
    clear hu hv hl
    go_enter Try.func144, Try.ntmps144
    go_wp2_with fail
    go_ret
    exact ⟨ret_bool (decide_eq_false hfin.out).symm, 0, rfl⟩

theorem SameTerms_calls (s t : List Int) (u v : Value) (w : World) (hu : IsInts Any w u s) (hv : IsInts Any w v t) :
    Calls Try.prog 39 #[u, v] w fun e w' => e = .returned (.bool (decide (s = t))) ∧ ∃ n, w' = w.drewN n := by
  obtain ⟨a, c, rfl⟩ := hu.isSlice
  obtain ⟨a', c', rfl⟩ := hv.isSlice
  by_cases hl : s.length = t.length
  · obtain ⟨hlen, ⟨rfl, a1, c1, e1, -⟩ | ⟨hne, b, o, c, e1, -, -, hlt, hc⟩⟩ := hu
    · cases e1
      obtain rfl : t = [] := List.eq_nil_of_length_eq_zero (by simpa using hl.symm)
      clear hv hl
      go_enter Try.func39, Try.ntmps39
      go_wp2_with fail
      refine wp_loop_rounds 1 ?_
      rw [rounds_succ]
      go_wp2_with fail
      go_ret
      exact ⟨rfl, 0, rfl⟩
    · cases e1
      obtain ⟨hlen2, ⟨rfl, -⟩ | ⟨hne2, b2, o2, c2, e2, -, -, hlt2, hc2⟩⟩ := hv
      · exact absurd (List.eq_nil_of_length_eq_zero hl) hne
      cases e2
      rw [← hl]
      have hL := Lib.hid hl
      clear hl
      go_enter Try.func39, Try.ntmps39
      go_wp2_with fail
      go_loopw [5] (fun i wr => ∃ k : Nat, k ≤ s.length ∧ i = .int .i64 k ∧ (∀ j, j < k → nth s j = nth t j) ∧ ∃ n, wr = w.drewN n) (fun i _ => s.length - (intOf i).toNat)
      case atStart => exact ⟨0, Nat.zero_le _, rfl, fun _ h => by omega, 0, rfl⟩
      case round =>
        obtain ⟨k, hk, rfl, hp, n, rfl⟩ := hrel
        have hP := Lib.hid hp
        clear hp
        by_cases hlt' : k < s.length
        · have hcell := hc k hlt'
          have hcell2 := hc2 k (by rw [← hL.out]; exact hlt')
          have hi : (k : Int) < s.length := by omega
          by_cases hx : nth s k = nth t k
          · have hX := Lib.hid hx
            have hx' : (nth s k != nth t k) = false := by simpa using hx
            clear hx hc hc2
            go_wp2_with fail
            go_quiet (fail)
            go_wp2_with fail
            go_roundw
            case rel =>
              refine ⟨k + 1, by omega, by go_num, fun j hj => ?_, _, rfl⟩
              by_cases e : j = k
              · subst e; exact hX.out
              · exact hP.out j (by omega)
            case measure => simp [intOf]; omega
          · have hx' : (nth s k != nth t k) = true := by simpa using hx
            have hfin : Hid (s ≠ t) := by
              rintro rfl; exact hx rfl
            clear hx hc hc2
            go_wp2_with fail
            go_quiet (fail)
            go_wp2_with fail
            go_ret
            exact ⟨ret_bool (decide_eq_false hfin.out).symm, _, drewN_add _ _ _⟩
        · have hkl : k = s.length := by omega
          subst hkl
          have hfin : Hid (s = t) := ext_nth hL.out hP.out
          clear hc hc2
          go_wp2_with fail
          go_ret
          exact ⟨ret_bool (decide_eq_true hfin.out).symm, _, rfl⟩
  · have hfin : Hid (s ≠ t) := by rintro rfl; exact hl rfl
    have hl' : ((s.length : Int) != t.length) = true := by rw [bne_iff_ne]; omega
    clear hu hv hl
    go_enter Try.func39, Try.ntmps39
    go_wp2_with fail
    go_ret
    exact ⟨ret_bool (decide_eq_false hfin.out).symm, 0, rfl⟩

theorem Fits_big (t : List Int) (v : Value) (w : World) (hv : IsInts Any w v t) (h : 30 < t.length) :
    Calls Try.prog 99 #[v] w fun e w' => e = .returned (.tuple #[.slice none 0 0, .int .i64 2]) ∧ w = w' := by
  obtain ⟨a, c, rfl⟩ := hv.isSlice
  have : 30 < (t.length : Int) := by omega
  clear hv
  go_enter Try.func99, Try.ntmps99
  go_wp2_with fail
  go_ret2
  exact ⟨rfl, rfl⟩
theorem Fits_ok (t : List Int) (v : Value) (w : World) (hv : IsInts Any w v t) (h : t.length ≤ 30) :
    Calls Try.prog 99 #[v] w fun e w' => e = .returned (.tuple #[v, .int .i64 0]) ∧ w = w' := by
  obtain ⟨a, c, rfl⟩ := hv.isSlice
  have : (t.length : Int) ≤ 30 := by omega
  clear hv
  go_enter Try.func99, Try.ntmps99
  go_wp2_with fail
  go_ret2
  exact ⟨rfl, rfl⟩

/-- The first error of two terms. -/
def chk2 (s t : List Int) : Int := if chk s = 0 then chk t else chk s

theorem Both_calls (s t : List Int) (u v : Value) (w : World) (hu : IsInts Any w u s) (hv : IsInts Any w v t) :
    Calls Try.prog 107 #[u, v] w fun e w' => e = .returned (.int .i64 (chk2 s t)) ∧ w = w' := by
  have h1 := Lib.hid (Check_calls s u w hu)
  have h2 := Lib.hid (Check_calls t v w hv)
  clear hu hv
  by_cases h : chk s = 0
  · have hr : Hid (chk2 s t = chk t) := by rw [Hid, chk2, if_pos h]
    go_enter Try.func107, Try.ntmps107
    go_wp2_with fail
    refine h1.out.mono ?_
    rintro e w' ⟨rfl, rfl⟩
    go_wp2_with fail
    refine h2.out.mono ?_
    rintro e w' ⟨rfl, rfl⟩
    clear h1 h2
    go_wp2_with fail
    go_ret
    exact ⟨ret_int hr.out.symm, rfl⟩
  · have hr : Hid (chk2 s t = chk s) := by rw [Hid, chk2, if_neg h]
    have h' : (chk s != 0) = true := by simpa using h
    clear h
    go_enter Try.func107, Try.ntmps107
    go_wp2_with fail
    refine h1.out.mono ?_
    rintro e w' ⟨rfl, rfl⟩
    clear h1 h2
    go_wp2_with fail
    go_ret
    exact ⟨ret_int hr.out.symm, rfl⟩

theorem twoErrors_calls (s t : List Int) (u v : Value) (w : World) (hu : IsInts Any w u s) (hv : IsInts Any w v t) :
    Calls Try.prog 109 #[u, v] w fun e w' => e = .returned (.int .i64 (chk2 s t)) ∧ w = w' := by
  have h1 := Lib.hid (TermError_calls s u w hu)
  have h2 := Lib.hid (TermError_calls t v w hv)
  clear hu hv
  by_cases h : chk s = 0
  · have hr : Hid (chk2 s t = chk t) := by rw [Hid, chk2, if_pos h]
    go_enter Try.func109, Try.ntmps109
    go_wp2_with fail
    refine h1.out.mono ?_
    rintro e w' ⟨rfl, rfl⟩
    go_wp2_with fail
    refine h2.out.mono ?_
    rintro e w' ⟨rfl, rfl⟩
    clear h1 h2
    go_wp2_with fail
    go_ret
    exact ⟨ret_int hr.out.symm, rfl⟩
  · have hr : Hid (chk2 s t = chk s) := by rw [Hid, chk2, if_neg h]
    have h' : (chk s != 0) = true := by simpa using h
    clear h
    go_enter Try.func109, Try.ntmps109
    go_wp2_with fail
    refine h1.out.mono ?_
    rintro e w' ⟨rfl, rfl⟩
    clear h1 h2
    go_wp2_with fail
    go_ret
    exact ⟨ret_int hr.out.symm, rfl⟩

/-- Check, and is there such a place? -/
def plc (t : List Int) (k : Int) : Int := if chk t = 0 then (if 0 ≤ k ∧ k < t.length then 0 else 3) else chk t

theorem placed_calls (t : List Int) (v : Value) (k : Int) (w : World) (hv : IsInts Any w v t) :
    Calls Try.prog 113 #[v, .int .i64 k] w fun e w' => e = .returned (.int .i64 (plc t k)) ∧ w = w' := by
  have h1 := Lib.hid (Check_calls t v w hv)
  obtain ⟨a, c, rfl⟩ := hv.isSlice
  clear hv
  by_cases h : chk t = 0
  · by_cases hk : k < 0
    · have hr : Hid (plc t k = 3) := by rw [Hid, plc, if_pos h, if_neg (by omega)]
      go_enter Try.func113, Try.ntmps113
      go_wp2_with fail
      refine h1.out.mono ?_
      rintro e w' ⟨rfl, rfl⟩
      clear h1
      go_wp2_with fail
      go_ret
      exact ⟨ret_int hr.out.symm, rfl⟩
    · by_cases hk2 : k < t.length
      · have hr : Hid (plc t k = 0) := by rw [Hid, plc, if_pos h, if_pos (by omega)]
        go_enter Try.func113, Try.ntmps113
        go_wp2_with fail
        refine h1.out.mono ?_
        rintro e w' ⟨rfl, rfl⟩
        clear h1
        go_wp2_with fail
        go_ret
        exact ⟨ret_int hr.out.symm, rfl⟩
      · have hr : Hid (plc t k = 3) := by rw [Hid, plc, if_pos h, if_neg (by omega)]
        go_enter Try.func113, Try.ntmps113
        go_wp2_with fail
        refine h1.out.mono ?_
        rintro e w' ⟨rfl, rfl⟩
        clear h1
        go_wp2_with fail
        go_ret
        exact ⟨ret_int hr.out.symm, rfl⟩
  · have hr : Hid (plc t k = chk t) := by rw [Hid, plc, if_neg h]
    have h' : (chk t != 0) = true := by simpa using h
    clear h
    go_enter Try.func113, Try.ntmps113
    go_wp2_with fail
    refine h1.out.mono ?_
    rintro e w' ⟨rfl, rfl⟩
    clear h1
    go_wp2_with fail
    go_ret
    exact ⟨ret_int hr.out.symm, rfl⟩

theorem PlaceError_calls (t : List Int) (v : Value) (k : Int) (w : World) (hv : IsInts Any w v t) :
    Calls Try.prog 118 #[v, .int .i64 k] w fun e w' => e = .returned (.int .i64 (plc t k)) ∧ w = w' := by
  have h1 := Lib.hid (TermError_calls t v w hv)
  have hlen := hv.1
  obtain ⟨a, c, rfl⟩ := hv.isSlice
  clear hv
  by_cases h : chk t = 0
  · cases hb : (decide (0 ≤ k) && decide (k ≤ (t.length : Int) - 1))
    · have hr : Hid (plc t k = 3) := by rw [Hid, plc, if_pos h, if_neg (by simp at hb; omega)]
      have hw := within_calls k 0 ((t.length : Int) - 1) w
      rw [hb] at hw
      have hW := Lib.hid hw
      clear hw hb
      go_enter Try.func118, Try.ntmps118
      go_wp2_with fail
      refine h1.out.mono ?_
      rintro e w' ⟨rfl, rfl⟩
      clear h1
      go_wp2_with (go_at_call 122; refine hW.out.mono ?_; rintro e w' ⟨rfl, rfl⟩)
      go_ret
      exact ⟨ret_int hr.out.symm, rfl⟩
    · have hr : Hid (plc t k = 0) := by rw [Hid, plc, if_pos h, if_pos (by simp at hb; omega)]
      have hw := within_calls k 0 ((t.length : Int) - 1) w
      rw [hb] at hw
      have hW := Lib.hid hw
      clear hw hb
      go_enter Try.func118, Try.ntmps118
      go_wp2_with fail
      refine h1.out.mono ?_
      rintro e w' ⟨rfl, rfl⟩
      clear h1
      go_wp2_with (go_at_call 122; refine hW.out.mono ?_; rintro e w' ⟨rfl, rfl⟩)
      go_ret
      exact ⟨ret_int hr.out.symm, rfl⟩
  · have hr : Hid (plc t k = chk t) := by rw [Hid, plc, if_neg h]
    have h' : (chk t != 0) = true := by simpa using h
    clear h
    go_enter Try.func118, Try.ntmps118
    go_wp2_with fail
    refine h1.out.mono ?_
    rintro e w' ⟨rfl, rfl⟩
    clear h1
    go_wp2_with fail
    go_ret
    exact ⟨ret_int hr.out.symm, rfl⟩

/-- The term that begins at k, in the same memory. -/
theorem At_calls (S : Blk) (t : List Int) (hs : Small t) (v : Value) (k n : Nat) (w : World) (hv : IsInts S w v t) (hk : skp t k = n) (hkn : k < n) (hn : n ≤ t.length) :
    Calls Try.prog 117 #[v, .int .i64 k] w fun e w' => ∃ v', e = .returned v' ∧ IsInts S w v' ((t.drop k).take (n - k)) ∧ w = w' := by
  have h1 := Lib.hid (Skip_calls t hs v w hv.any t.length k (by omega))
  have h2 : Hid (IsInts S w v t) := hv
  obtain ⟨hlen, ⟨rfl, -⟩ | ⟨hne, b, o, c, rfl, hcap, hS, hlt, hc⟩⟩ := hv
  · simp at hn; omega
  have hfin : Hid (IsInts S w (.slice (some ⟨b, o + k, none⟩) (n - k) (n - k)) ((t.drop k).take (n - k))) := by
    have hl : ((t.drop k).take (n - k)).length = n - k := by simp; omega
    refine ⟨by omega, .inr ⟨fun h => by rw [h] at hl; simp at hl; omega, b, o + k, n - k, by rw [hl], by omega, hS, hlt, fun j hj => ?_⟩⟩
    rw [nth_take (by omega), nth_drop, Nat.add_assoc]
    exact hc (k + j) (by omega)
  clear hc hs h2
  rw [hk] at h1
  clear hk hne
  go_enter Try.func117, Try.ntmps117
  go_wp2_with fail
  refine h1.out.mono ?_
  rintro e w' ⟨rfl, rfl⟩
  clear h1
  go_wp2_with fail
  go_ret
  exact ⟨_, rfl, hfin.out, rfl⟩

end Go.Proofs.Ytepddehodmljeaa
