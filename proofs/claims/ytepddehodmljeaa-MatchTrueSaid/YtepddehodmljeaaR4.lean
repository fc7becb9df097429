/- Walks: haspref.EndOf, PartOf, PutOf. -/
import Derived.Test.YtepddehodmljeaaR3
namespace Go.Proofs.Ytepddehodmljeaa
open Go.RowKit Go.Maps

theorem EndOf_calls (t : List Int) (v : Value) (k : Int) (w : World) (hv : IsInts Any w v t) :
    Calls Try.prog 53 #[v, .int .i64 k] w fun e w' => e = .returned (.tuple #[.int .i64 (endN t k), .int .i64 (plc t k)]) ∧ Below w.heap.size w w' := by
  have h1 := Lib.hid (PlaceError_calls t v k w hv)
  by_cases h : plc t k = 0
  · obtain ⟨h2, h3, h4⟩ := plc_zero h
    obtain ⟨n, rfl⟩ : ∃ n : Nat, k = n := ⟨k.toNat, by omega⟩
    have hE := Lib.hid (endOf_calls t h2 v n (by omega) w hv)
    have hr : Hid (endN t n = (enT t n : Nat)) := by rw [Hid, endN, if_pos h]; rfl
    have hh := Lib.hid h
    clear hv h h2 h3 h4
    go_enter Try.func53, Try.ntmps53
    go_wp2_with fail
    refine h1.out.mono ?_
    rintro e w' ⟨rfl, rfl⟩
    rw [hh.out]
    go_wp2_with fail
    refine hE.out.mono ?_
    rintro e w1 ⟨rfl, hB⟩
    go_wp2_with fail
    go_ret2
    exact ⟨by rw [hr.out, hh.out]; rfl, hB⟩
  · have hr : Hid (endN t k = 0) := by rw [Hid, endN, if_neg h]
    have h' : (plc t k != 0) = true := by simpa using h
    clear hv h
    go_enter Try.func53, Try.ntmps53
    go_wp2_with fail
    refine h1.out.mono ?_
    rintro e w' ⟨rfl, rfl⟩
    clear h1
    go_wp2_with fail
    go_ret2
    exact ⟨by rw [hr.out]; rfl, .refl _ _⟩

theorem PartOf_calls (t : List Int) (v : Value) (k : Int) (w : World) (hv : IsInts Any w v t) :
    Calls Try.prog 54 #[v, .int .i64 k] w fun e w' => ∃ x, e = .returned (.tuple #[x, .int .i64 (plc t k)]) ∧ IsInts (Fr w.heap.size) w' x (partT t k) ∧ Below w.heap.size w w' := by
  have h1 := Lib.hid (PlaceError_calls t v k w hv)
  by_cases h : plc t k = 0
  · obtain ⟨h2, h3, h4⟩ := plc_zero h
    obtain ⟨n, rfl⟩ : ∃ n : Nat, k = n := ⟨k.toNat, by omega⟩
    have hE := Lib.hid (partOf_calls t h2 v n (by omega) w hv)
    have hr : Hid (partT t n = paT t n) := by rw [Hid, partT, if_pos h]; rfl
    have hh := Lib.hid h
    clear hv h h2 h3 h4
    go_enter Try.func54, Try.ntmps54
    go_wp2_with fail
    refine h1.out.mono ?_
    rintro e w' ⟨rfl, rfl⟩
    rw [hh.out]
    go_wp2_with fail
    refine hE.out.mono ?_
    rintro e w1 ⟨x, rfl, hx, hB⟩
    go_wp2_with fail
    go_ret2
    exact ⟨x, by rw [hh.out]; rfl, by rw [hr.out]; exact hx, hB⟩
  · have hr : Hid (partT t k = []) := by rw [Hid, partT, if_neg h]
    have h' : (plc t k != 0) = true := by simpa using h
    clear hv h
    go_enter Try.func54, Try.ntmps54
    go_wp2_with fail
    refine h1.out.mono ?_
    rintro e w' ⟨rfl, rfl⟩
    clear h1
    go_wp2_with fail
    go_ret2
    exact ⟨_, rfl, by rw [hr.out]; exact .nil _ _, .refl _ _⟩

theorem putE_t {t u : List Int} {k : Int} (h : chk t ≠ 0) : putE t k u = chk t ∧ putT t k u = [] := by
  have h1 : chk2 t u = chk t := by rw [chk2, if_neg h]
  have h2 : putE t k u = chk t := by rw [putE, h1, if_pos h]
  exact ⟨h2, by rw [putT, h2, if_neg h]⟩
theorem putE_u {t u : List Int} {k : Int} (ht : chk t = 0) (h : chk u ≠ 0) : putE t k u = chk u ∧ putT t k u = [] := by
  have h1 : chk2 t u = chk u := by rw [chk2, if_pos ht]
  have h2 : putE t k u = chk u := by rw [putE, h1, if_pos h]
  exact ⟨h2, by rw [putT, h2, if_neg h]⟩
theorem putE_k {t u : List Int} {k : Int} (ht : chk t = 0) (hu : chk u = 0) (h : ¬ (0 ≤ k ∧ k < t.length)) : putE t k u = 3 ∧ putT t k u = [] := by
  have h1 : chk2 t u = 0 := by rw [chk2, if_pos ht, hu]
  have h3 : plc t k = 3 := by rw [plc, if_pos ht, if_neg h]
  have h2 : putE t k u = 3 := by rw [putE, h1, h3]; simp
  exact ⟨h2, by rw [putT, h2]; simp⟩
theorem putE_big {t u : List Int} {k : Nat} (ht : chk t = 0) (hu : chk u = 0) (h : k < t.length) (hb : 30 < (puT t k u).length) : putE t k u = 2 ∧ putT t k u = [] := by
  have h1 : chk2 t u = 0 := by rw [chk2, if_pos ht, hu]
  have h3 : plc t k = 0 := by rw [plc, if_pos ht, if_pos (by omega)]
  have h2 : putE t k u = 2 := by rw [putE, h1, h3, Int.toNat_natCast, if_pos hb]; simp
  exact ⟨h2, by rw [putT, h2]; simp⟩
theorem putE_ok {t u : List Int} {k : Nat} (ht : chk t = 0) (hu : chk u = 0) (h : k < t.length) (hb : (puT t k u).length ≤ 30) : putE t k u = 0 ∧ putT t k u = puT t k u := by
  have h1 : chk2 t u = 0 := by rw [chk2, if_pos ht, hu]
  have h3 : plc t k = 0 := by rw [plc, if_pos ht, if_pos (by omega)]
  have h2 : putE t k u = 0 := by rw [putE, h1, h3, Int.toNat_natCast]; simp; exact hb
  exact ⟨h2, by rw [putT, h2, if_pos rfl, Int.toNat_natCast]⟩

set_option maxRecDepth 100000 in
theorem PutOf_calls (t u : List Int) (v x : Value) (k : Int) (w : World) (hv : IsInts Any w v t) (hx : IsInts Any w x u) :
    Calls Try.prog 59 #[v, .int .i64 k, x] w fun e w' => ∃ y, e = .returned (.tuple #[y, .int .i64 (putE t k u)]) ∧ IsInts (Fr w.heap.size) w' y (putT t k u) ∧ Below w.heap.size w w' := by
  have h1 := Lib.hid (TermError_calls t v w hv)
  have h2 := Lib.hid (TermError_calls u x w hx)
  by_cases ht : chk t = 0
  · by_cases hu : chk u = 0
    · have hln := len_of_chk ht
      have hlu := len_of_chk hu
      cases hb : (decide (0 ≤ k) && decide (k ≤ (t.length : Int) - 1))
      · have hr := Lib.hid (putE_k (k := k) ht hu (by simp at hb; omega))
        have hW := within_calls k 0 ((t.length : Int) - 1) w
        rw [hb] at hW
        have HW := Lib.hid hW
        have hh := Lib.hid (And.intro ht hu)
        obtain ⟨va, vc, rfl⟩ := hv.isSlice
        clear hW hb ht hu hv hx
        go_enter Try.func59, Try.ntmps59
        go_wp2_with fail
        refine h1.out.mono ?_
        rintro e w' ⟨rfl, rfl⟩
        rw [hh.out.1]
        go_wp2_with fail
        refine h2.out.mono ?_
        rintro e w' ⟨rfl, rfl⟩
        rw [hh.out.2]
        go_wp2_with (go_at_call 122; refine HW.out.mono ?_; rintro e w' ⟨rfl, rfl⟩)
        go_ret2
        exact ⟨.slice none 0 0, by rw [hr.out.1]; rfl, by rw [hr.out.2]; exact .nil _ _, .refl _ _⟩
      · have hk : 0 ≤ k ∧ k < t.length := by simp at hb; omega
        obtain ⟨n, rfl⟩ : ∃ n : Nat, k = n := ⟨k.toNat, by omega⟩
        have hW := within_calls n 0 ((t.length : Int) - 1) w
        rw [hb] at hW
        have HW := Lib.hid hW
        have hh := Lib.hid (And.intro ht hu)
        have hP := Lib.hid (put_calls t u ht (by omega) v x n (by omega) w hv hx)
        obtain ⟨va, vc, rfl⟩ := hv.isSlice
        by_cases hbig : 30 < (puT t n u).length
        · have hr := Lib.hid (putE_big ht hu (by omega : n < t.length) hbig)
          have hbi : 30 < ((puT t n u).length : Int) := by omega
          clear hW hb ht hu hv hx hk hbig
          go_enter Try.func59, Try.ntmps59
          go_wp2_with fail
          refine h1.out.mono ?_
          rintro e w' ⟨rfl, rfl⟩
          rw [hh.out.1]
          go_wp2_with fail
          refine h2.out.mono ?_
          rintro e w' ⟨rfl, rfl⟩
          rw [hh.out.2]
          go_wp2_with (go_at_call 122; refine HW.out.mono ?_; rintro e w' ⟨rfl, rfl⟩)
          refine hP.out.mono ?_
          rintro e w1 ⟨y, rfl, hy, hB⟩
          obtain ⟨ya, yc, rfl⟩ := hy.isSlice
          go_wp2_with fail
          go_ret2
          exact ⟨.slice none 0 0, by rw [hr.out.1]; rfl, by rw [hr.out.2]; exact .nil _ _, hB⟩
        · have hr := Lib.hid (putE_ok ht hu (by omega : n < t.length) (by omega))
          have hbi : ((puT t n u).length : Int) ≤ 30 := by omega
          clear hW hb ht hu hv hx hk hbig
          go_enter Try.func59, Try.ntmps59
          go_wp2_with fail
          refine h1.out.mono ?_
          rintro e w' ⟨rfl, rfl⟩
          rw [hh.out.1]
          go_wp2_with fail
          refine h2.out.mono ?_
          rintro e w' ⟨rfl, rfl⟩
          rw [hh.out.2]
          go_wp2_with (go_at_call 122; refine HW.out.mono ?_; rintro e w' ⟨rfl, rfl⟩)
          refine hP.out.mono ?_
          rintro e w1 ⟨y, rfl, hy, hB⟩
          obtain ⟨ya, yc, rfl⟩ := hy.isSlice
          have hY := Lib.hid hy
          clear hy
          go_wp2_with fail
          go_ret2
          exact ⟨_, by rw [hr.out.1]; rfl, by rw [hr.out.2]; exact hY.out, hB⟩
    · have hr := Lib.hid (putE_u (k := k) ht hu)
      have h' : (chk u != 0) = true := by simpa using hu
      have hh := Lib.hid ht
      clear hv hx ht hu
      go_enter Try.func59, Try.ntmps59
      go_wp2_with fail
      refine h1.out.mono ?_
      rintro e w' ⟨rfl, rfl⟩
      rw [hh.out]
      go_wp2_with fail
      refine h2.out.mono ?_
      rintro e w' ⟨rfl, rfl⟩
      clear h1 h2
      go_wp2_with fail
      go_ret2
      exact ⟨.slice none 0 0, by rw [hr.out.1]; rfl, by rw [hr.out.2]; exact .nil _ _, .refl _ _⟩
  · have hr := Lib.hid (putE_t (u := u) (k := k) ht)
    have h' : (chk t != 0) = true := by simpa using ht
    clear hv hx ht h2
    go_enter Try.func59, Try.ntmps59
    go_wp2_with fail
    refine h1.out.mono ?_
    rintro e w' ⟨rfl, rfl⟩
    clear h1
    go_wp2_with fail
    go_ret2
    exact ⟨.slice none 0 0, by rw [hr.out.1]; rfl, by rw [hr.out.2]; exact .nil _ _, .refl _ _⟩

end Go.Proofs.Ytepddehodmljeaa
