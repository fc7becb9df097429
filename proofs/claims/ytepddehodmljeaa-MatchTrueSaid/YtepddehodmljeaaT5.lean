/- Walks: term.Put. -/
import Derived.Test.YtepddehodmljeaaT4
namespace Go.Proofs.Ytepddehodmljeaa
open Go.RowKit Go.Maps

/-- What Put answers. -/
def putE (t : List Int) (k : Int) (u : List Int) : Int := if chk2 t u ≠ 0 then chk2 t u else if plc t k ≠ 0 then plc t k else if 30 < (puT t k.toNat u).length then 2 else 0
def putT (t : List Int) (k : Int) (u : List Int) : List Int := if putE t k u = 0 then puT t k.toNat u else []

set_option maxRecDepth 100000 in
set_option maxHeartbeats 1000000 in
theorem Put_calls (t u : List Int) (v x : Value) (k : Int) (w : World) (hv : IsInts Any w v t) (hx : IsInts Any w x u) :
    Calls Try.prog 58 #[v, .int .i64 k, x] w fun e w' => ∃ y, e = .returned (.tuple #[y, .int .i64 (putE t k u)]) ∧ IsInts (Fr w.heap.size) w' y (putT t k u) ∧ Below w.heap.size w w' := by
  have h1 := Lib.hid (Both_calls t u v x w hv hx)
  have h2 := Lib.hid (placed_calls t v k w hv)
  by_cases hc : chk2 t u = 0
  · by_cases hp : plc t k = 0
    · obtain ⟨ht, hk0, hk⟩ := plc_zero hp
      obtain ⟨n, rfl⟩ : ∃ n : Nat, k = n := ⟨k.toNat, by omega⟩
      have hu : chk u = 0 := by rw [chk2, if_pos ht] at hc; exact hc
      have h3 := Lib.hid (Laid_calls t u v x n w ht hu (by omega) hv hx)
      have hc' := Lib.hid hc
      have hp' := Lib.hid hp
      by_cases hb : 30 < (puT t n u).length
      · have hE : putE t n u = 2 := by rw [putE, if_neg (by simpa using hc), if_neg (by simpa using hp), Int.toNat_natCast, if_pos hb]
        have hT : putT t n u = [] := by rw [putT, hE]; rfl
        rw [hE, hT]
        have hB := Lib.hid hb
        clear hv hx hc hp ht hk0 hk hu hb hE hT
        go_enter Try.func58, Try.ntmps58
        go_wp2_with fail
        refine h1.out.mono ?_
        rintro e w' ⟨rfl, rfl⟩
        rw [hc'.out]
        go_wp2_with fail
        refine h2.out.mono ?_
        rintro e w' ⟨rfl, rfl⟩
        rw [hp'.out]
        go_wp2_with fail
        refine h3.out.mono ?_
        rintro e w1 ⟨y, rfl, hy, hB1⟩
        go_wp2_with fail
        refine (Fits_big _ _ _ hy.any hB.out).mono ?_
        rintro e w' ⟨rfl, rfl⟩
        go_wp2_with fail
        go_ret2
        exact ⟨_, rfl, .nil _ _, hB1⟩
      · have hE : putE t n u = 0 := by rw [putE, if_neg (by simpa using hc), if_neg (by simpa using hp), Int.toNat_natCast, if_neg hb]
        have hT : putT t n u = puT t n u := by rw [putT, hE, if_pos rfl, Int.toNat_natCast]
        rw [hE, hT]
        have hB : Hid ((puT t n u).length ≤ 30) := by show _ ≤ _; omega
        clear hv hx hc hp ht hk0 hk hu hb hE hT
        go_enter Try.func58, Try.ntmps58
        go_wp2_with fail
        refine h1.out.mono ?_
        rintro e w' ⟨rfl, rfl⟩
        rw [hc'.out]
        go_wp2_with fail
        refine h2.out.mono ?_
        rintro e w' ⟨rfl, rfl⟩
        rw [hp'.out]
        go_wp2_with fail
        refine h3.out.mono ?_
        rintro e w1 ⟨y, rfl, hy, hB1⟩
        go_wp2_with fail
        refine (Fits_ok _ _ _ hy.any hB.out).mono ?_
        rintro e w' ⟨rfl, rfl⟩
        go_wp2_with fail
        go_ret2
        exact ⟨_, rfl, hy, hB1⟩
    · have hE : putE t k u = plc t k := by rw [putE, if_neg (by simpa using hc), if_pos hp]
      have hT : putT t k u = [] := by rw [putT, hE, if_neg hp]
      have h' : (plc t k != 0) = true := by simpa using hp
      have hc' := Lib.hid hc
      rw [hE, hT]
      clear hv hx hc hp hE hT
      go_enter Try.func58, Try.ntmps58
      go_wp2_with fail
      refine h1.out.mono ?_
      rintro e w' ⟨rfl, rfl⟩
      rw [hc'.out]
      go_wp2_with fail
      refine h2.out.mono ?_
      rintro e w' ⟨rfl, rfl⟩
      clear h1 h2
      go_wp2_with fail
      go_ret2
      exact ⟨_, rfl, .nil _ _, .refl _ _⟩
  · have hE : putE t k u = chk2 t u := by rw [putE, if_pos hc]
    have hT : putT t k u = [] := by rw [putT, hE, if_neg hc]
    have h' : (chk2 t u != 0) = true := by simpa using hc
    rw [hE, hT]
    clear hv hx hc hE hT h2
    go_enter Try.func58, Try.ntmps58
    go_wp2_with fail
    refine h1.out.mono ?_
    rintro e w' ⟨rfl, rfl⟩
    clear h1
    go_wp2_with fail
    go_ret2
    exact ⟨_, rfl, .nil _ _, .refl _ _⟩

end Go.Proofs.Ytepddehodmljeaa
