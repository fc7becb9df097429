/- Walks: haspref.OverOf. -/
import Derived.Test.YtepddehodmljeaaM6
import Derived.Test.YtepddehodmljeaaR5
namespace Go.Proofs.Ytepddehodmljeaa
open Go.RowKit Go.Maps

/-- The places at which p fits, the first k looked at. -/
def ovr (t p : List Int) : Nat → List Int
  | 0 => []
  | k + 1 => ovr t p k ++ (if (fitL p (paT t k)).isSome then [(k : Int)] else [])
theorem ovr_len (t p : List Int) : ∀ k, (ovr t p k).length ≤ k
  | 0 => by simp [ovr]
  | k + 1 => by
    have := ovr_len t p k
    rw [ovr, List.length_append]
    split <;> simp <;> omega
def overT (t p : List Int) : List Int := if chk2 t p = 0 then ovr t p t.length else []

set_option maxRecDepth 100000 in
set_option maxHeartbeats 1000000 in
theorem OverOf_calls (t p : List Int) (u v : Value) (w : World) (hu : IsInts Any w u t) (hv : IsInts Any w v p) :
    Calls Try.prog 50 #[u, v] w fun e w' => ∃ x, e = .returned (.tuple #[x, .int .i64 (chk2 t p)]) ∧ IsInts (Fr w.heap.size) w' x (overT t p) ∧ Below w.heap.size w w' := by
  have h1 := Lib.hid (twoErrors_calls t p u v w hu hv)
  by_cases h : chk2 t p = 0
  · obtain ⟨i3, hi, hz, hsz, hby⟩ := info_parts Try.inf3
    have hr : Hid (overT t p = ovr t p t.length) := by rw [Hid, overT, if_pos h]
    obtain ⟨ht, hp⟩ := chk2_zero h
    have hl := len_of_chk ht
    have hP := Lib.hid fun k (hk : k < t.length) W (hb : Below w.heap.size w W) => partOf_calls t ht u k hk W (hu.below hb)
    have hF := Lib.hid fun k (hk : k < t.length) W x (hb : Below w.heap.size w W) (hx : IsInts Any W x (paT t k)) => fitted_calls p (paT t k) hp (chk_paT ht hk) v x W (hv.below hb) hx
    have hh := Lib.hid h
    obtain ⟨ua, uc, rfl⟩ := hu.isSlice
    obtain ⟨va, vc, rfl⟩ := hv.isSlice
    clear hu hv h ht hp
    go_enter Try.func50, Try.ntmps50
    go_wp2_with fail
    refine h1.out.mono ?_
    rintro e w' ⟨rfl, rfl⟩
    rw [hh.out]
    clear h1
    go_wp2_with fail
    go_loopw [7, 8] (fun out i wr => ∃ k : Nat, k ≤ t.length ∧ i = .int .i64 k ∧ Hid (wr.ownsRow w.heap.size 3 1 out (ovr t p k).length ((ovr t p k).map (Value.int .i64)) ∧ Below w.heap.size w wr)) (fun _ i _ => t.length - (intOf i).toNat)
    case atStart => exact ⟨0, by omega, rfl, World.ownsRow_nil _ _ _ _, .refl _ _⟩
    case round =>
      obtain ⟨k, hk, rfl, hR⟩ := hrel
      by_cases hlt : k < t.length
      · have hik : (k : Int) < t.length := by omega
        go_wp2_with fail
        refine (hP.out k hlt wr hR.out.2).mono ?_
        rintro e w1 ⟨x, rfl, hx, hB1⟩
        have hf := Lib.hid (hF.out k hlt w1 x (ext_trans hR.out.2 hB1) hx.any)
        have hB2 := Lib.hid hB1
        clear hx hB1
        cases hs : (fitL p (paT t k)).isSome
        · have hN : Hid (ovr t p (k + 1) = ovr t p k) := by rw [Hid, ovr, hs]; simp
          rw [hs] at hf
          clear hs
          go_wp2_with fail
          refine hf.out.mono ?_
          rintro e w2 ⟨y, rfl, -, hB3⟩
          go_wp2_with fail
          go_roundw
          case rel =>
            have hB4 := ext_trans hB2.out hB3
            exact ⟨k + 1, by omega, by go_num, by rw [Hid, hN.out]; exact ⟨ownsRow_keep hR.out.1 fun j hj => hB4.block j (hR.out.1.lt j hj).2, ext_trans hR.out.2 hB4⟩⟩
          case measure => simp [intOf]; omega
        · have hN : Hid (ovr t p (k + 1) = ovr t p k ++ [(k : Int)]) := by rw [Hid, ovr, hs]; simp
          rw [hs] at hf
          clear hs
          go_wp2_with fail
          refine hf.out.mono ?_
          rintro e w2 ⟨y, rfl, -, hB3⟩
          have hB4 := Lib.hid (ext_trans hB2.out hB3)
          have hO := Lib.hid ((ownsRow_keep hR.out.1 fun j hj => hB4.out.block j (hR.out.1.lt j hj).2).alloc (.cells #[.int .i64 (k : Int)] 3))
          have hX := Lib.hid (ints_one w2 k 3).any
          have hB5 := Lib.hid (ext_trans hR.out.2 hB4.out)
          have hz5 := hB5.out.size
          have hol := ovr_len t p k
          clear hB3 hB2 hB4
          go_wp2_with (at_builtin; refine app_ints _ _ 23 rfl rfl w.heap.size i3 Try.underlying23 hi hz hsz hby hO.out hX.out ?c1 ?c2 ?c3; rotate_left 2; intro v' w3 hown3 hb3 hg3 _)
          case c1 => simp; omega
          case c2 => simp; omega
          go_roundw
          case rel => exact ⟨k + 1, by omega, by go_num, by rw [Hid, hN.out]; exact ⟨hown3, (hB5.out.alloc hz5 _).trans hb3⟩⟩
          case measure => simp [intOf]; omega
      · obtain rfl : k = t.length := by omega
        have hol := ovr_len t p t.length
        have hO := Lib.hid hR.out.1
        go_wp2_with fail
        go_ret2
        exact ⟨_, by rw [hh.out]; rfl, by rw [hr.out]; exact ints_of_own hR.out.1 (by omega), hR.out.2⟩
  · have hr : Hid (overT t p = []) := by rw [Hid, overT, if_neg h]
    have h' : (chk2 t p != 0) = true := by simpa using h
    clear hu hv h
    go_enter Try.func50, Try.ntmps50
    go_wp2_with fail
    refine h1.out.mono ?_
    rintro e w' ⟨rfl, rfl⟩
    clear h1
    go_wp2_with fail
    go_ret2
    exact ⟨.slice none 0 0, rfl, by rw [hr.out]; exact .nil _ _, .refl _ _⟩

end Go.Proofs.Ytepddehodmljeaa
