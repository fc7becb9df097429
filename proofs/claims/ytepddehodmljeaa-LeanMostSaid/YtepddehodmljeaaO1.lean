/- Walks: order: ranks, places in two terms. -/
import Derived.Test.YtepddehodmljeaaG6
import Derived.Test.YtepddehodmljeaaPo
import Derived.DeepKeys4
import Derived.WideKeyPair
import Derived.Maps.Keyed
import Derived.Maps.AppendAt
namespace Go.Proofs.Ytepddehodmljeaa
open Go.RowKit Go.Maps

theorem IndexR_calls (t : List Int) (n : Int) (v : Value) (w : World) (hv : IsInts Any w v t) :
    Calls Try.prog 180 #[v, .int .i64 n] w fun e w' => (∃ i : Int, e = .returned (.int .i64 i) ∧ decide (0 ≤ i) = hasB t n) ∧ w = w' := by
  obtain ⟨hlen, ⟨rfl, a, c, rfl, -⟩ | ⟨hne, b, o, c, rfl, -, -, hlt, hc⟩⟩ := hv
  · go_enter Try.func180, Try.ntmps180
    go_wp2_with fail
    refine wp_loop_rounds 1 ?_
    rw [rounds_succ]
    go_wp2_with fail
    go_ret
    exact ⟨⟨_, rfl, rfl⟩, rfl⟩
  · go_enter Try.func180, Try.ntmps180
    go_wp2_with fail
    go_loop [8] (fun i => ∃ k : Nat, k ≤ t.length ∧ i = .int .i64 k ∧ ∀ j, j < k → nth t j ≠ n) (fun i => t.length - (intOf i).toNat)
    case atStart => exact ⟨0, Nat.zero_le _, rfl, fun _ h => by omega⟩
    case round =>
      obtain ⟨k, hk, rfl, hp⟩ := hrel
      have hP := Lib.hid hp
      clear hp
      by_cases hlt' : k < t.length
      · have hcell := hc k hlt'
        have hC := Lib.hid hc
        clear hc
        by_cases hx : nth t k = n
        · have hr : Hid (hasB t n = true) := hasB_yes (by rw [← hx]; exact nth_mem hlt')
          have hx' : (n == nth t k) = true := by simpa using hx.symm
          clear hx
          go_wp2_with fail
          go_ret
          exact ⟨⟨_, rfl, by rw [hr.out]; simp⟩, rfl⟩
        · have hx' : (n == nth t k) = false := by simpa using fun h => hx h.symm
          go_wp2_with fail
          go_round
          case rel =>
            refine ⟨k + 1, by omega, by go_num, fun j hj => ?_⟩
            by_cases e : j = k
            · rw [e]; exact hx
            · exact hP.out j (by omega)
          case measure => simp [intOf]; omega
      · have hkl : k = t.length := by omega
        subst hkl
        have hr : Hid (hasB t n = false) := by
          refine hasB_no fun hx => ?_
          obtain ⟨j, hj, e⟩ := List.getElem_of_mem hx
          have := hP.out j hj
          rw [nth_eq hj] at this
          exact this e
        clear hc
        go_wp2_with fail
        go_ret
        exact ⟨⟨_, rfl, by rw [hr.out]; rfl⟩, rfl⟩

theorem ContainsR_calls (t : List Int) (n : Int) (v : Value) (w : World) (hv : IsInts Any w v t) :
    Calls Try.prog 137 #[v, .int .i64 n] w fun e w' => e = .returned (.bool (hasB t n)) ∧ w = w' := by
  have h := Lib.hid (IndexR_calls t n v w hv)
  clear hv
  go_enter Try.func137, Try.ntmps137
  go_wp2_with fail
  refine h.out.mono ?_
  rintro e w' ⟨⟨i, rfl, hi⟩, rfl⟩
  have hI := Lib.hid hi
  clear hi h
  go_wp2_with fail
  go_ret
  exact ⟨ret_bool hI.out, rfl⟩


theorem rank_yes {r : List Int} (hl : r.length = 6) (h : ∀ j : Nat, j < 6 → hasB r j = true) : rankE r = 0 := by
  rw [rankE, if_pos hl, if_pos]
  exact List.all_eq_true.2 fun n hn => h n (List.mem_range.1 hn)
theorem rank_no {r : List Int} (hl : r.length = 6) {j : Nat} (hj : j < 6) (h : hasB r j = false) : rankE r = 3 := by
  rw [rankE, if_pos hl, if_neg]
  intro h2
  have : hasB r j = true := List.all_eq_true.1 h2 j (List.mem_range.2 hj)
  rw [h] at this; cases this

theorem RankCheck_calls (r : List Int) (v : Value) (w : World) (hv : IsInts Any w v r) :
    Calls Try.prog 70 #[v] w fun e w' => e = .returned (.int .i64 (rankE r)) ∧ w = w' := by
  have hC := Lib.hid fun n => ContainsR_calls r n v w hv
  obtain ⟨a, c, rfl⟩ := hv.isSlice
  by_cases hl : r.length = 6
  · have hL := Lib.hid hl
    rw [hl] at hC ⊢
    clear hv hl
    go_enter Try.func70, Try.ntmps70
    go_wp2_with fail
    go_loop [7] (fun i => ∃ k : Nat, k ≤ 6 ∧ i = .int .i64 k ∧ Hid (∀ j : Nat, j < k → hasB r j = true)) (fun i => 6 - (intOf i).toNat)
    case atStart => exact ⟨0, Nat.zero_le _, rfl, fun _ h => by omega⟩
    case round =>
      obtain ⟨k, hk, rfl, hp⟩ := hrel
      by_cases hlt : k < 6
      · have hkk : (k : Int) < 6 := by omega
        cases hb : hasB r k
        · have hE := Lib.hid (rank_no hL.out hlt hb)
          have hc := Lib.hid (hC.out k)
          have hbb := Lib.hid hb
          clear hb
          go_wp2_with fail
          refine hc.out.mono ?_
          rintro e w' ⟨rfl, rfl⟩
          rw [hbb.out]
          go_wp2_with fail
          go_ret
          exact ⟨ret_int hE.out.symm, rfl⟩
        · have hc := Lib.hid (hC.out k)
          have hbb := Lib.hid hb
          clear hb
          go_wp2_with fail
          refine hc.out.mono ?_
          rintro e w' ⟨rfl, rfl⟩
          rw [hbb.out]
          go_wp2_with fail
          go_round
          case rel =>
            refine ⟨k + 1, by omega, by go_num, fun j hj => ?_⟩
            by_cases e : j = k
            · rw [e]; exact hbb.out
            · exact hp.out j (by omega)
          case measure => simp [intOf]; omega
      · obtain rfl : k = 6 := by omega
        have hE := Lib.hid (rank_yes hL.out hp.out)
        go_wp2_with fail
        go_ret
        exact ⟨ret_int hE.out.symm, rfl⟩
  · have hE : Hid (rankE r = 1) := by rw [Hid, rankE, if_neg hl]
    have h' : ((r.length : Int) != 6) = true := by simp; omega
    clear hv hC hl
    go_enter Try.func70, Try.ntmps70
    go_wp2_with fail
    go_ret
    exact ⟨ret_int hE.out.symm, rfl⟩

end Go.Proofs.Ytepddehodmljeaa
