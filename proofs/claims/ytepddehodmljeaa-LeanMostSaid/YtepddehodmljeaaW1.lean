/- Walks: haspref.partsAt, RankError. -/
import Derived.Test.YtepddehodmljeaaF5
namespace Go.Proofs.Ytepddehodmljeaa
open Go.RowKit Go.Maps

def atN (t : List Int) (k n : Nat) : Nat := if n = 0 then k + 1 else if n = 1 then enT t (k + 1) else enT t (enT t (k + 1))
theorem atN_next (t : List Int) (k : Nat) {n : Nat} (h : n < 2) : enT t (atN t k n) = atN t k (n + 1) := by
  rcases (by omega : n = 0 ∨ n = 1) with rfl | rfl <;> rfl
theorem atN_ps {t : List Int} {k n : Nat} (h : n < ar (nth t k)) : atN t k n = psN t k n := by
  have := ar_le (nth t k)
  rcases (by omega : n = 0 ∨ n = 1) with rfl | rfl <;> rfl

set_option maxRecDepth 100000 in
set_option maxHeartbeats 2000000 in
theorem partsAt_calls (t : List Int) (ht : chk t = 0) (v : Value) (k : Nat) (hk : k < t.length) (w : World) (hv : IsInts Any w v t) :
    Calls Try.prog 179 #[v, .int .i64 k] w fun e w' => ∃ x, e = .returned x ∧ IsInts (Fr w.heap.size) w' x (plI (psT t k)) ∧ Below w.heap.size w w' := by
  obtain ⟨i3, hi, hz, hsz, hby⟩ := info_parts Try.inf3
  obtain ⟨b, o, c, rfl⟩ := hv.cells (ne_of_chk ht)
  have HV := Lib.hid hv
  have hl := len_of_chk ht
  have hk30 : (k : Int) < 30 := by omega
  have hkk : (k : Int) < t.length := by omega
  have har := ar_le (nth t k)
  have hps := Lib.hid fun n (h : n < ar (nth t k)) => (ps_lt ht hk (psN_mem h)).1
  have hE := Lib.hid fun n (h : n < ar (nth t k)) W (hW : Below w.heap.size w W) => endOf_calls t ht (.slice (some ⟨b, o, none⟩) t.length c) (atN t k n) (by rw [atN_ps h]; exact (ps_lt ht hk (psN_mem h)).1) W (hv.below hW)
  have hat : (atN t k 0 : Int) = k + 1 := rfl
  clear hv ht
  go_enter Try.func179, Try.ntmps179
  go_wp2_with fail
  go_loopw [5, 6, 7] (fun sv av i wr => ∃ n : Nat, n ≤ ar (nth t k) ∧ i = .int .i64 n ∧ av = .int .i64 (atN t k n) ∧ Hid (wr.ownsRow w.heap.size 3 1 sv (plI ((psT t k).take n)).length ((plI ((psT t k).take n)).map (Value.int .i64)) ∧ Below w.heap.size w wr)) (fun _ _ i _ => ar (nth t k) - (intOf i).toNat)
  case atStart => exact ⟨0, Nat.zero_le _, rfl, by rw [hat], World.ownsRow_nil _ _ _ _, .refl _ _⟩
  case round =>
    obtain ⟨n, hn, rfl, rfl, hR⟩ := hrel
    have hcell := (HV.out.below hR.out.2).cell hk
    have hnn : (n : Int) ≤ 2 := by omega
    have hlen : (plI ((psT t k).take n)).length = n := by rw [plI_len, List.length_take, psT_len]; omega
    obtain ⟨oa, oc, hsv⟩ := (ints_of_own hR.out.1 (by omega)).isSlice
    rw [hlen] at hsv
    subst hsv
    by_cases hlt : n < ar (nth t k)
    · have hlt' : (n : Int) < (ar (nth t k) : Nat) := by omega
      have hX := Lib.hid (ints_one wr (atN t k n) 3).any
      have hO := Lib.hid (hR.out.1.alloc (.cells #[.int .i64 (atN t k n)] 3))
      have hEE := Lib.hid (hE.out n hlt)
      have hnx := Lib.hid (atN_next t k (n := n) (by omega))
      have hsn : Hid (plI ((psT t k).take n) ++ [((atN t k n : Nat) : Int)] = plI ((psT t k).take (n + 1))) := by rw [Hid, ← psT_take hlt, plI_snoc, atN_ps hlt]
      have hBw := hR.out.2.size
      generalize atN t k n = y at *
      go_wp2_with (first
        | (go_at_call 123; refine (rsize_calls _ _).mono ?_; rintro e w' ⟨rfl, rfl⟩)
        | (at_builtin; refine app_ints _ _ 23 rfl rfl w.heap.size i3 Try.underlying23 hi hz hsz hby hO.out hX.out ?c1 ?c2 ?c3; rotate_left 2; intro v' w2 hown2 hb2 hg2 _))
      case c1 => rw [hlen]; simp; omega
      case c2 => simp; omega
      have hB2 := Lib.hid ((ext_alloc hR.out.2 (.cells #[.int .i64 (y : Int)] 3)).trans hb2)
      rw [hsn.out] at hown2
      refine (hEE.out w2 hB2.out).mono ?_
      rintro e w3 ⟨rfl, hB3⟩
      rw [hnx.out]
      go_wp2_with fail
      go_roundw
      case rel => exact ⟨n + 1, by omega, by go_num, rfl, ownsRow_keep hown2 fun j hj => hB3.block j (hown2.lt j hj).2, ext_trans hB2.out hB3⟩
      case measure => simp [intOf]; omega
    · obtain rfl : n = ar (nth t k) := by omega
      go_wp2_with (go_at_call 123; refine (rsize_calls _ _).mono ?_; rintro e w' ⟨rfl, rfl⟩)
      go_ret
      rw [show (psT t k).take (ar (nth t k)) = psT t k by rw [← psT_len, List.take_length]] at hR
      exact ⟨_, rfl, ints_of_own hR.out.1 (by rw [plI_len, psT_len]; omega), hR.out.2⟩

/-- Is n among the first k ranks? -/
def hasK (r : List Int) (n : Int) : Nat → Bool
  | 0 => false
  | k + 1 => hasK r n k || nth r k == n
theorem hasK_all (r : List Int) (n : Int) : hasK r n r.length = decide (n ∈ r) := by
  have key : ∀ k, hasK r n k = true ↔ ∃ j, j < k ∧ nth r j = n := by
    intro k
    induction k with
    | zero => simp [hasK]
    | succ k ih =>
      rw [hasK, Bool.or_eq_true, ih]
      constructor
      · rintro (⟨j, h1, h2⟩ | h)
        · exact ⟨j, by omega, h2⟩
        · exact ⟨k, by omega, by simpa using h⟩
      · rintro ⟨j, h1, h2⟩
        by_cases e : j = k
        · subst e; exact .inr (by simpa using h2)
        · exact .inl ⟨j, by omega, h2⟩
  rw [Bool.eq_iff_iff, key, decide_eq_true_iff]
  constructor
  · rintro ⟨j, h1, h2⟩
    rw [← h2]; exact nth_mem h1
  · intro h
    obtain ⟨j, hj, e⟩ := List.getElem_of_mem h
    exact ⟨j, hj, by rw [nth_eq hj, e]⟩

set_option maxRecDepth 100000 in
set_option maxHeartbeats 2000000 in
theorem RankError_calls (r : List Int) (v : Value) (w : World) (hv : IsInts Any w v r) :
    Calls Try.prog 71 #[v] w fun e w' => e = .returned (.int .i64 (rankE r)) ∧ w = w' := by
  obtain ⟨a, c, rfl⟩ := hv.isSlice
  by_cases hl : r.length = 6
  · obtain ⟨b, o, c2, e⟩ := hv.cells (by intro h; rw [h] at hl; simp at hl)
    cases e
    have HV := Lib.hid hv
    have hR0 : Hid ((∀ n : Nat, n < 6 → (n : Int) ∈ r) → rankE r = 0) := fun h => by
      rw [rankE, if_pos hl, if_pos]
      exact List.all_eq_true.2 fun n hn => by simpa using h n (by simpa using hn)
    have hR3 : Hid (∀ n : Nat, n < 6 → (n : Int) ∉ r → rankE r = 3) := fun n hn h => by
      rw [rankE, if_pos hl, if_neg]
      intro h2
      exact h (by simpa using List.all_eq_true.1 h2 n (by simpa using hn))
    have hl' : (r.length : Int) = 6 := by omega
    have hll := Lib.hid hl
    clear hv hl
    generalize hE : rankE r = E at *
    clear hE
    go_enter Try.func71, Try.ntmps71
    go_wp2_with fail
    go_loopw [3] (fun i wr => ∃ n : Nat, n ≤ 6 ∧ i = .int .i64 n ∧ wr = w ∧ Hid (∀ m : Nat, m < n → (m : Int) ∈ r)) (fun i _ => 6 - (intOf i).toNat)
    case atStart => exact ⟨0, by omega, rfl, rfl, fun _ h => by omega⟩
    case round =>
      obtain ⟨n, hn, rfl, rfl, hIn⟩ := hrel
      by_cases hlt : n < 6
      · have hnn : (n : Int) < 6 := by omega
        go_wp2_with fail
        go_loopw [4, 5] (fun f i wq => ∃ k : Nat, k ≤ 6 ∧ i = .int .i64 k ∧ f = .bool (hasK r n k) ∧ wq = wr) (fun _ i _ => 6 - (intOf i).toNat)
        case atStart => exact ⟨0, by omega, rfl, rfl, rfl⟩
        case round =>
          obtain ⟨k, hk, rfl, rfl, rfl⟩ := hrel
          by_cases hlk : k < 6
          · have hkk : (k : Int) < r.length := by omega
            have hk6 : (k : Int) < 6 := by omega
            have hcell := HV.out.cell (j := k) (by have := hll.out; omega)
            have hs : Hid (hasK r n (k + 1) = (hasK r n k || nth r k == n)) := rfl
            generalize nth r k = y at *
            cases hf : hasK r n k
            · rw [hf] at hs
              clear hf
              go_wp2_with fail
              go_roundw
              case rel => exact ⟨k + 1, by omega, by go_num, by rw [hs.out]; rfl, trivial⟩
              case measure => simp [intOf]; omega
            · rw [hf] at hs
              clear hf
              go_wp2_with fail
              go_roundw
              case rel => exact ⟨k + 1, by omega, by go_num, by rw [hs.out]; rfl, trivial⟩
              case measure => simp [intOf]; omega
          · obtain rfl : k = 6 := by omega
            have hA : Hid (hasK r n 6 = decide ((n : Int) ∈ r)) := by rw [Hid, ← hasK_all, hll.out]
            rw [hA.out]
            clear hA
            have hnl : ¬ ((6 : Int) < r.length) := by omega
            by_cases hin : (n : Int) ∈ r
            · have hin' := Lib.hid hin
              rw [decide_eq_true hin]
              clear hin
              go_wp2_with fail
              go_roundw
              case rel =>
                refine ⟨n + 1, by omega, by go_num, trivial, fun m hm => ?_⟩
                by_cases e : m = n
                · rw [e]; exact hin'.out
                · exact hIn.out m (by omega)
              case measure => simp [intOf]; omega
            · have hE := Lib.hid (hR3.out n hlt hin)
              rw [decide_eq_false hin]
              clear hin
              go_wp2_with fail
              go_ret
              exact ⟨by rw [hE.out]; rfl, rfl⟩
      · obtain rfl : n = 6 := by omega
        have hE := Lib.hid (hR0.out hIn.out)
        go_wp2_with fail
        go_ret
        exact ⟨by rw [hE.out]; rfl, rfl⟩
  · have h' : ((r.length : Int) != 6) = true := by rw [bne_iff_ne]; omega
    have hR : Hid (rankE r = 1) := by rw [Hid, rankE, if_neg hl]
    rw [hR.out]
    clear hR hv
    go_enter Try.func71, Try.ntmps71
    go_wp2_with fail
    go_ret
    exact ⟨rfl, rfl⟩

end Go.Proofs.Ytepddehodmljeaa
