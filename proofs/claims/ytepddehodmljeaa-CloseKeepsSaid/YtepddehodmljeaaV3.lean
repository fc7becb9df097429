/- Walks: holds. -/
import Derived.Test.YtepddehodmljeaaV2
namespace Go.Proofs.Ytepddehodmljeaa
open Go.RowKit Go.Maps

theorem own_block {w : World} {base g : Nat} {e : TypeId} {n : Nat} {xs : List Value} (h : w.ownsRow base e 1 (.slice (some ⟨g, 0, none⟩) n n) n xs) : w.heap[g]? = some (.cells xs.toArray e (0, 0)) := by
  obtain ⟨-, ⟨h1, -⟩ | ⟨g', cap, cur, h1, -, h2, -, -, h3, h4⟩⟩ := h
  · cases h1
  · cases h1
    rw [h2]
    have : cur.toList = xs := by rw [← h4, List.take_of_length_le]; simpa using Nat.le_of_eq h3
    rw [← this]

theorem below_grown {w wq w3 : World} {g : Nat} (h : Below w.heap.size w wq) (hg : wq.grownBy w3 (some g)) (hgl : w.heap.size ≤ g) : Below w.heap.size w w3 :=
  ⟨hg.os.trans h.os, hg.tape.trans h.tape, hg.output.trans h.output, Nat.le_trans h.size hg.size, fun k hk => (hg.block k (Nat.lt_of_lt_of_le hk h.size) (fun e => by cases e; omega)).trans (h.block k hk)⟩

/-- The array of holds when k digits have been written. -/
def digL (x k : Nat) : List Value := (List.range 8).map fun j => .int .i64 ((if j < k then x / 3 ^ j % 3 else 0 : Nat) : Int)
theorem digL_zero (x : Nat) : digL x 0 = [.int .i64 0, .int .i64 0, .int .i64 0, .int .i64 0, .int .i64 0, .int .i64 0, .int .i64 0, .int .i64 0] := rfl
theorem digL_get (x k j : Nat) (h : j < 8) : (digL x k)[j]? = some (.int .i64 ((if j < k then x / 3 ^ j % 3 else 0 : Nat) : Int)) := by
  rw [digL, List.getElem?_map, List.getElem?_range h]; rfl
theorem digL_len (x k : Nat) : (digL x k).length = 8 := by simp [digL]
theorem digL_succ (x k : Nat) : (digL x k).set k (.int .i64 ((x / 3 ^ k % 3 : Nat) : Int)) = digL x (k + 1) := by
  refine List.ext_getElem? fun j => ?_
  by_cases hj : j < 8
  · rw [List.getElem?_set, digL_get _ _ _ hj, digL_get _ _ _ hj, digL_len]
    by_cases e : k = j
    · subst e; rw [if_pos rfl, if_pos hj, if_pos (by omega)]
    · rw [if_neg e]
      congr 3
      by_cases hk : j < k
      · rw [if_pos hk, if_pos (by omega)]
      · rw [if_neg hk, if_neg (by omega)]
  · rw [List.getElem?_eq_none (by simp [digL_len]; omega), List.getElem?_eq_none (by simp [digL_len]; omega)]
theorem digL_vars (N x : Nat) : IsVars (dig N x) (digL x N).toArray := by
  refine ⟨by simp [digL_len], fun i hi => ?_, dig_thg N x⟩
  rw [List.getElem?_toArray, digL_get _ _ _ hi]
  unfold dig
  rw [show (-(-1 - (i : Int)) - 1).toNat = i by omega]

set_option maxRecDepth 100000 in
set_option maxHeartbeats 2000000 in
theorem holds_calls (m : List Int) (mv : Array Value) (hm : IsMod m mv) (a b : List Int) (ha : chk a = 0) (hb : chk b = 0) (u v : Value) (w : World) (hu : IsInts Any w u a) (hv : IsInts Any w v b) :
    Calls Try.prog 65 #[.agg mv, u, v] w fun e w' => e = .returned (.bool (holB m a b)) ∧ Below w.heap.size w w' := by
  have hla := len_of_chk ha
  have hlb := len_of_chk hb
  have hsa := signs_of_chk ha
  have hsb := signs_of_chk hb
  have hbx := below_alloc w (.cells mv 57)
  have hD1 := Lib.hid (deepest_calls a hla hsa u _ (hu.below hbx))
  have hD2 := Lib.hid (deepest_calls b hlb hsb v _ (hv.below hbx))
  have hN8 := holN_le hsa hsb
  have hmax : Hid ((if deepN a < deepN b then deepN b else deepN a) = (holN a b : Int)) := by
    have h1 := deepK_nonneg a a.length
    have h2 := deepK_nonneg b b.length
    unfold Hid holN deepN
    split <;> omega
  have hVa := Lib.hid fun ρ rv (hr : IsVars ρ rv) W (hB : Below w.heap.size w W) => valued_calls m ρ mv rv hm hr a hla hsa (tmOf a) [] 0 (tm_chk ha).1 (by rw [(tm_chk ha).2, List.append_nil]; rfl) u W (hu.below hB)
  have hVb := Lib.hid fun ρ rv (hr : IsVars ρ rv) W (hB : Below w.heap.size w W) => valued_calls m ρ mv rv hm hr b hlb hsb (tmOf b) [] 0 (tm_chk hb).1 (by rw [(tm_chk hb).2, List.append_nil]; rfl) v W (hv.below hB)
  have hRes : Hid (holB m a b = decide (∀ x, x < 3 ^ holN a b → val m (dig (holN a b) x) (tmOf a) = val m (dig (holN a b) x) (tmOf b))) := by
    unfold Hid holB
    rw [Bool.eq_iff_iff, List.all_eq_true, decide_eq_true_iff]
    exact ⟨fun h x hx => of_decide_eq_true (h x (List.mem_range.2 hx)), fun h x hx => decide_eq_true (h x (List.mem_range.1 hx))⟩
  rw [hRes.out]
  clear hRes
  have h57 : (Try.prog.info? 57).map (·.size) = some mv.size := by rw [hm.size]; kernel_rfl
  have hblk : Hid (∀ W, Below (w.alloc (.cells mv 57)).heap.size (w.alloc (.cells mv 57)) W → W.heap[w.heap.size]? = some (.cells mv 57 (0, 0))) := fun W hW => by
    rw [hW.block _ (by simp)]
    exact heap_alloc_new _ _
  obtain ⟨i3, hi, hz, hsz, hby⟩ := info_parts Try.inf3
  have HBX := Lib.hid hbx
  generalize hNN : holN a b = N at *
  have hN8' : (N : Int) ≤ 8 := by omega
  have hpow : 3 ^ N ≤ 6561 := by have := Nat.pow_le_pow_right (show 0 < 3 by omega) hN8; simpa using this
  clear hu hv hsa hsb hla hlb hbx hNN ha hb
  generalize deepN a = da at *
  generalize deepN b = db at *
  have hor : (da < db ∧ db = N) ∨ (¬ da < db ∧ da = N) := by
    have h1 := hmax.out
    split at h1
    · exact .inl ⟨by assumption, h1⟩
    · exact .inr ⟨by assumption, h1⟩
  clear hmax
  rcases hor with ⟨hdd, rfl⟩ | ⟨hdd, rfl⟩
  all_goals
      go_enter Try.func65, Try.ntmps65
      go_wp2_with fail
      refine hD1.out.mono ?_
      rintro e w1 ⟨rfl, rfl⟩
      go_wp2_with fail
      refine hD2.out.mono ?_
      rintro e w1 ⟨rfl, rfl⟩
      go_wp2_with fail
      go_loopw [8, 9] (fun f i wr => ∃ n : Nat, n ≤ N ∧ i = .int .i64 n ∧ f = .int .i64 ((3 ^ n : Nat) : Int) ∧ wr = w.alloc (.cells mv 57)) (fun _ i _ => N - (intOf i).toNat)
      case atStart => exact ⟨0, Nat.zero_le _, rfl, rfl, rfl⟩
      case round =>
        obtain ⟨n, hn, rfl, rfl, rfl⟩ := hrel
        by_cases hlt : n < N
        · have hnn : (n : Int) < N := by omega
          have hp : 3 ^ n ≤ 2187 := by have := Nat.pow_le_pow_right (show 0 < 3 by omega) (show n ≤ 7 by omega); simpa using this
          have hps : Hid (3 ^ (n + 1) = 3 * 3 ^ n) := by rw [Hid, Nat.pow_succ, Nat.mul_comm]
          generalize 3 ^ n = p at *
          have hp' : (p : Int) ≤ 2187 := by omega
          go_wp2_with fail
          go_roundw
          case rel => exact ⟨n + 1, by omega, by go_num, by rw [hps.out]; go_num, trivial⟩
          case measure => simp [intOf]; omega
        · obtain rfl : n = N := by omega
          have hpp : ((3 ^ n : Nat) : Int) ≤ 6561 := by omega
          generalize hPP : 3 ^ n = P at *
          go_wp2_with fail
          go_loopw [10] (fun i wr => ∃ x : Nat, x ≤ P ∧ i = .int .i64 x ∧ Hid (Below (w.alloc (.cells mv 57)).heap.size (w.alloc (.cells mv 57)) wr ∧ ∀ y, y < x → val m (dig n y) (tmOf a) = val m (dig n y) (tmOf b))) (fun i _ => P - (intOf i).toNat)
          case atStart => exact ⟨0, Nat.zero_le _, rfl, .refl _ _, fun _ h => by omega⟩
          case round =>
            obtain ⟨x, hx, rfl, hR⟩ := hrel
            by_cases hlt : x < P
            · have hxx : (x : Int) < P := by omega
              have hO := Lib.hid (lit_own wr wr.heap.size (digL x 0) 146 (Nat.le_refl _) (by simp [digL_len]))
              rw [digL_len, digL_zero] at hO
              go_wp2_with fail
              go_loopw [12, 13] (fun i y wq => ∃ k : Nat, k ≤ n ∧ i = .int .i64 k ∧ y = .int .i64 ((x / 3 ^ k : Nat) : Int) ∧ Hid (wq.ownsRow wr.heap.size 146 1 (.slice (some ⟨wr.heap.size, 0, none⟩) 8 8) 8 (digL x k) ∧ Below wr.heap.size wr wq)) (fun i _ _ => n - (intOf i).toNat)
              case atStart => exact ⟨0, Nat.zero_le _, rfl, by simp, by rw [digL_zero]; exact hO.out, below_alloc _ _⟩
              case round =>
                rename World => wq
                obtain ⟨k, hk, rfl, rfl, hQ⟩ := hrel
                by_cases hlk : k < n
                · have hkk : (k : Int) < n := by omega
                  have hk8 : (k : Int) < 8 := by omega
                  have hq1 : Hid (x / 3 ^ (k + 1) = x / 3 ^ k / 3) := by rw [Hid, Nat.pow_succ, Nat.div_div_eq_div_mul]
                  have hq2 := Lib.hid (digL_succ x k)
                  have hq0 := Nat.div_le_self x (3 ^ k)
                  generalize x / 3 ^ k = q at *
                  have hq3 : (q : Int) ≤ 6561 := by omega
                  have hq4 : 0 ≤ (q : Int) := by omega
                  go_wp2_with ((with_reducible show wpList _ _ _ (Oper.mk none (Op.store _ _ _) _ _ _ _ :: _) _ _); refine store_own _ _ 3 rfl rfl rfl i3 hi hsz wr.heap.size 146 wr.heap.size k 8 8 _ rfl hQ.out.1 ?d2 rfl ?_; rotate_left 1; intro w3 hR3 hG3 hz3)
                  case d2 => omega
                  go_roundw
                  case rel => exact ⟨k + 1, by omega, by go_num, by rw [hq1.out]; go_num, by rw [← hq2.out]; exact hR3, below_grown hQ.out.2 hG3 (Nat.le_refl _)⟩
                  case measure => simp [intOf]; omega
                · obtain rfl : n = k := by omega
                  have hW := hQ.out.2
                  have hc1 := hblk.out wq (ext_trans hR.out.1 hW)
                  have hc2 := own_block hQ.out.1
                  have h146 : (Try.prog.info? 146).map (·.size) = some (digL x n).toArray.size := by simp only [List.size_toArray, digL_len]; kernel_rfl
                  have hBq := Lib.hid (ext_trans (ext_trans HBX.out hR.out.1) hW)
                  have hBR := Lib.hid (ext_trans hR.out.1 hW)
                  have hC1 := Lib.hid (hVa.out _ _ (digL_vars n x) wq hBq.out)
                  have hOL := (hQ.out.1.lt wr.heap.size rfl).2
                  clear hQ hVa hW
                  go_wp2_with (first | (refine wpList_load_row rfl 57 _ rfl w.heap.size rfl 57 mv (0, 0) _ hc1 Try.underlying57 rfl h57 ?_) | (refine wpList_load_row rfl 146 _ rfl wr.heap.size rfl 146 (digL x n).toArray (0, 0) _ hc2 Try.underlying146 rfl h146 ?_))
                  refine hC1.out.mono ?_
                  rintro e w4 ⟨rfl, hB4⟩
                  have hc3 := hblk.out w4 (ext_trans hBR.out hB4)
                  have hc4 := (hB4.block _ hOL).trans hc2
                  have hC2 := Lib.hid (hVb.out _ _ (digL_vars n x) w4 (ext_trans hBq.out hB4))
                  clear hc1 hc2 hC1 hVb
                  go_wp2_with (first | (refine wpList_load_row rfl 57 _ rfl w.heap.size rfl 57 mv (0, 0) _ hc3 Try.underlying57 rfl h57 ?_) | (refine wpList_load_row rfl 146 _ rfl wr.heap.size rfl 146 (digL x n).toArray (0, 0) _ hc4 Try.underlying146 rfl h146 ?_))
                  refine hC2.out.mono ?_
                  rintro e w5 ⟨rfl, hB5⟩
                  clear hc3 hc4 hC2
                  by_cases heq : val m (dig n x) (tmOf a) = val m (dig n x) (tmOf b)
                  · have hH := Lib.hid heq
                    have heq' : ((val m (dig n x) (tmOf a) : Int) != (val m (dig n x) (tmOf b) : Int)) = false := by rw [heq]; simp
                    clear heq
                    go_wp2_with fail
                    go_roundw
                    case rel =>
                      refine ⟨x + 1, by omega, by go_num, ext_trans (ext_trans hBR.out hB4) hB5, fun y hy => ?_⟩
                      by_cases e : y = x
                      · rw [e]; exact hH.out
                      · exact hR.out.2 y (by omega)
                    case measure => simp [intOf]; omega
                  · have hH := Lib.hid heq
                    have heq' : ((val m (dig n x) (tmOf a) : Int) != (val m (dig n x) (tmOf b) : Int)) = true := by simp only [bne_iff_ne, ne_eq, Int.ofNat_inj]; exact heq
                    clear heq
                    go_wp2_with fail
                    go_ret
                    refine ⟨?_, ext_trans (ext_trans hBq.out hB4) hB5⟩
                    exact congrArg (fun c => Ending.returned (.bool c)) (decide_eq_false fun h => hH.out (h x (by rw [hPP]; exact hlt))).symm
            · obtain rfl : x = P := by omega
              go_wp2_with fail
              go_ret
              refine ⟨?_, ext_trans HBX.out hR.out.1⟩
              exact congrArg (fun c => Ending.returned (.bool c)) (decide_eq_true fun y hy => hR.out.2 y (by rw [hPP] at hy; exact hy)).symm

end Go.Proofs.Ytepddehodmljeaa
