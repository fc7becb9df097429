/- Walks: haspref: signOf, TermFrom. -/
import Derived.Test.YtepddehodmljeaaI2
namespace Go.Proofs.Ytepddehodmljeaa
open Go.RowKit

theorem u8_ne {a b : UInt8} (h : a ≠ b) : ((a.toNat : Int) == (b.toNat : Int)) = false := by
  rw [beq_eq_false_iff_ne]
  intro e
  exact h (UInt8.toNat_inj.1 (by omega))

set_option maxRecDepth 100000 in
theorem signOf_calls (c : UInt8) (w : World) :
    Calls Try.prog 150 #[.int .u8 (c.toNat : Int)] w fun e w' => e = .returned (.tuple #[.int .i64 ((sgnOf c).getD 0), .bool (sgnOf c).isSome]) ∧ w = w' := by
  have hno : Hid ((∀ m : Int, -8 ≤ m → m < 6 → ltr m ≠ c) → sgnOf c = none) := fun h => by
    cases hs : sgnOf c with
    | none => rfl
    | some m => obtain ⟨h1, h2, h3⟩ := ltr_sgn hs; exact absurd h3 (h m h1 h2)
  go_enter Try.func150, Try.ntmps150
  go_wp2_with fail
  go_loopw [4] (fun i wr => ∃ n : Int, -8 ≤ n ∧ n ≤ 6 ∧ i = .int .i64 n ∧ wr = w ∧ Hid (∀ m : Int, -8 ≤ m → m < n → ltr m ≠ c)) (fun i _ => (6 - intOf i).toNat)
  case atStart => exact ⟨-8, by omega, by omega, rfl, rfl, fun m h1 h2 => by omega⟩
  case round =>
    obtain ⟨n, hn8, hn, rfl, rfl, hA⟩ := hrel
    by_cases hlt : n < 6
    · have hl := Lib.hid (letter_calls n hn8 hlt wr)
      by_cases he : ltr n = c
      · have hs : Hid (sgnOf c = some n) := by rw [Hid, ← he]; exact sgn_ltr hn8 hlt
        rw [he] at hl
        clear hno hA he
        go_wp2_with fail
        refine hl.out.mono ?_
        rintro e w' ⟨rfl, rfl⟩
        go_wp2_with fail
        go_ret2
        rw [hs.out]
        exact ⟨rfl, rfl⟩
      · have hne := u8_ne he
        have hA' : Hid (∀ m : Int, -8 ≤ m → m < n + 1 → ltr m ≠ c) := fun m h1 h2 => by
          by_cases e : m = n
          · subst e; exact he
          · exact hA.out m h1 (by omega)
        clear he
        go_wp2_with fail
        refine hl.out.mono ?_
        rintro e w' ⟨rfl, rfl⟩
        go_wp2_with fail
        go_roundw
        case rel => exact ⟨n + 1, by omega, by omega, by go_num, trivial, hA'.out⟩
        case measure => simp [intOf]; omega
    · obtain rfl : n = 6 := by omega
      have hs := Lib.hid (hno.out hA.out)
      clear hno hA
      go_wp2_with fail
      go_ret2
      rw [hs.out]
      exact ⟨rfl, rfl⟩

def strC (s : List UInt8) (k : Nat) : List Int := (s.take k).filterMap sgnOf
theorem strC_succ {s : List UInt8} {k : Nat} (hk : k < s.length) : strC s (k + 1) = strC s k ++ (sgnOf s[k]).toList := by
  unfold strC
  rw [List.take_succ_eq_append_getElem hk, List.filterMap_append]
  cases h : sgnOf s[k] <;> simp [h]
theorem strC_all (s : List UInt8) : strC s s.length = s.filterMap sgnOf := by rw [strC, List.take_length]
theorem strC_le (s : List UInt8) (k : Nat) : (strC s k).length ≤ k := by
  have h1 := List.length_filterMap_le sgnOf (s.take k)
  have h2 := List.length_take_le k s
  exact Nat.le_trans h1 h2
theorem at_str {s : List UInt8} {k : Nat} (hk : k < s.length) (w : World) : (Instr.index 9 (.string ⟨s.toArray⟩) (.int .i64 (k : Int))).run Try.prog w = .ok (.int .u8 (s[k].toNat : Int)) w := by
  rw [run_index_string w 9 ⟨s.toArray⟩ .i64 k (by kernel_rfl), dif_pos ⟨by omega, by rw [size_bytes]; omega⟩]
  rfl

/-- What the reference reads. -/
def fromL (s : List UInt8) : List Int := if chk (s.filterMap sgnOf) = 0 ∧ (tmOf (s.filterMap sgnOf)).txt = s then s.filterMap sgnOf else []
def fromB (s : List UInt8) : Bool := decide (chk (s.filterMap sgnOf) = 0 ∧ (tmOf (s.filterMap sgnOf)).txt = s)

theorem str_ne {a b : List UInt8} : ((⟨a.toArray⟩ : ByteArray).toList == (⟨b.toArray⟩ : ByteArray).toList) = decide (a = b) := by
  rw [ByteArray.toList_mk, ByteArray.toList_mk, Bool.beq_eq_decide_eq]

set_option maxRecDepth 100000 in
set_option maxHeartbeats 1000000 in
theorem TermFrom_calls (s : List UInt8) (hl : s.length ≤ 4096) (w : World) :
    Calls Try.prog 80 #[.string ⟨s.toArray⟩] w fun e w' => ∃ u, e = .returned (.tuple #[u, .bool (fromB s)]) ∧ IsInts (Fr w.heap.size) w' u (fromL s) ∧ Below w.heap.size w w' := by
  obtain ⟨i3, hi, hz, hsz, hby⟩ := info_parts Try.inf3
  have hsz0 := size_bytes s
  go_enter Try.func80, Try.ntmps80
  go_wp2_with fail
  go_loopw [4, 5] (fun sv i wr => ∃ k : Nat, k ≤ s.length ∧ i = .int .i64 k ∧ Hid (wr.ownsRow w.heap.size 3 1 sv (strC s k).length ((strC s k).map (Value.int .i64)) ∧ Below w.heap.size w wr)) (fun _ i _ => s.length - (intOf i).toNat)
  case atStart => exact ⟨0, Nat.zero_le _, rfl, World.ownsRow_nil _ _ _ _, .refl _ _⟩
  case round =>
    obtain ⟨k, hk, rfl, hR⟩ := hrel
    by_cases hlt : k < s.length
    · have hkk : (k : Int) < s.length := by omega
      have hix := at_str hlt
      have hsg := Lib.hid (signOf_calls s[k] wr)
      have hsn := Lib.hid (strC_succ hlt)
      have hle := strC_le s k
      generalize s[k] = c at *
      cases hc : sgnOf c with
      | none =>
        rw [hc] at hsg hsn
        simp only [Option.getD_none, Option.isSome_none, Option.toList_none, List.append_nil] at hsg hsn
        clear hc
        go_wp2_with fail
        refine hsg.out.mono ?_
        rintro e w' ⟨rfl, rfl⟩
        go_wp2_with fail
        go_roundw
        case rel => exact ⟨k + 1, by omega, by go_num, by rw [hsn.out]; exact hR.out⟩
        case measure => simp [intOf]; omega
      | some n =>
        rw [hc] at hsg hsn
        simp only [Option.getD_some, Option.isSome_some, Option.toList_some] at hsg hsn
        clear hc
        have hX := Lib.hid (ints_one wr n 3).any
        have hO := Lib.hid (hR.out.1.alloc (.cells #[.int .i64 n] 3))
        have hBw := hR.out.2.size
        go_wp2_with fail
        refine hsg.out.mono ?_
        rintro e w' ⟨rfl, rfl⟩
        go_wp2_with (at_builtin; refine app_ints _ _ 24 rfl rfl w.heap.size i3 Try.underlying24 hi hz hsz hby hO.out hX.out ?c1 ?c2 ?c3; rotate_left 2; intro v' w2 hown2 hb2 hg2 _)
        case c1 => simp; omega
        case c2 => simp; omega
        rw [← hsn.out] at hown2
        go_roundw
        case rel => exact ⟨k + 1, by omega, by go_num, hown2, (ext_alloc hR.out.2 (.cells #[.int .i64 n] 3)).trans hb2⟩
        case measure => simp [intOf]; omega
    · obtain rfl : k = s.length := by omega
      have hle := strC_le s s.length
      have hV : Hid (IsInts (Fr w.heap.size) wr _ (strC s s.length)) := ints_of_own hR.out.1 (by omega)
      rw [strC_all] at hV
      have hB := Lib.hid hR.out.2
      have hF : Hid (fromL s = if chk (s.filterMap sgnOf) = 0 ∧ (tmOf (s.filterMap sgnOf)).txt = s then s.filterMap sgnOf else []) := rfl
      have hG : Hid (fromB s = decide (chk (s.filterMap sgnOf) = 0 ∧ (tmOf (s.filterMap sgnOf)).txt = s)) := rfl
      clear hR hle
      generalize s.filterMap sgnOf = t at *
      have hC := Lib.hid (TermError_calls t _ wr hV.out.any)
      obtain ⟨va, vc, hsv⟩ := hV.out.isSlice
      subst hsv
      by_cases hc : chk t = 0
      · rw [hc] at hC
        have hT := Lib.hid (TermText_calls t hc _ wr hV.out.any)
        have hne := str_ne (a := (tmOf t).txt) (b := s)
        by_cases he : (tmOf t).txt = s
        · rw [if_pos ⟨hc, he⟩] at hF
          rw [decide_eq_true ⟨hc, he⟩] at hG
          rw [decide_eq_true he] at hne
          rw [he] at hT hne
          clear hc he
          go_wp2_with fail
          refine hC.out.mono ?_
          rintro e w' ⟨rfl, rfl⟩
          go_wp2_with fail
          refine hT.out.mono ?_
          rintro e w' ⟨rfl, hB2⟩
          go_wp2_with fail
          go_ret2
          rw [hF.out, hG.out]
          exact ⟨_, rfl, hV.out.below hB2, ext_trans hB.out hB2⟩
        · rw [if_neg fun h => he h.2] at hF
          rw [decide_eq_false fun h => he h.2] at hG
          clear hc hne
          generalize (tmOf t).txt = x at *
          have he2 : (x == s) = false := by simpa using he
          go_wp2_with fail
          refine hC.out.mono ?_
          rintro e w' ⟨rfl, rfl⟩
          go_wp2_with fail
          refine hT.out.mono ?_
          rintro e w' ⟨rfl, hB2⟩
          go_wp2_with fail
          go_ret2
          rw [hF.out, hG.out]
          exact ⟨_, rfl, .nil _ _, ext_trans hB.out hB2⟩
      · rw [if_neg fun h => hc h.1] at hF
        rw [decide_eq_false fun h => hc h.1] at hG
        have hcb : (chk t != 0) = true := by simpa using hc
        clear hc
        go_wp2_with fail
        refine hC.out.mono ?_
        rintro e w' ⟨rfl, rfl⟩
        go_wp2_with fail
        go_ret2
        rw [hF.out, hG.out]
        exact ⟨_, rfl, .nil _ _, hB.out⟩

end Go.Proofs.Ytepddehodmljeaa
