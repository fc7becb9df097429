/- Walks: Run of close. -/
import Derived.Test.YtepddehodmljeaaH4
namespace Go.Proofs.Ytepddehodmljeaa
open Go.RowKit Go.Maps

theorem keeps_below {B base : Nat} {w w' : World} (h : Keeps (fun q => q = B) w w') (hb : base ≤ B) (hs : base ≤ w.heap.size) : Below base w w' :=
  ⟨h.os, h.tape, h.output, h.size, fun k hk => h.block k (by omega) (by omega)⟩
theorem shop_new {w : World} {r : List Int} {l : Rus} {e : List Ru} {rv lv ev : Value} (hr : IsInts Any w rv r) (hl : IsRules Any w lv l) (he : IsRules Any w ev e) :
    ShopIs w.heap.size (w.alloc (.cells #[rv, lv, ev] 139)) r l e rv lv ev := by
  have hs : Sok Any (fun q => q ≠ w.heap.size) w (w.alloc (.cells #[rv, lv, ev] 139)) := ⟨(below_alloc w _).size, fun b _ hb => ⟨by omega, (below_alloc w _).block b hb⟩⟩
  exact ⟨by simp [go_sem], by simp [go_sem], by simp [go_sem], fun k => by simp [go_sem], hr.mono hs, IsRow.mono RuleR.ok hl hs, IsRow.mono RuleR.ok he hs⟩

def rnE (fb : Fb) (r : List Int) (e : List Ru) : Int := if caE r e = 0 then (runV fb r 30 0 [] e).2.2 else caE r e
def rnL (fb : Fb) (r : List Int) (e : List Ru) : Rus := if caE r e = 0 then (runV fb r 30 0 [] e).1 else []
def rnN (fb : Fb) (r : List Int) (e : List Ru) : Nat := if caE r e = 0 then (runV fb r 30 0 [] e).2.1 else 0

theorem turn_len {fb : Fb} {r : List Int} {l l' : Rus} {p : Ru} {e e' : List Ru} (h : TurnIs fb r l p e l' e') (he : e.length ≤ 40) : e'.length ≤ 40 := by
  cases h with
  | same a n m q1 q2 => exact he
  | new a b n m hab hg ho hA =>
    obtain ⟨-, -, a3⟩ := addE_zero hA
    exact a3

set_option maxRecDepth 100000 in
set_option maxHeartbeats 4000000 in
theorem Run_calls {fb : Fb} (hfb : FbOk fb) (r : List Int) (e : List Ru) (rv ev : Value) (w : World) (hr : IsInts Any w rv r) (he : IsRules Any w ev e) :
    Calls Try.prog 72 #[rv, ev] w fun y w' => ∃ z, y = .returned (.tuple #[z, .int .i64 (rnN fb r e : Int), .int .i64 (rnE fb r e)]) ∧ IsRules (Fr w.heap.size) w' z (rnL fb r e) ∧ Below w.heap.size w w' := by
  have hA := Lib.hid (asked_calls r e rv ev w hr he)
  obtain ⟨ra, rc, rfl⟩ := hr.isSlice
  obtain ⟨ea, ec, rfl⟩ := he.isSlice
  by_cases h0 : caE r e = 0
  · obtain ⟨hk, hel, heq⟩ := caE_zero h0
    have hEv : Hid (rnE fb r e = (runV fb r 30 0 [] e).2.2 ∧ rnL fb r e = (runV fb r 30 0 [] e).1 ∧ rnN fb r e = (runV fb r 30 0 [] e).2.1) := ⟨by rw [rnE, if_pos h0], by rw [rnL, if_pos h0], by rw [rnN, if_pos h0]⟩
    have hI0 : Hid (Inv r [] e) := inv_start hk heq
    have H0 := Lib.hid h0
    have HR := Lib.hid hr
    have HE := Lib.hid he
    have HFB := Lib.hid hfb
    clear h0 hr he hk heq hfb
    go_enter Try.func72, Try.ntmps72
    go_wp2_with fail
    refine hA.out.mono ?_
    rintro y w1 ⟨rfl, hb1⟩
    have HB1 := Lib.hid hb1
    have hS := Lib.hid (shop_new (HR.out.below hb1) (IsRow.nil (sz := 2) (R := RuleR) Any w1) (HE.out.below RuleR.ok hb1))
    have hsz1 : Hid (w.heap.size ≤ w1.heap.size) := hb1.size
    rw [H0.out]
    clear hb1
    go_wp2_with fail
    obtain ⟨W1, hW1⟩ : ∃ W1, W1 = w1.alloc (.cells #[.slice ra r.length rc, .slice none 0 0, .slice ea e.length ec] 139) := ⟨_, rfl⟩
    have hbW : Hid (Below w.heap.size w W1) := by rw [hW1]; exact ext_alloc HB1.out _
    have hbW1 : Hid (w1.heap.size ≤ W1.heap.size) := by rw [hW1]; exact (below_alloc w1 _).size
    rw [← hW1] at hS ⊢
    clear hW1
    go_loopw [9] (fun s9 wr => ∃ n l e' lv ev, n ≤ 30 ∧ s9 = .int .i64 ((n : Nat) : Int) ∧ Hid (Inv r l e') ∧ Hid (e'.length ≤ 40) ∧ Hid (runV fb r (30 - n) n l e' = runV fb r 30 0 [] e) ∧ Hid (ShopIs w1.heap.size wr r l e' (.slice ra r.length rc) lv ev) ∧ Hid (Keeps (fun q => q = w1.heap.size) W1 wr)) (fun s9 _ => 30 - (intOf s9).toNat)
    case atStart => exact ⟨0, [], e, _, _, Nat.zero_le _, rfl, hI0.out, hel, rfl, hS.out, .refl _ _⟩
    case round =>
      rename World => wr
      obtain ⟨n, l, e', lv, ev, hn, rfl, hI, hl40, hRV, hSh, hKp⟩ := hrel
      have hBr : Hid (Below w.heap.size w wr) := hbW.out.trans (keeps_below hKp.out hsz1.out (Nat.le_trans hsz1.out hbW1.out))
      have cE := hSh.out.c2
      cases e' with
      | nil =>
        have hev := hSh.out.rest
        obtain ⟨xa, xc, rfl⟩ := hev.isSlice
        have cL := hSh.out.c1
        have hlr := hI.out.rul
        have hOw := Lib.hid (own_rules_calls l (fun p hp => ruleE_chk (hlr.2 p hp)) (by have := hlr.1; omega) lv wr (IsRow.any RuleR.ok hSh.out.rules))
        have hR0 : Hid (runV fb r 30 0 [] e = (l, n, 0)) := by rw [Hid, ← hRV.out, runV_nil]
        obtain ⟨la, lc, rfl⟩ := hSh.out.rules.isSlice
        clear hev hlr
        go_wp2_with fail
        refine hOw.out.mono ?_
        rintro y w3 ⟨z, rfl, hz, hb3⟩
        go_wp2_with fail
        go_ret3
        rw [hEv.out.1, hEv.out.2.1, hEv.out.2.2, hR0.out]
        exact ⟨_, rfl, hz.mono RuleR.ok (.weak fun q hq => Nat.le_trans hBr.out.size hq), ext_trans hBr.out hb3⟩
      | cons p e' =>
        obtain ⟨xa, xc, rfl⟩ := hSh.out.rest.isSlice
        by_cases h30 : n = 30
        · have hR0 : Hid (runV fb r 30 0 [] e = ([], 0, 2)) := by rw [Hid, ← hRV.out, h30]; rfl
          have hni : ((n : Int) == 30) = true := by rw [beq_iff_eq]; omega
          have hlen : Hid (0 < ((p :: e').length : Int)) := by rw [Hid]; simp
          have HN := Lib.hid h30
          clear h30
          go_wp2_with fail
          go_ret3
          rw [hEv.out.1, hEv.out.2.1, hEv.out.2.2, hR0.out]
          exact ⟨_, rfl, .nil _ _, hBr.out⟩
        · have hni : ((n : Int) == 30) = false := by rw [beq_eq_false_iff_ne]; omega
          have hn30 : (n : Int) ≤ 29 := by omega
          have hT := Lib.hid (turn_calls HFB.out w1.heap.size r l p e' hI.out (by have := hl40.out; simp at this; omega) _ _ _ wr hSh.out)
          have hst : Hid (runV fb r (30 - n) n l (p :: e') = if (turnV fb r l p e').1 = 0 then runV fb r (30 - (n + 1)) (n + 1) (turnV fb r l p e').2.1 (turnV fb r l p e').2.2 else ([], 0, (turnV fb r l p e').1)) := by
            obtain ⟨m, hm⟩ : ∃ m, 30 - n = m + 1 := ⟨29 - n, by omega⟩
            rw [Hid, hm, show 30 - (n + 1) = m by omega]; rfl
          have hTI : Hid ((turnV fb r l p e').1 = 0 → TurnIs fb r l p e' (turnV fb r l p e').2.1 (turnV fb r l p e').2.2) := turn_is
          clear h30
          by_cases ht : (turnV fb r l p e').1 = 0
          · have HT0 := Lib.hid ht
            have hR1 : Hid (runV fb r (30 - (n + 1)) (n + 1) (turnV fb r l p e').2.1 (turnV fb r l p e').2.2 = runV fb r 30 0 [] e) := by rw [Hid, ← hRV.out, hst.out, if_pos ht]
            have hI1 := Lib.hid (turn_inv HFB.out hI.out (hTI.out ht))
            have hl1 := Lib.hid (turn_len (hTI.out ht) (by have := hl40.out; simp at this; omega))
            clear ht
            go_wp2_with fail
            refine hT.out.mono ?_
            rintro y w3 ⟨rfl, hs3, hk3⟩
            obtain ⟨lv', ev', hs3⟩ := hs3 HT0.out
            have HS3 := Lib.hid hs3
            have HK3 := Lib.hid hk3
            rw [HT0.out]
            clear hs3 hk3
            go_wp2_with fail
            go_roundw
            case rel => exact ⟨n + 1, _, _, _, _, by omega, by go_num, hI1.out, hl1.out, hR1.out, HS3.out, hKp.out.trans HK3.out⟩
            case measure => simp [intOf]; omega
          · have h' : ((turnV fb r l p e').1 != 0) = true := by simpa using ht
            have hR0 : Hid (runV fb r 30 0 [] e = ([], 0, (turnV fb r l p e').1)) := by rw [Hid, ← hRV.out, hst.out, if_neg ht]
            clear ht
            go_wp2_with fail
            refine hT.out.mono ?_
            rintro y w3 ⟨rfl, -, hk3⟩
            have HK3 := Lib.hid hk3
            go_wp2_with fail
            go_ret3
            rw [hEv.out.1, hEv.out.2.1, hEv.out.2.2, hR0.out]
            exact ⟨_, rfl, .nil _ _, hbW.out.trans (keeps_below (hKp.out.trans HK3.out) hsz1.out (Nat.le_trans hsz1.out hbW1.out))⟩
  · have hEv : Hid (rnE fb r e = caE r e ∧ rnL fb r e = [] ∧ rnN fb r e = 0) := ⟨by rw [rnE, if_neg h0], by rw [rnL, if_neg h0], by rw [rnN, if_neg h0]⟩
    have h' : (caE r e != 0) = true := by simpa using h0
    clear hr he h0
    go_enter Try.func72, Try.ntmps72
    go_wp2_with fail
    refine hA.out.mono ?_
    rintro y w1 ⟨rfl, hb1⟩
    go_wp2_with fail
    go_ret3
    rw [hEv.out.1, hEv.out.2.1, hEv.out.2.2]
    exact ⟨_, rfl, .nil _ _, hb1⟩

end Go.Proofs.Ytepddehodmljeaa
