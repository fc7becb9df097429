/- Walks: Turn of close. -/
import Derived.Test.YtepddehodmljeaaH5
import Derived.Test.YtepddehodmljeaaF1
namespace Go.Proofs.Ytepddehodmljeaa
open Go.RowKit Go.Maps

def tuV (fb : Fb) (r : List Int) (l : Rus) : List Ru → Shp
  | [] => (5, [], [])
  | p :: e => turnV fb r l p e
def tuE (fb : Fb) (r : List Int) (l : Rus) (e : List Ru) : Int :=
  if caE r e = 0 then (if fallsE r l = 0 then (if fallsL r l = true then (tuV fb r l e).1 else 6) else fallsE r l) else caE r e
def tuL (fb : Fb) (r : List Int) (l : Rus) (e : List Ru) : Rus := if tuE fb r l e = 0 then (tuV fb r l e).2.1 else []
def tuP (fb : Fb) (r : List Int) (l : Rus) (e : List Ru) : List Ru := if tuE fb r l e = 0 then (tuV fb r l e).2.2 else []
theorem tu_err {fb : Fb} {r : List Int} {l : Rus} {e : List Ru} {x : Int} (h : tuE fb r l e = x) (h0 : x ≠ 0) : tuE fb r l e = x ∧ tuL fb r l e = [] ∧ tuP fb r l e = [] :=
  ⟨h, by rw [tuL, if_neg (by rw [h]; exact h0)], by rw [tuP, if_neg (by rw [h]; exact h0)]⟩

set_option maxRecDepth 100000 in
set_option maxHeartbeats 4000000 in
theorem Turn_calls {fb : Fb} (hfb : FbOk fb) (r : List Int) (l : Rus) (e : List Ru) (rv lv ev : Value) (w : World) (hr : IsInts Any w rv r) (hl : IsRules Any w lv l) (he : IsRules Any w ev e) :
    Calls Try.prog 60 #[rv, lv, ev] w fun y w' => ∃ z x, y = .returned (.tuple #[z, x, .int .i64 (tuE fb r l e)]) ∧ IsRules (Fr w.heap.size) w' z (tuL fb r l e) ∧ IsRules (Fr w.heap.size) w' x (tuP fb r l e) ∧ Below w.heap.size w w' := by
  obtain ⟨i65, hi, hz, hsz, hby⟩ := info_parts Try.inf65
  have hA := Lib.hid (asked_calls r e rv ev w hr he)
  have hF := Lib.hid fun W (hb : Below w.heap.size w W) => Falls_calls r l rv lv W (hr.below hb) (hl.below RuleR.ok hb)
  obtain ⟨ra, rc, rfl⟩ := hr.isSlice
  obtain ⟨la, lc, rfl⟩ := hl.isSlice
  obtain ⟨ea, ec, rfl⟩ := he.isSlice
  have HR := Lib.hid hr
  have HL := Lib.hid hl
  have HE := Lib.hid he
  have HFB := Lib.hid hfb
  clear hr hl he hfb
  by_cases h0 : caE r e = 0
  · obtain ⟨hk, hel, heq⟩ := caE_zero h0
    have H0 := Lib.hid h0
    by_cases hf : fallsE r l = 0
    · have HF0 := Lib.hid hf
      cases hfl : fallsL r l with
      | true =>
        have hI0 : Hid (Inv r l e) := ⟨hk, (fallsE_zero hf).2, hfl, heq⟩
        have hB : Hid (fallsB r l = true) := by rw [Hid, fallsB, hf, hfl]; rfl
        have hEV : Hid (tuE fb r l e = (tuV fb r l e).1) := by rw [Hid, tuE, if_pos h0, if_pos hf, if_pos hfl]
        clear h0 hf hfl hk heq
        cases e with
        | nil =>
          have hT : Hid (tuE fb r l [] = 5 ∧ tuL fb r l [] = [] ∧ tuP fb r l [] = []) := tu_err hEV.out (by decide)
          clear hel
          go_enter Try.func60, Try.ntmps60
          go_wp2_with fail
          refine hA.out.mono ?_
          rintro y w1 ⟨rfl, hb1⟩
          have HB1 := Lib.hid hb1
          rw [H0.out]
          clear hb1
          go_wp2_with fail
          refine (hF.out w1 HB1.out).mono ?_
          rintro y w2 ⟨rfl, hb2⟩
          have HB2 := Lib.hid (ext_trans HB1.out hb2)
          rw [HF0.out, hB.out]
          clear hb2
          go_wp2_with fail
          go_ret3
          rw [hT.out.1, hT.out.2.1, hT.out.2.2]
          exact ⟨_, _, rfl, .nil _ _, .nil _ _, HB2.out⟩
        | cons p e =>
          have hlen : (((p :: e).length : Int) == 0) = false := by rw [beq_eq_false_iff_ne]; simp; omega
          have hVp : Hid (tuE fb r l (p :: e) = (turnV fb r l p e).1) := hEV.out
          have he39 : e.length ≤ 39 := by simp at hel; omega
          have hTI : Hid ((turnV fb r l p e).1 = 0 → TurnIs fb r l p e (turnV fb r l p e).2.1 (turnV fb r l p e).2.2) := turn_is
          clear hel
          go_enter Try.func60, Try.ntmps60
          go_wp2_with fail
          refine hA.out.mono ?_
          rintro y w1 ⟨rfl, hb1⟩
          have HB1 := Lib.hid hb1
          rw [H0.out]
          clear hb1
          go_wp2_with fail
          refine (hF.out w1 HB1.out).mono ?_
          rintro y w2 ⟨rfl, hb2⟩
          have HB2 := Lib.hid (ext_trans HB1.out hb2)
          have hS := shop_new (HR.out.below HB2.out) (HL.out.below RuleR.ok HB2.out) (HE.out.below RuleR.ok HB2.out)
          have hT := Lib.hid (turn_calls HFB.out w2.heap.size r l p e hI0.out he39 _ _ _ _ hS)
          have hbx : Hid (Below w.heap.size w (w2.alloc (.cells #[.slice ra r.length rc, .slice la l.length lc, .slice ea (p :: e).length ec] 139))) := ext_alloc HB2.out _
          have hB2z : Hid (w.heap.size ≤ w2.heap.size) := HB2.out.size
          have hB2y : Hid (w2.heap.size < (w2.alloc (.cells #[.slice ra r.length rc, .slice la l.length lc, .slice ea (p :: e).length ec] 139)).heap.size) := by rw [Hid]; simp
          rw [HF0.out, hB.out]
          clear hb2 hS
          by_cases ht : (turnV fb r l p e).1 = 0
          · have HT0 := Lib.hid ht
            have hTE : Hid (tuE fb r l (p :: e) = 0 ∧ tuL fb r l (p :: e) = (turnV fb r l p e).2.1 ∧ tuP fb r l (p :: e) = (turnV fb r l p e).2.2) :=
              ⟨hVp.out.trans ht, by rw [tuL, if_pos (hVp.out.trans ht)]; rfl, by rw [tuP, if_pos (hVp.out.trans ht)]; rfl⟩
            have hI1 := Lib.hid (turn_inv HFB.out hI0.out (hTI.out ht))
            have hl1 := turn_len (hTI.out ht) (by omega)
            clear ht hTI
            generalize (turnV fb r l p e).2.1 = l2 at *
            generalize (turnV fb r l p e).2.2 = e2 at *
            have hli : (e2.length : Int) ≤ 40 := by omega
            go_wp2_with fail
            refine hT.out.mono ?_
            rintro y w3 ⟨rfl, hs3, hk3⟩
            obtain ⟨lv', ev', hs3⟩ := hs3 HT0.out
            have HS3 := Lib.hid hs3
            have HB3 : Hid (Below w.heap.size w w3) := hbx.out.trans (keeps_below hk3 hB2z.out (Nat.le_trans hB2z.out (Nat.le_of_lt hB2y.out)))
            have cE := hs3.c2
            obtain ⟨xa, xc, rfl⟩ := hs3.rest.isSlice
            have HV := Lib.hid (IsRow.any RuleR.ok hs3.rest)
            have HQ := Lib.hid hI1.out.eqs
            rw [HT0.out]
            clear hs3 hk3
            go_wp2_with fail
            go_loopw [14, 55] (fun out s8 wr => ∃ k : Nat, k ≤ e2.length ∧ s8 = .int .i64 k ∧ Hid (OwnRow w3.heap.size 65 2 RuleR (Fr w3.heap.size) wr out (e2.take k)) ∧ Hid (Below w3.heap.size w3 wr)) (fun _ s8 _ => e2.length - (intOf s8).toNat)
            case atStart => exact ⟨0, Nat.zero_le _, rfl, OwnRow.nil _ _ _ _, .refl _ _⟩
            case round =>
              rename World => wr
              obtain ⟨k, hk, rfl, hO, hB⟩ := hrel
              by_cases hlk : k < e2.length
              · have hkk : (k : Int) < e2.length := by omega
                obtain ⟨b, o, c, u, x, eq, hcu, hcx, hiu, hix⟩ := prs_at' (HV.out.below RuleR.ok hB.out) hlk
                cases eq
                obtain ⟨a1, c1, e1⟩ := hiu.isSlice
                obtain ⟨a2, c2, e2'⟩ := hix.isSlice
                subst e1 e2'
                obtain ⟨r1, r2⟩ := HQ.out _ (nthR_mem hlk)
                have hs := Lib.hid (takeR hlk)
                generalize nthR e2 k = q0 at *
                obtain ⟨W1, hW1⟩ : ∃ W1, W1 = wr.alloc (.cells #[.slice a1 q0.1.length c1, .slice a2 q0.2.length c2] 65) := ⟨_, rfl⟩
                have hb1 : Below wr.heap.size wr W1 := by rw [hW1]; exact below_alloc _ _
                have hz1 : wr.heap.size < W1.heap.size := by rw [hW1]; simp
                have f0 : W1.cell? ⟨wr.heap.size, 0, none⟩ = some (.slice a1 q0.1.length c1) := by rw [hW1]; simp [go_sem]
                have f1 : W1.cell? ⟨wr.heap.size, 1, none⟩ = some (.slice a2 q0.2.length c2) := by rw [hW1]; simp [go_sem]
                have hS : Hid (∀ W, Below W1.heap.size W1 W → W.cell? ⟨wr.heap.size, 0, none⟩ = some (.slice a1 q0.1.length c1) ∧ W.cell? ⟨wr.heap.size, 1, none⟩ = some (.slice a2 q0.2.length c2)) := fun W hb =>
                  ⟨(hb.cell (p := ⟨wr.heap.size, 0, none⟩) hz1).trans f0, (hb.cell (p := ⟨wr.heap.size, 1, none⟩) hz1).trans f1⟩
                have hA := Lib.hid (Clone_calls q0.1 _ W1.drew (ne_of_chk r1) (by have := len_of_chk r1; omega) (hiu.below (ext_trans hb1 (below_drew _ W1))))
                have hBB := Lib.hid fun W (hb : Below W1.heap.size W1 W) => Clone_calls q0.2 _ W (ne_of_chk r2) (by have := len_of_chk r2; omega) (hix.below (ext_trans hb1 hb))
                have hO1 := Lib.hid (hO.out.below RuleR.ok hb1)
                have HB1 := Lib.hid (ext_trans hB.out hb1)
                have hown : Hid (∀ q, u14.ownBlock = some q → q < wr.heap.size) := fun q hq => (hO.out.block q hq).2
                have hlt' : Hid (((e2.take k).length + 1) * 48 ≤ 100000000) := by rw [Hid, List.length_take]; omega
                have hSk : Hid (∀ W W', Below W1.heap.size W1 W → Keeps (fun q => u14.ownBlock = some q) W W' → W'.cell? ⟨wr.heap.size, 0, none⟩ = some (.slice a1 q0.1.length c1) ∧ W'.cell? ⟨wr.heap.size, 1, none⟩ = some (.slice a2 q0.2.length c2)) := fun W W' hb hk => by
                  have hl : wr.heap.size < W.heap.size := Nat.lt_of_lt_of_le hz1 hb.size
                  have hn : ¬ u14.ownBlock = some wr.heap.size := fun e => by have := hown.out _ e; omega
                  obtain ⟨q0, q1⟩ := hS.out W hb
                  exact ⟨(World.cell?_of_block (w := W) (a := ⟨wr.heap.size, 0, none⟩) (hk.block _ hl hn)).trans q0, (World.cell?_of_block (w := W) (a := ⟨wr.heap.size, 1, none⟩) (hk.block _ hl hn)).trans q1⟩
                clear hiu hix r1 r2 hb1 f0 f1
                go_wp2_with fail
                rw [← hW1]
                clear hW1
                go_region_held3 (fun W => W.cell? ⟨wr.heap.size, 0, none⟩ = some (.slice a1 q0.1.length c1) ∧ W.cell? ⟨wr.heap.size, 1, none⟩ = some (.slice a2 q0.2.length c2))
                  (first | exact hS.out _ (below_drew _ W1) | exact hS.out _ HA.out.2 | exact hS.out _ HZ.out | exact hS.out _ HZa.out | exact hSk.out _ _ HZ.out hk7)
                  (first
                    | (go_at_call 116; (with_reducible refine hA.out.mono ?_); rintro e wa ⟨y1, rfl, hy1, hb⟩; have HA := Lib.hid (And.intro hy1 (ext_trans (below_drew _ W1) hb)); clear hy1 hb)
                    | (go_at_call 116; (with_reducible refine (hBB.out wa HA.out.2).mono ?_); rintro e wb ⟨y2, rfl, hy2, hb⟩; obtain ⟨ya1, yc1, eY1⟩ := HA.out.1.isSlice; obtain ⟨ya2, yc2, eY2⟩ := hy2.isSlice; subst eY1 eY2; have HZ := Lib.hid (ext_trans HA.out.2 hb); have HZa := Lib.hid (ext_trans HZ.out (below_alloc wb (.cells #[.slice ya1 q0.1.length yc1, .slice ya2 q0.2.length yc2] 65))); have HY1 := Lib.hid (HA.out.1.below hb); have HY2 := Lib.hid hy2; have hO7 := Lib.hid (hO1.out.below RuleR.ok HZ.out); have hsa := Lib.hid HA.out.2.size; clear hy2 hb)
                    | (refine step_app_one RuleR.ok _ _ 50 (by rfl) (by rfl) w3.heap.size 65 i65 (.agg #[.slice none 0 0, .slice none 0 0]) 48 Try.underlying50 hi hz hsz hby rfl (by decide) (by rfl) hO7.out (us := [.slice ya1 q0.1.length yc1, .slice ya2 q0.2.length yc2]) (y := q0) (by rfl) (by rfl) rfl (fun q hq => by simp at hq; rcases hq with rfl | rfl <;> rfl) ⟨_, _, rfl, HY1.out.mono (.weak fun q hq => ⟨Nat.le_trans (Nat.le_trans HB1.out.size (by exact Nat.le_refl _)) hq, fun e => by have h1 := hown.out q e; have h2 : W1.heap.size ≤ q := hq; omega⟩), HY2.out.mono (.weak fun q hq => ⟨Nat.le_trans (Nat.le_trans HB1.out.size hsa.out) hq, fun e => by have h1 := hown.out q e; have h2 : wa.heap.size ≤ q := hq; have h3 := hsa.out; omega⟩)⟩ hlt'.out (by decide) (ext_trans HB1.out HZ.out).size (by rfl) ?_; intro v' w7 hown7 hb7 hk7 _))
                go_wp2_with fail
                go_roundw
                case rel => exact ⟨k + 1, by omega, by go_num, by rw [hs.out]; exact hown7, (ext_trans HB1.out HZ.out).trans hb7⟩
                case measure => simp [intOf]; omega
              · obtain rfl : k = e2.length := by omega
                have hO2 := hO.out.isRow RuleR.ok (T := Fr w3.heap.size) (fun b h => h) (fun b h => h) (by rw [List.length_take]; omega)
                rw [List.take_length] at hO2
                have HO2 := Lib.hid hO2
                have hSr := HS3.out.below hB.out
                have cL := hSr.c1
                have hOw := Lib.hid (own_rules_calls l2 (fun p hp => ruleE_chk (hI1.out.rul.2 p hp)) (by have := hI1.out.rul.1; omega) _ wr (IsRow.any RuleR.ok hSr.rules))
                obtain ⟨xl, xlc, rfl⟩ := hSr.rules.isSlice
                clear hO2 hSr
                go_wp2_with fail
                refine hOw.out.mono ?_
                rintro y w5 ⟨z, rfl, hz5, hb5⟩
                go_wp2_with fail
                go_ret3
                rw [hTE.out.1, hTE.out.2.1, hTE.out.2.2]
                have hle := (ext_trans HB3.out hB.out).size
                exact ⟨_, _, rfl, hz5.mono RuleR.ok (.weak fun q hq => Nat.le_trans hle hq), IsRow.mono RuleR.ok (HO2.out.below RuleR.ok hb5) (.weak fun q hq => Nat.le_trans HB3.out.size hq), ext_trans (ext_trans HB3.out hB.out) hb5⟩
          · have h' : ((turnV fb r l p e).1 != 0) = true := by simpa using ht
            have hTE : Hid (tuE fb r l (p :: e) = (turnV fb r l p e).1 ∧ tuL fb r l (p :: e) = [] ∧ tuP fb r l (p :: e) = []) := tu_err hVp.out ht
            clear ht hTI
            go_wp2_with fail
            refine hT.out.mono ?_
            rintro y w3 ⟨rfl, -, hk3⟩
            have HB3 : Hid (Below w.heap.size w w3) := hbx.out.trans (keeps_below hk3 hB2z.out (Nat.le_trans hB2z.out (Nat.le_of_lt hB2y.out)))
            clear hk3
            go_wp2_with fail
            go_ret3
            rw [hTE.out.1, hTE.out.2.1, hTE.out.2.2]
            exact ⟨_, _, rfl, .nil _ _, .nil _ _, HB3.out⟩
      | false =>
        have hT : Hid (tuE fb r l e = 6 ∧ tuL fb r l e = [] ∧ tuP fb r l e = []) := tu_err (by rw [tuE, if_pos h0, if_pos hf, hfl]; rfl) (by decide)
        have hB : Hid (fallsB r l = false) := by rw [Hid, fallsB, hf, hfl]; rfl
        clear h0 hf hfl hk heq hel
        go_enter Try.func60, Try.ntmps60
        go_wp2_with fail
        refine hA.out.mono ?_
        rintro y w1 ⟨rfl, hb1⟩
        have HB1 := Lib.hid hb1
        rw [H0.out]
        clear hb1
        go_wp2_with fail
        refine (hF.out w1 HB1.out).mono ?_
        rintro y w2 ⟨rfl, hb2⟩
        have HB2 := Lib.hid (ext_trans HB1.out hb2)
        rw [HF0.out, hB.out]
        clear hb2
        go_wp2_with fail
        go_ret3
        rw [hT.out.1, hT.out.2.1, hT.out.2.2]
        exact ⟨_, _, rfl, .nil _ _, .nil _ _, HB2.out⟩
    · have hT : Hid (tuE fb r l e = fallsE r l ∧ tuL fb r l e = [] ∧ tuP fb r l e = []) := tu_err (by rw [tuE, if_pos h0, if_neg hf]) hf
      have h' : (fallsE r l != 0) = true := by simpa using hf
      clear h0 hf hk heq hel
      go_enter Try.func60, Try.ntmps60
      go_wp2_with fail
      refine hA.out.mono ?_
      rintro y w1 ⟨rfl, hb1⟩
      have HB1 := Lib.hid hb1
      rw [H0.out]
      clear hb1
      go_wp2_with fail
      refine (hF.out w1 HB1.out).mono ?_
      rintro y w2 ⟨rfl, hb2⟩
      have HB2 := Lib.hid (ext_trans HB1.out hb2)
      clear hb2
      go_wp2_with fail
      go_ret3
      rw [hT.out.1, hT.out.2.1, hT.out.2.2]
      exact ⟨_, _, rfl, .nil _ _, .nil _ _, HB2.out⟩
  · have hT : Hid (tuE fb r l e = caE r e ∧ tuL fb r l e = [] ∧ tuP fb r l e = []) := tu_err (by rw [tuE, if_neg h0]) h0
    have h' : (caE r e != 0) = true := by simpa using h0
    clear h0
    go_enter Try.func60, Try.ntmps60
    go_wp2_with fail
    refine hA.out.mono ?_
    rintro y w1 ⟨rfl, hb1⟩
    go_wp2_with fail
    go_ret3
    rw [hT.out.1, hT.out.2.1, hT.out.2.2]
    exact ⟨_, _, rfl, .nil _ _, .nil _ _, hb1⟩

end Go.Proofs.Ytepddehodmljeaa
