/- Walks: CloseKeeps. -/
import Derived.Test.YtepddehodmljeaaH7
import Derived.Test.YtepddehodmljeaaYk
namespace Go.Proofs.Ytepddehodmljeaa
open Go.RowKit Go.Maps

def holE (m : List Int) (e : List Ru) : Bool := decide (∀ j, j < e.length → holB m (nthR e j).1 (nthR e j).2 = true)
theorem holE_iff {m : List Int} {e : List Ru} (he : EqsOk e) : holE m e = true ↔ Wor m e := by
  rw [holE, decide_eq_true_iff]
  constructor
  · intro h p hp
    obtain ⟨j, hj, rfl⟩ := List.getElem_of_mem hp
    have := h j hj
    rw [nthR_eq hj] at this
    exact (holB_iff (he _ hp).1 (he _ hp).2).1 this
  · intro h j hj
    have hm := nthR_mem hj
    exact (holB_iff (he _ hm).1 (he _ hm).2).2 (h _ hm)

def holP (m : List Int) (e : List Ru) (k : Nat) : Bool := decide (∀ j, j < k → holB m (nthR e j).1 (nthR e j).2 = true)
theorem holP_succ {m : List Int} {e : List Ru} {k : Nat} (h : holP m e k = true) : holP m e (k + 1) = holB m (nthR e k).1 (nthR e k).2 := by
  have h' := of_decide_eq_true h
  cases hb : holB m (nthR e k).1 (nthR e k).2 with
  | true =>
    refine decide_eq_true fun j hj => ?_
    by_cases hjk : j = k
    · rw [hjk]; exact hb
    · exact h' j (by omega)
  | false => exact decide_eq_false fun hh => by rw [hh k (by omega)] at hb; cases hb
theorem holP_end {m : List Int} {e : List Ru} {k : Nat} {wb c : Bool} (hk : k ≤ e.length) (hc : c = (wb && holP m e k)) (h : k = e.length ∨ c = false) : c = (wb && holE m e) := by
  rcases h with h | h
  · rw [hc, h]; rfl
  · rw [h] at hc ⊢
    cases wb with
    | false => rfl
    | true =>
      have hp : holP m e k = false := hc.symm
      have : holE m e = false := decide_eq_false fun hh => of_decide_eq_false hp fun j hj => hh j (by omega)
      rw [this]; rfl
theorem eqsL_of : ∀ {e : List Ru}, EqsOk e → eqsL e = 0
  | [], _ => rfl
  | p :: e, h => by
    obtain ⟨h1, h2⟩ := h p (List.mem_cons_self ..)
    unfold eqsL
    rw [if_pos (by rw [chk2, if_pos h1, h2])]
    exact eqsL_of fun q hq => h q (List.mem_cons_of_mem _ hq)
theorem eqsE_of {e : List Ru} (h : EqsOk e) (hl : e.length ≤ 40) : eqsE e = 0 := by
  rw [eqsE, if_neg (by omega), eqsL_of h]
theorem close_keeps {fb : Fb} (hfb : FbOk fb) {r : List Int} {l : Rus} {e : List Ru} (h : tuE fb r l e = 0) :
    (EqsOk e ∧ e.length ≤ 40 ∧ eqsE e = 0) ∧ Rul l ∧ Rul (tuL fb r l e) ∧ (EqsOk (tuP fb r l e) ∧ (tuP fb r l e).length ≤ 40 ∧ eqsE (tuP fb r l e) = 0) ∧
      ∀ m, (worB m l && holE m e) = (worB m (tuL fb r l e) && holE m (tuP fb r l e)) := by
  have hL : tuL fb r l e = (tuV fb r l e).2.1 := by rw [tuL, if_pos h]
  have hP : tuP fb r l e = (tuV fb r l e).2.2 := by rw [tuP, if_pos h]
  rw [hL, hP]
  unfold tuE at h
  split at h
  · rename_i h0
    obtain ⟨hr, hl, he⟩ := caE_zero h0
    split at h
    · rename_i hf
      obtain ⟨-, hrl⟩ := fallsE_zero hf
      split at h
      · rename_i hfl
        cases e with
        | nil => cases h
        | cons p e =>
          have hI : Inv r l (p :: e) := ⟨hr, hrl, hfl, he⟩
          have hT := turn_is (fb := fb) (r := r) (l := l) (p := p) (e := e) h
          have hI' := turn_inv hfb hI hT
          have hl' := turn_len hT (by simp at hl; omega)
          show _ ∧ _ ∧ Rul (turnV fb r l p e).2.1 ∧ (EqsOk (turnV fb r l p e).2.2 ∧ (turnV fb r l p e).2.2.length ≤ 40 ∧ eqsE (turnV fb r l p e).2.2 = 0) ∧ ∀ m, _ = (worB m (turnV fb r l p e).2.1 && holE m (turnV fb r l p e).2.2)
          refine ⟨⟨he, hl, eqsE_of he hl⟩, hrl, hI'.rul, ⟨hI'.eqs, hl', eqsE_of hI'.eqs hl'⟩, fun m => ?_⟩
          have hh := turn_hol hfb hI hT m
          rw [Bool.eq_iff_iff, Bool.and_eq_true, Bool.and_eq_true, worB_iff hrl, holE_iff he, worB_iff hI'.rul, holE_iff hI'.eqs]
          exact hh
      · cases h
    · rename_i hf; exact absurd h hf
  · rename_i h0; exact absurd h h0

set_option maxRecDepth 100000 in
set_option maxHeartbeats 4000000 in
theorem CloseKeeps_calls (r : List Int) (l : Rus) (e : List Ru) (m : List Int) (rv lv ev : Value) (mv : Array Value) (w : World) (hr : IsInts Any w rv r) (hl : IsRules Any w lv l) (he : IsRules Any w ev e) (hm : IsMod m mv) :
    Calls Try.prog 10 #[rv, lv, ev, .agg mv] w fun y w' => y = .returned (.bool true) ∧ Below w.heap.size w w' := by
  obtain ⟨fb, hfb⟩ := exists_fb
  have hB00 := Lib.hid (below_alloc w (.cells mv 57))
  have hblk : Hid (∀ W, Below (w.alloc (.cells mv 57)).heap.size (w.alloc (.cells mv 57)) W → W.heap[w.heap.size]? = some (.cells mv 57 (0, 0))) := fun W hW => by
    rw [hW.block _ (by simp)]
    exact heap_alloc_new _ _
  have hrng : Hid (∀ W, Below (w.alloc (.cells mv 57)).heap.size (w.alloc (.cells mv 57)) W → W.rangeAt w.heap.size 0 mv.toList) := fun W hW j v hj => by
    have hz : w.heap.size < (w.alloc (.cells mv 57)).heap.size := by simp
    refine (hW.cell (p := ⟨w.heap.size, 0 + j, none⟩) hz).trans ?_
    rw [World.cell?_alloc_at _ _ _ _ rfl, Nat.zero_add]
    simpa using hj
  have h57 : (Try.prog.info? 57).map (·.size) = some mv.size := by rw [hm.size]; kernel_rfl
  have h57' : (Try.prog.info? 57).map (·.size) = some mv.toList.length := by rw [h57]; simp
  have hWo := Lib.hid fun l hl v w hv => world_calls m mv hm l hl v w hv
  have hHo := Lib.hid fun a b ha hb u v w hu hv => holds_calls m mv hm a b ha hb u v w hu hv
  have HL := Lib.hid (hl.below RuleR.ok hB00.out)
  have HE := Lib.hid (he.below RuleR.ok hB00.out)
  have hTu := Lib.hid (Turn_calls hfb r l e rv lv ev _ (hr.below hB00.out) HL.out HE.out)
  obtain ⟨ra, rc, rfl⟩ := hr.isSlice
  obtain ⟨la, lc, rfl⟩ := hl.isSlice
  obtain ⟨ea, ec, rfl⟩ := he.isSlice
  clear hr hl he hm
  by_cases h0 : tuE fb r l e = 0
  · have H0 := Lib.hid h0
    obtain ⟨⟨k1, k2, k3⟩, k4, k5, ⟨k6, k7, k8⟩, k9⟩ := close_keeps hfb h0
    have K1 := Lib.hid k1
    have K3 := Lib.hid k3
    have K4 : Hid (rulesE l = 0) := rulesE_zero.2 k4
    have K5 : Hid (rulesE (tuL fb r l e) = 0) := rulesE_zero.2 k5
    have K4' := Lib.hid k4
    have K5' := Lib.hid k5
    have K6 := Lib.hid k6
    have K8 := Lib.hid k8
    have K9 := Lib.hid (k9 m)
    generalize tuL fb r l e = x at *
    generalize tuP fb r l e = p at *
    have hei : (e.length : Int) ≤ 40 := by omega
    have hpi : (p.length : Int) ≤ 40 := by omega
    clear h0 k1 k3 k4 k5 k6 k8 k9 hfb
    go_enter Try.func10, Try.ntmps10
    go_wp2_with fail
    refine hTu.out.mono ?_
    rintro y w1 ⟨z, zp, rfl, hz, hzp, hb1⟩
    have HX1 := Lib.hid (IsRow.any RuleR.ok hz)
    have HP1 := Lib.hid (IsRow.any RuleR.ok hzp)
    have HL1 := Lib.hid (HL.out.below RuleR.ok hb1)
    have HE1 := Lib.hid (HE.out.below RuleR.ok hb1)
    have HB1 := Lib.hid hb1
    obtain ⟨za, zc, rfl⟩ := hz.isSlice
    obtain ⟨pa, pc, rfl⟩ := hzp.isSlice
    have hc1 := Lib.hid (RulesError_calls l _ w1 HL1.out)
    rw [H0.out]
    clear hz hzp hb1
    go_wp2_with fail
    refine hc1.out.mono ?_
    rintro y w2 ⟨rfl, hb2⟩
    have HX2 := Lib.hid (HX1.out.below RuleR.ok hb2)
    have HP2 := Lib.hid (HP1.out.below RuleR.ok hb2)
    have HL2 := Lib.hid (HL1.out.below RuleR.ok hb2)
    have HE2 := Lib.hid (HE1.out.below RuleR.ok hb2)
    have HB2 := Lib.hid (ext_trans HB1.out hb2)
    have hc2 := Lib.hid (EqsError_calls e _ w2 HE2.out)
    rw [K4.out]
    clear hb2
    go_wp2_with fail
    refine hc2.out.mono ?_
    rintro y w3 ⟨rfl, hb3⟩
    have HX3 := Lib.hid (HX2.out.below RuleR.ok hb3)
    have HP3 := Lib.hid (HP2.out.below RuleR.ok hb3)
    have HL3 := Lib.hid (HL2.out.below RuleR.ok hb3)
    have HE3 := Lib.hid (HE2.out.below RuleR.ok hb3)
    have HB3 := Lib.hid (ext_trans HB2.out hb3)
    have hc3 := Lib.hid (RulesError_calls x _ w3 HX3.out)
    rw [K3.out]
    clear hb3
    go_wp2_with fail
    refine hc3.out.mono ?_
    rintro y w4 ⟨rfl, hb4⟩
    have HX4 := Lib.hid (HX3.out.below RuleR.ok hb4)
    have HP4 := Lib.hid (HP3.out.below RuleR.ok hb4)
    have HL4 := Lib.hid (HL3.out.below RuleR.ok hb4)
    have HE4 := Lib.hid (HE3.out.below RuleR.ok hb4)
    have HB4 := Lib.hid (ext_trans HB3.out hb4)
    have hc4 := Lib.hid (EqsError_calls p _ w4 HP4.out)
    rw [K5.out]
    clear hb4
    go_wp2_with fail
    refine hc4.out.mono ?_
    rintro y w5 ⟨rfl, hb5⟩
    have HX5 := Lib.hid (HX4.out.below RuleR.ok hb5)
    have HP5 := Lib.hid (HP4.out.below RuleR.ok hb5)
    have HL5 := Lib.hid (HL4.out.below RuleR.ok hb5)
    have HE5 := Lib.hid (HE4.out.below RuleR.ok hb5)
    have HB5 := Lib.hid (ext_trans HB4.out hb5)
    rw [K8.out]
    clear hb5
    go_upto_region 4 with fail
    go_cut [12, 13] (fun s12 s13 wx => s12 = .bool (worB m l) ∧ s13 = .bool (worB m x) ∧ Hid (Below w5.heap.size w5 wx))
    case first =>
      have hA0 := Lib.hid (hWo.out l K4'.out _ w5.drew (HL5.out.below RuleR.ok (below_drew _ w5)))
      have hB0 := Lib.hid (hWo.out x K5'.out _ w5.drew (HX5.out.below RuleR.ok (below_drew _ w5)))
      have hA1 := Lib.hid fun W (hb : Below w5.heap.size w5 W) => hWo.out l K4'.out _ W (HL5.out.below RuleR.ok hb)
      have hB1 := Lib.hid fun W (hb : Below w5.heap.size w5 W) => hWo.out x K5'.out _ W (HX5.out.below RuleR.ok hb)
      have hS := Lib.hid fun W (hb : Below w5.heap.size w5 W) => hrng.out W (ext_trans HB5.out hb)
      refine wp_region_held_drew (S := fun W => W.rangeAt w.heap.size 0 mv.toList) (by kernel_rfl) (hS.out _ (below_drew _ w5)) (fun hHeld => ?_)
      refine wpAnyH_take (i := 0) (v := .agg mv) rfl (by kernel_rfl) (by kernel_rfl) (by kernel_rfl) (fun _ _ _ h => h) (yieldsIf_load_mid (by rfl) 57 _ rfl w.heap.size 0 rfl mv.toList _ (fun w h => h) Try.underlying57 rfl h57') (by assumption) ?_
      try simp only [Act.put, List.getElem_toArray, List.getElem_cons_zero, List.setIfInBounds_toArray, List.set_cons_zero, List.set_cons_succ]
      refine wpAnyH_take (i := 3) (v := .agg mv) rfl (by kernel_rfl) (by kernel_rfl) (by kernel_rfl) (fun _ _ _ h => h) (yieldsIf_load_mid (by rfl) 57 _ rfl w.heap.size 0 rfl mv.toList _ (fun w h => h) Try.underlying57 rfl h57') (by assumption) ?_
      try simp only [Act.put, List.getElem_toArray, List.getElem_cons_zero, List.getElem_cons_succ, List.setIfInBounds_toArray, List.set_cons_zero, List.set_cons_succ]
      refine wpAnyH_take (i := 1) (v := ?v1) rfl (by kernel_rfl) (by kernel_rfl) (by kernel_rfl) (fun _ _ _ h => h) (Or.inl ⟨by rfl, ?hy1⟩) (by assumption) ?rest1
      case hy1 => (intro W _; (try simp only [List.getElem_toArray, List.getElem_cons_zero, List.getElem_cons_succ]); go_simp <;> with_reducible rfl)
      try simp only [Act.put, List.getElem_toArray, List.getElem_cons_zero, List.getElem_cons_succ, List.setIfInBounds_toArray, List.set_cons_zero, List.set_cons_succ]
      refine wpAnyH_take (i := 4) (v := ?v2) rfl (by kernel_rfl) (by kernel_rfl) (by kernel_rfl) (fun _ _ _ h => h) (Or.inl ⟨by rfl, ?hy2⟩) (by assumption) ?rest2
      case hy2 => (intro W _; (try simp only [List.getElem_toArray, List.getElem_cons_zero, List.getElem_cons_succ]); go_simp <;> with_reducible rfl)
      try simp only [Act.put, List.getElem_toArray, List.getElem_cons_zero, List.getElem_cons_succ, List.setIfInBounds_toArray, List.set_cons_zero, List.set_cons_succ]
      refine wpAnyH_ready (rs := [2]) (by kernel_rfl) (by simp) ?_
      refine AllReadyH.cons rfl (fun K hK => ?_) AllReadyH.nil
      try simp only [List.getElem_toArray, List.getElem_cons_zero, List.getElem_cons_succ]
      go_simp
      go_at_call 64
      refine hA0.out.mono ?_
      rintro y wa ⟨rfl, hba⟩
      have HA := Lib.hid (ext_trans (below_drew _ w5) hba)
      clear hba
      refine hK.out _ _ (hS.out _ HA.out) (fun hHeld => ?_)
      clear hK K
      try simp only [Act.put, List.getElem_toArray, List.getElem_cons_zero, List.getElem_cons_succ, List.setIfInBounds_toArray, List.set_cons_zero, List.set_cons_succ]
      refine wpAnyH_ready (rs := [5]) (by kernel_rfl) (by simp) ?_
      refine AllReadyH.cons rfl (fun K hK => ?_) AllReadyH.nil
      try simp only [List.getElem_toArray, List.getElem_cons_zero, List.getElem_cons_succ]
      go_simp
      go_at_call 64
      refine (hB1.out wa HA.out).mono ?_
      rintro y wb ⟨rfl, hbb⟩
      have HC := Lib.hid (ext_trans HA.out hbb)
      clear hbb
      refine hK.out _ _ (hS.out _ HC.out) (fun hHeld => ?_)
      clear hK K
      try simp only [Act.put, List.getElem_toArray, List.getElem_cons_zero, List.getElem_cons_succ, List.setIfInBounds_toArray, List.set_cons_zero, List.set_cons_succ]
      refine wpAnyH_take (i := 6) (v := ?v3) rfl (by kernel_rfl) (by kernel_rfl) (by kernel_rfl) (fun _ _ _ h => h) (Or.inl ⟨by rfl, ?hy3⟩) (by assumption) ?rest3
      case hy3 => (intro W _; (try simp only [List.getElem_toArray, List.getElem_cons_zero, List.getElem_cons_succ]); go_simp <;> with_reducible rfl)
      try simp only [Act.put, List.getElem_toArray, List.getElem_cons_zero, List.getElem_cons_succ, List.setIfInBounds_toArray, List.set_cons_zero, List.set_cons_succ]
      refine wpAnyH_take (i := 7) (v := ?v4) rfl (by kernel_rfl) (by kernel_rfl) (by kernel_rfl) (fun _ _ _ h => h) (Or.inl ⟨by rfl, ?hy4⟩) (by assumption) ?rest4
      case hy4 => (intro W _; (try simp only [List.getElem_toArray, List.getElem_cons_zero, List.getElem_cons_succ]); go_simp <;> with_reducible rfl)
      try simp only [Act.put, List.getElem_toArray, List.getElem_cons_zero, List.getElem_cons_succ, List.setIfInBounds_toArray, List.set_cons_zero, List.set_cons_succ]
      refine wpAnyH_done (by kernel_rfl) ?_ _
      go_wp2_with fail
      go_meet
      exact ⟨rfl, rfl, HC.out⟩
    case rest =>
      obtain ⟨rfl, rfl, hBx⟩ := hcut
      rename World => w6
      have HB6 := Lib.hid (ext_trans HB5.out hBx.out)
      have HP6 := Lib.hid (HP5.out.below RuleR.ok hBx.out)
      have HE6 := Lib.hid (HE5.out.below RuleR.ok hBx.out)
      go_wp2_with fail
      go_loopw [12, 14] (fun s12 s14 wr => ∃ (c : Bool) (k : Nat), k ≤ e.length ∧ s12 = .bool c ∧ s14 = .int .i64 k ∧ Hid (Below w6.heap.size w6 wr) ∧ Hid (c = (worB m l && holP m e k))) (fun _ s14 _ => e.length - (intOf s14).toNat)
      case atStart => exact ⟨_, 0, Nat.zero_le _, rfl, rfl, .refl _ _, by rw [Hid, show holP m e 0 = true from decide_eq_true fun j hj => by omega, Bool.and_true]⟩
      case round =>
        rename World => wr1
        obtain ⟨ca, k1, hk1, rfl, rfl, hBl1, hcv1⟩ := hrel
        have hBw1 := Lib.hid (ext_trans HB6.out hBl1.out)
        by_cases hlt1 : k1 < e.length
        · have hii1 : (k1 : Int) < e.length := by omega
          cases ca with
          | true =>
            obtain ⟨b, o, c, u, xx, e1, hcu0, hcx0, hu, hx⟩ := prs_at' (HE6.out.below RuleR.ok hBl1.out) hlt1
            cases e1
            have hg : (wr1.drewN 1).heap[w.heap.size]? = some (.cells mv 57 (0, 0)) := hblk.out _ (ext_trans hBw1.out (below_drewN _ wr1 1))
            obtain ⟨c1, c2⟩ := K1.out _ (nthR_mem hlt1)
            have hC := Lib.hid (hHo.out _ _ c1 c2 u xx (wr1.drewN 1) (hu.below (below_drewN _ _ _)) (hx.below (below_drewN _ _ _)))
            have hcu1 : (wr1.drewN 1).cell? ⟨b, o + k1 * 2, none⟩ = some u := hcu0
            have hcx1 : (wr1.drewN 1).cell? ⟨b, o + k1 * 2 + 1, none⟩ = some xx := hcx0
            have hnx : Hid (holB m (nthR e k1).1 (nthR e k1).2 = (worB m l && holP m e (k1 + 1))) := by
              have h1 := hcv1.out
              rw [eq_comm, Bool.and_eq_true] at h1
              rw [Hid, holP_succ h1.2, h1.1]; rfl
            clear hu hx c1 c2
            go_wp2_with fail
            refine wp_region_still_tail 11 (by kernel_rfl) (by kernel_rfl) ?_
            simp only [List.take_succ_cons, List.take_zero, List.drop_succ_cons, List.drop_zero]
            repeat (first | (refine wpStill_load_row_g (by rfl) 57 _ rfl w.heap.size rfl 57 mv (0, 0) _ hg Try.underlying57 rfl h57 ?_) | still_step)
            refine wpStill_nil ?_
            change wpList _ _ _ _ _ (wr1.drewN 1)
            generalize holB m (nthR e k1).1 (nthR e k1).2 = hv at *
            go_wp2_with fail
            refine hC.out.mono ?_
            rintro y w9 ⟨rfl, hB9⟩
            go_wp2_with fail
            go_roundw
            case rel => exact ⟨hv, k1 + 1, by omega, rfl, by go_num, ext_trans (ext_trans hBl1.out (below_drewN _ wr1 1)) hB9, hnx.out⟩
            case measure => simp [intOf]; omega
          | false =>
            have hE1 := Lib.hid (holP_end hk1 hcv1.out (.inr rfl))
            go_wp2_with fail
            have HPq := Lib.hid (HP6.out.below RuleR.ok hBl1.out)
            go_loopw [13, 15] (fun s13 s15 wr => ∃ (c : Bool) (k : Nat), k ≤ p.length ∧ s13 = .bool c ∧ s15 = .int .i64 k ∧ Hid (Below wr1.heap.size wr1 wr) ∧ Hid (c = (worB m x && holP m p k))) (fun _ s15 _ => p.length - (intOf s15).toNat)
            case atStart => exact ⟨_, 0, Nat.zero_le _, rfl, rfl, .refl _ _, by rw [Hid, show holP m p 0 = true from decide_eq_true fun j hj => by omega, Bool.and_true]⟩
            case round =>
              rename World => wr2
              obtain ⟨cb, k2, hk2, rfl, rfl, hBl2, hcv2⟩ := hrel
              have hBw2 := Lib.hid (ext_trans hBw1.out hBl2.out)
              by_cases hlt2 : k2 < p.length
              · have hii2 : (k2 : Int) < p.length := by omega
                cases cb with
                | true =>
                  obtain ⟨b, o, c, u, xx, e1, hcu0, hcx0, hu, hx⟩ := prs_at' (HPq.out.below RuleR.ok hBl2.out) hlt2
                  cases e1
                  have hg : (wr2.drewN 1).heap[w.heap.size]? = some (.cells mv 57 (0, 0)) := hblk.out _ (ext_trans hBw2.out (below_drewN _ wr2 1))
                  obtain ⟨c1, c2⟩ := K6.out _ (nthR_mem hlt2)
                  have hC := Lib.hid (hHo.out _ _ c1 c2 u xx (wr2.drewN 1) (hu.below (below_drewN _ _ _)) (hx.below (below_drewN _ _ _)))
                  have hcu1 : (wr2.drewN 1).cell? ⟨b, o + k2 * 2, none⟩ = some u := hcu0
                  have hcx1 : (wr2.drewN 1).cell? ⟨b, o + k2 * 2 + 1, none⟩ = some xx := hcx0
                  have hnx : Hid (holB m (nthR p k2).1 (nthR p k2).2 = (worB m x && holP m p (k2 + 1))) := by
                    have h1 := hcv2.out
                    rw [eq_comm, Bool.and_eq_true] at h1
                    rw [Hid, holP_succ h1.2, h1.1]; rfl
                  clear hu hx c1 c2
                  go_wp2_with fail
                  refine wp_region_still_tail 11 (by kernel_rfl) (by kernel_rfl) ?_
                  simp only [List.take_succ_cons, List.take_zero, List.drop_succ_cons, List.drop_zero]
                  repeat (first | (refine wpStill_load_row_g (by rfl) 57 _ rfl w.heap.size rfl 57 mv (0, 0) _ hg Try.underlying57 rfl h57 ?_) | still_step)
                  refine wpStill_nil ?_
                  change wpList _ _ _ _ _ (wr2.drewN 1)
                  generalize holB m (nthR p k2).1 (nthR p k2).2 = hv at *
                  go_wp2_with fail
                  refine hC.out.mono ?_
                  rintro y w9 ⟨rfl, hB9⟩
                  go_wp2_with fail
                  go_roundw
                  case rel => exact ⟨hv, k2 + 1, by omega, rfl, by go_num, ext_trans (ext_trans hBl2.out (below_drewN _ wr2 1)) hB9, hnx.out⟩
                  case measure => simp [intOf]; omega
                | false =>
                  have hE2 := Lib.hid (holP_end hk2 hcv2.out (.inr rfl))
                  go_wp2_with fail
                  refine (closeBegun_calls _).mono ?_
                  rintro y w10 ⟨rfl, hb10⟩
                  have HB10 := Lib.hid (ext_trans hBw2.out hb10)
                  clear hb10
                  go_wp2_with fail
                  go_ret
                  exact ⟨ret_bool (by simp), ext_trans hB00.out HB10.out⟩
              · have hE2 := Lib.hid (holP_end hk2 hcv2.out (.inl (by omega)))
                have hcd : cb = false := hE2.out.trans (K9.out.symm.trans hE1.out.symm)
                subst hcd
                go_wp2_with fail
                refine (closeBegun_calls _).mono ?_
                rintro y w10 ⟨rfl, hb10⟩
                have HB10 := Lib.hid (ext_trans hBw2.out hb10)
                clear hb10
                go_wp2_with fail
                go_ret
                exact ⟨ret_bool (by simp), ext_trans hB00.out HB10.out⟩
        · have hE1 := Lib.hid (holP_end hk1 hcv1.out (.inl (by omega)))
          go_wp2_with fail
          have HPq := Lib.hid (HP6.out.below RuleR.ok hBl1.out)
          go_loopw [13, 15] (fun s13 s15 wr => ∃ (c : Bool) (k : Nat), k ≤ p.length ∧ s13 = .bool c ∧ s15 = .int .i64 k ∧ Hid (Below wr1.heap.size wr1 wr) ∧ Hid (c = (worB m x && holP m p k))) (fun _ s15 _ => p.length - (intOf s15).toNat)
          case atStart => exact ⟨_, 0, Nat.zero_le _, rfl, rfl, .refl _ _, by rw [Hid, show holP m p 0 = true from decide_eq_true fun j hj => by omega, Bool.and_true]⟩
          case round =>
            rename World => wr2
            obtain ⟨cb, k2, hk2, rfl, rfl, hBl2, hcv2⟩ := hrel
            have hBw2 := Lib.hid (ext_trans hBw1.out hBl2.out)
            by_cases hlt2 : k2 < p.length
            · have hii2 : (k2 : Int) < p.length := by omega
              cases cb with
              | true =>
                obtain ⟨b, o, c, u, xx, e1, hcu0, hcx0, hu, hx⟩ := prs_at' (HPq.out.below RuleR.ok hBl2.out) hlt2
                cases e1
                have hg : (wr2.drewN 1).heap[w.heap.size]? = some (.cells mv 57 (0, 0)) := hblk.out _ (ext_trans hBw2.out (below_drewN _ wr2 1))
                obtain ⟨c1, c2⟩ := K6.out _ (nthR_mem hlt2)
                have hC := Lib.hid (hHo.out _ _ c1 c2 u xx (wr2.drewN 1) (hu.below (below_drewN _ _ _)) (hx.below (below_drewN _ _ _)))
                have hcu1 : (wr2.drewN 1).cell? ⟨b, o + k2 * 2, none⟩ = some u := hcu0
                have hcx1 : (wr2.drewN 1).cell? ⟨b, o + k2 * 2 + 1, none⟩ = some xx := hcx0
                have hnx : Hid (holB m (nthR p k2).1 (nthR p k2).2 = (worB m x && holP m p (k2 + 1))) := by
                  have h1 := hcv2.out
                  rw [eq_comm, Bool.and_eq_true] at h1
                  rw [Hid, holP_succ h1.2, h1.1]; rfl
                clear hu hx c1 c2
                go_wp2_with fail
                refine wp_region_still_tail 11 (by kernel_rfl) (by kernel_rfl) ?_
                simp only [List.take_succ_cons, List.take_zero, List.drop_succ_cons, List.drop_zero]
                repeat (first | (refine wpStill_load_row_g (by rfl) 57 _ rfl w.heap.size rfl 57 mv (0, 0) _ hg Try.underlying57 rfl h57 ?_) | still_step)
                refine wpStill_nil ?_
                change wpList _ _ _ _ _ (wr2.drewN 1)
                generalize holB m (nthR p k2).1 (nthR p k2).2 = hv at *
                go_wp2_with fail
                refine hC.out.mono ?_
                rintro y w9 ⟨rfl, hB9⟩
                go_wp2_with fail
                go_roundw
                case rel => exact ⟨hv, k2 + 1, by omega, rfl, by go_num, ext_trans (ext_trans hBl2.out (below_drewN _ wr2 1)) hB9, hnx.out⟩
                case measure => simp [intOf]; omega
              | false =>
                have hE2 := Lib.hid (holP_end hk2 hcv2.out (.inr rfl))
                have hcd : ca = false := hE1.out.trans (K9.out.trans hE2.out.symm)
                subst hcd
                go_wp2_with fail
                refine (closeBegun_calls _).mono ?_
                rintro y w10 ⟨rfl, hb10⟩
                have HB10 := Lib.hid (ext_trans hBw2.out hb10)
                clear hb10
                go_wp2_with fail
                go_ret
                exact ⟨ret_bool (by simp), ext_trans hB00.out HB10.out⟩
            · have hE2 := Lib.hid (holP_end hk2 hcv2.out (.inl (by omega)))
              have hcd : ca = cb := hE1.out.trans (K9.out.trans hE2.out.symm)
              subst hcd
              go_wp2_with fail
              refine (closeBegun_calls _).mono ?_
              rintro y w10 ⟨rfl, hb10⟩
              have HB10 := Lib.hid (ext_trans hBw2.out hb10)
              clear hb10
              go_wp2_with fail
              go_ret
              exact ⟨ret_bool (by simp), ext_trans hB00.out HB10.out⟩
  · have h' : (tuE fb r l e != 0) = true := by simpa using h0
    clear h0 hfb
    go_enter Try.func10, Try.ntmps10
    go_wp2_with fail
    refine hTu.out.mono ?_
    rintro y w1 ⟨z, zp, rfl, hz, hzp, hb1⟩
    have HB1 := Lib.hid hb1
    obtain ⟨za, zc, rfl⟩ := hz.isSlice
    obtain ⟨pa, pc, rfl⟩ := hzp.isSlice
    clear hz hzp hb1
    go_wp2_with fail
    refine (closeBegun_calls _).mono ?_
    rintro y w6 ⟨rfl, hb6⟩
    have HB6 := Lib.hid (ext_trans HB1.out hb6)
    clear hb6
    go_wp2_with fail
    go_ret
    exact ⟨rfl, ext_trans hB00.out HB6.out⟩

theorem CloseKeeps_all (r : List Int) (l : Rus) (e : List Ru) (m : List Int) (rv lv ev y : Value) (w : World) (hr : IsInts Any w rv r) (hl : IsRules Any w lv l) (he : IsRules Any w ev e) (hm : ∃ mv, y = .agg mv ∧ IsMod m mv) :
    Calls Try.prog 10 #[rv, lv, ev, y] w fun y w' => y = .returned (.bool true) ∧ Below w.heap.size w w' := by
  obtain ⟨mv, rfl, h⟩ := hm
  exact CloseKeeps_calls r l e m rv lv ev mv w hr hl he h

end Go.Proofs.Ytepddehodmljeaa
