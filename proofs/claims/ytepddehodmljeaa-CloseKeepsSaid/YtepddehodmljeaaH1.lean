/- Walks: asked, own of close; EqsError; Clone of pairs. -/
import Derived.Test.YtepddehodmljeaaGa
import Derived.Test.YtepddehodmljeaaO6
namespace Go.Proofs.Ytepddehodmljeaa
open Go.RowKit Go.Maps

def eqsL : List Ru → Int
  | [] => 0
  | p :: e => if chk2 p.1 p.2 = 0 then eqsL e else chk2 p.1 p.2
def eqsE (e : List Ru) : Int := if 40 < e.length then 2 else eqsL e
def caE (r : List Int) (e : List Ru) : Int := if rankE r = 0 then eqsE e else rankE r
theorem eqsL_zero : ∀ {e : List Ru}, eqsL e = 0 → ∀ p ∈ e, chk p.1 = 0 ∧ chk p.2 = 0
  | [], _, p, hp => by cases hp
  | q :: e, h, p, hp => by
    unfold eqsL at h
    split at h
    · rename_i h1
      rcases List.mem_cons.1 hp with rfl | hp
      · exact chk2_zero h1
      · exact eqsL_zero h p hp
    · rename_i h1; exact absurd h h1
theorem eqsE_zero {e : List Ru} (h : eqsE e = 0) : e.length ≤ 40 ∧ ∀ p ∈ e, chk p.1 = 0 ∧ chk p.2 = 0 := by
  unfold eqsE at h
  split at h
  · omega
  · exact ⟨by omega, eqsL_zero h⟩
theorem caE_zero {r : List Int} {e : List Ru} (h : caE r e = 0) : rankE r = 0 ∧ e.length ≤ 40 ∧ ∀ p ∈ e, chk p.1 = 0 ∧ chk p.2 = 0 := by
  unfold caE at h
  split at h
  · rename_i h1; exact ⟨h1, eqsE_zero h⟩
  · rename_i h1; exact absurd h h1
theorem eqsL_drop {e : List Ru} {k : Nat} (hk : k < e.length) : eqsL (e.drop k) = if chk2 (nthR e k).1 (nthR e k).2 = 0 then eqsL (e.drop (k + 1)) else chk2 (nthR e k).1 (nthR e k).2 := by
  rw [List.drop_eq_getElem_cons hk, ← nthR_eq hk]; rfl

set_option maxRecDepth 100000 in
set_option maxHeartbeats 2000000 in
theorem asked_calls (r : List Int) (e : List Ru) (rv v : Value) (w : World) (hr : IsInts Any w rv r) (hv : IsRules Any w v e) :
    Calls Try.prog 126 #[rv, v] w fun x w' => x = .returned (.int .i64 (caE r e)) ∧ Below w.heap.size w w' := by
  have hR := Lib.hid (RankCheck_calls r rv w hr)
  obtain ⟨ra, rc, rfl⟩ := hr.isSlice
  obtain ⟨va, vc, rfl⟩ := hv.isSlice
  have HV := Lib.hid hv
  by_cases hr0 : rankE r = 0
  · have HR0 := Lib.hid hr0
    by_cases hl : 40 < e.length
    · have hC : Hid (caE r e = 2) := by rw [Hid, caE, if_pos hr0, eqsE, if_pos hl]
      have hli : (40 : Int) < e.length := by omega
      clear hr hv hr0
      go_enter Try.func126, Try.ntmps126
      go_wp2_with fail
      refine hR.out.mono ?_
      rintro x w' ⟨rfl, rfl⟩
      rw [HR0.out]
      go_wp2_with fail
      go_ret
      exact ⟨ret_int hC.out.symm, .refl _ _⟩
    · have hC : Hid (caE r e = eqsL e) := by rw [Hid, caE, if_pos hr0, eqsE, if_neg hl]
      have hli : (e.length : Int) ≤ 40 := by omega
      clear hr hv hr0
      go_enter Try.func126, Try.ntmps126
      go_wp2_with fail
      refine hR.out.mono ?_
      rintro x w' ⟨rfl, rfl⟩
      rw [HR0.out]
      go_wp2_with fail
      go_loopw [19] (fun s19 wr => ∃ k : Nat, k ≤ e.length ∧ s19 = .int .i64 k ∧ Hid (Below w.heap.size w wr) ∧ Hid (eqsL (e.drop k) = eqsL e)) (fun s19 _ => e.length - (intOf s19).toNat)
      case atStart => exact ⟨0, Nat.zero_le _, rfl, .refl _ _, by rw [List.drop_zero]; rfl⟩
      case round =>
        rename World => wr
        obtain ⟨k, hk, rfl, hB, hN⟩ := hrel
        by_cases hlk : k < e.length
        · have hkk : (k : Int) < e.length := by omega
          have hVr : IsRules Any wr (.slice va e.length vc) e := HV.out.below RuleR.ok hB.out
          obtain ⟨-, ⟨rfl, -⟩ | ⟨b, o, c, eq0, -, -, hc⟩⟩ := hVr.cells
          · simp at hlk
          · cases eq0
            obtain ⟨u, y, hu, hy, hiu, hiy⟩ := hc k hlk
            obtain ⟨a1, c1, e1⟩ := hiu.isSlice
            obtain ⟨a2, c2, e2⟩ := hiy.isSlice
            subst e1 e2
            have hb1 := below_alloc wr (.cells #[.slice a1 (nthR e k).1.length c1, .slice a2 (nthR e k).2.length c2] 65)
            have hM := Lib.hid (Both_calls (nthR e k).1 (nthR e k).2 _ _ _ (hiu.below hb1) (hiy.below hb1))
            have hB2 := Lib.hid (ext_trans hB.out hb1)
            have hd := Lib.hid (eqsL_drop hlk)
            clear hiu hiy hb1 hc
            by_cases e0 : chk2 (nthR e k).1 (nthR e k).2 = 0
            · have E0 := Lib.hid e0
              have hN' : Hid (eqsL (e.drop (k + 1)) = eqsL e) := by rw [Hid, ← hN.out, hd.out, if_pos e0]
              clear e0
              go_wp2_with fail
              refine hM.out.mono ?_
              rintro x w' ⟨rfl, rfl⟩
              rw [E0.out]
              go_wp2_with fail
              go_roundw
              case rel => exact ⟨k + 1, by omega, by go_num, hB2.out, hN'.out⟩
              case measure => simp [intOf]; omega
            · have h' : (chk2 (nthR e k).1 (nthR e k).2 != 0) = true := by simpa using e0
              have hN' : Hid (eqsL e = chk2 (nthR e k).1 (nthR e k).2) := by rw [Hid, ← hN.out, hd.out, if_neg e0]
              clear e0
              go_wp2_with fail
              refine hM.out.mono ?_
              rintro x w' ⟨rfl, rfl⟩
              go_wp2_with fail
              go_ret
              exact ⟨ret_int (hC.out.trans hN'.out).symm, hB2.out⟩
        · obtain rfl : k = e.length := by omega
          have hN' : Hid (eqsL e = 0) := by rw [Hid, ← hN.out, List.drop_length]; rfl
          go_wp2_with fail
          go_ret
          exact ⟨ret_int (hC.out.trans hN'.out).symm, hB.out⟩
  · have h' : (rankE r != 0) = true := by simpa using hr0
    have hC : Hid (caE r e = rankE r) := by rw [Hid, caE, if_neg hr0]
    clear hr hv hr0
    go_enter Try.func126, Try.ntmps126
    go_wp2_with fail
    refine hR.out.mono ?_
    rintro x w' ⟨rfl, rfl⟩
    go_wp2_with fail
    go_ret
    exact ⟨ret_int hC.out.symm, .refl _ _⟩

set_option maxRecDepth 100000 in
set_option maxHeartbeats 2000000 in
theorem EqsError_calls (e : List Ru) (v : Value) (w : World) (hv : IsRules Any w v e) :
    Calls Try.prog 62 #[v] w fun x w' => x = .returned (.int .i64 (eqsE e)) ∧ Below w.heap.size w w' := by
  obtain ⟨va, vc, rfl⟩ := hv.isSlice
  have HV := Lib.hid hv
  by_cases hl : 40 < e.length
  · have hC : Hid (eqsE e = 2) := by rw [Hid, eqsE, if_pos hl]
    have hli : (40 : Int) < e.length := by omega
    clear hv
    go_enter Try.func62, Try.ntmps62
    go_wp2_with fail
    go_ret
    exact ⟨ret_int hC.out.symm, .refl _ _⟩
  · have hC : Hid (eqsE e = eqsL e) := by rw [Hid, eqsE, if_neg hl]
    have hli : (e.length : Int) ≤ 40 := by omega
    clear hv
    go_enter Try.func62, Try.ntmps62
    go_wp2_with fail
    go_loopw [3] (fun s3 wr => ∃ k : Nat, k ≤ e.length ∧ s3 = .int .i64 k ∧ Hid (Below w.heap.size w wr) ∧ Hid (eqsL (e.drop k) = eqsL e)) (fun s3 _ => e.length - (intOf s3).toNat)
    case atStart => exact ⟨0, Nat.zero_le _, rfl, .refl _ _, by rw [List.drop_zero]; rfl⟩
    case round =>
      rename World => wr
      obtain ⟨k, hk, rfl, hB, hN⟩ := hrel
      by_cases hlk : k < e.length
      · have hkk : (k : Int) < e.length := by omega
        have hVr : IsRules Any wr (.slice va e.length vc) e := HV.out.below RuleR.ok hB.out
        obtain ⟨-, ⟨rfl, -⟩ | ⟨b, o, c, eq0, -, -, hc⟩⟩ := hVr.cells
        · simp at hlk
        · cases eq0
          obtain ⟨u, y, hu, hy, hiu, hiy⟩ := hc k hlk
          obtain ⟨a1, c1, e1⟩ := hiu.isSlice
          obtain ⟨a2, c2, e2⟩ := hiy.isSlice
          subst e1 e2
          have hM := Lib.hid (twoErrors_calls (nthR e k).1 (nthR e k).2 _ _ wr.drew (hiu.below (below_drew _ _)) (hiy.below (below_drew _ _)))
          have hd := Lib.hid (eqsL_drop hlk)
          clear hiu hiy hc
          by_cases e0 : chk2 (nthR e k).1 (nthR e k).2 = 0
          · have E0 := Lib.hid e0
            have hN' : Hid (eqsL (e.drop (k + 1)) = eqsL e) := by rw [Hid, ← hN.out, hd.out, if_pos e0]
            rw [E0.out] at hM
            clear e0
            go_wp2_with fail
            go_region_held3 (fun W => W.cell? ⟨b, o + k * 2, none⟩ = some (.slice a1 (nthR e k).1.length c1) ∧ W.cell? ⟨b, o + k * 2 + 1, none⟩ = some (.slice a2 (nthR e k).2.length c2)) (exact ⟨hu, hy⟩) (first | (go_at_call 109; (with_reducible refine hM.out.mono ?_); rintro x w' ⟨rfl, rfl⟩))
            go_wp2_with fail
            go_roundw
            case rel => exact ⟨k + 1, by omega, by go_num, ext_trans hB.out (below_drew _ _), hN'.out⟩
            case measure => simp [intOf]; omega
          · have h' : (chk2 (nthR e k).1 (nthR e k).2 != 0) = true := by simpa using e0
            have hN' : Hid (eqsL e = chk2 (nthR e k).1 (nthR e k).2) := by rw [Hid, ← hN.out, hd.out, if_neg e0]
            clear e0
            go_wp2_with fail
            go_region_held3 (fun W => W.cell? ⟨b, o + k * 2, none⟩ = some (.slice a1 (nthR e k).1.length c1) ∧ W.cell? ⟨b, o + k * 2 + 1, none⟩ = some (.slice a2 (nthR e k).2.length c2)) (exact ⟨hu, hy⟩) (first | (go_at_call 109; (with_reducible refine hM.out.mono ?_); rintro x w' ⟨rfl, rfl⟩))
            go_wp2_with fail
            go_ret
            exact ⟨ret_int (hC.out.trans hN'.out).symm, ext_trans hB.out (below_drew _ _)⟩
      · obtain rfl : k = e.length := by omega
        have hN' : Hid (eqsL e = 0) := by rw [Hid, ← hN.out, List.drop_length]; rfl
        go_wp2_with fail
        go_ret
        exact ⟨ret_int (hC.out.trans hN'.out).symm, hB.out⟩

theorem prs_at' {S : Blk} {w : World} {v : Value} {l : Rus} (h : IsRules S w v l) {j : Nat} (hj : j < l.length) :
    ∃ b o c u x, v = .slice (some ⟨b, o, none⟩) l.length c ∧ w.cell? ⟨b, o + j * 2, none⟩ = some u ∧ w.cell? ⟨b, o + j * 2 + 1, none⟩ = some x ∧ IsInts S w u (nthR l j).1 ∧ IsInts S w x (nthR l j).2 := by
  obtain ⟨-, ⟨rfl, -⟩ | ⟨b, o, c, e, -, -, hc⟩⟩ := h.cells
  · simp at hj
  · obtain ⟨u, x, h1, h2, h3, h4⟩ := hc j hj
    exact ⟨b, o, c, u, x, e, h1, h2, h3, h4⟩
theorem takeR {l : Rus} {k : Nat} (hk : k < l.length) : l.take (k + 1) = l.take k ++ [nthR l k] := by
  rw [List.take_succ_eq_append_getElem hk, nthR_eq hk]
theorem Try.inf102 : (Try.prog.info? 102).map (fun i => (i.zero, i.size, i.bytes)) = some (some (.agg #[.slice none 0 0, .slice none 0 0]), 2, 48) := by kernel_rfl

set_option maxRecDepth 100000 in
set_option maxHeartbeats 4000000 in
theorem own_rules_calls (l : Rus) (hl : ∀ p ∈ l, chk p.1 = 0 ∧ chk p.2 = 0) (hll : l.length ≤ 40) (v : Value) (w : World) (hv : IsRules Any w v l) :
    Calls Try.prog 128 #[v] w fun e w' => ∃ y, e = .returned y ∧ IsRules (Fr w.heap.size) w' y l ∧ Below w.heap.size w w' := by
  obtain ⟨i102, hi, hz, hsz, hby⟩ := info_parts Try.inf102
  obtain ⟨va, vc, rfl⟩ := hv.isSlice
  have HV := Lib.hid hv
  have HL := Lib.hid hl
  have hli : (l.length : Int) ≤ 40 := by omega
  clear hv hl
  go_enter Try.func128, Try.ntmps128
  go_wp2_with fail
  go_loopw [3, 8] (fun out s8 wr => ∃ k : Nat, k ≤ l.length ∧ s8 = .int .i64 k ∧ Hid (OwnRow w.heap.size 102 2 RuleR (Fr w.heap.size) wr out (l.take k)) ∧ Hid (Below w.heap.size w wr)) (fun _ s8 _ => l.length - (intOf s8).toNat)
  case atStart => exact ⟨0, Nat.zero_le _, rfl, OwnRow.nil _ _ _ _, .refl _ _⟩
  case round =>
    rename World => wr
    obtain ⟨k, hk, rfl, hO, hB⟩ := hrel
    by_cases hlk : k < l.length
    · have hkk : (k : Int) < l.length := by omega
      obtain ⟨b, o, c, u, x, e, hcu, hcx, hiu, hix⟩ := prs_at' (HV.out.below RuleR.ok hB.out) hlk
      cases e
      obtain ⟨a1, c1, e1⟩ := hiu.isSlice
      obtain ⟨a2, c2, e2⟩ := hix.isSlice
      subst e1 e2
      obtain ⟨r1, r2⟩ := HL.out _ (nthR_mem hlk)
      have hs := Lib.hid (takeR hlk)
      generalize nthR l k = p at *
      obtain ⟨W1, hW1⟩ : ∃ W1, W1 = wr.alloc (.cells #[.slice a1 p.1.length c1, .slice a2 p.2.length c2] 102) := ⟨_, rfl⟩
      have hb1 : Below wr.heap.size wr W1 := by rw [hW1]; exact below_alloc _ _
      have hz1 : wr.heap.size < W1.heap.size := by rw [hW1]; simp
      have f0 : W1.cell? ⟨wr.heap.size, 0, none⟩ = some (.slice a1 p.1.length c1) := by rw [hW1]; simp [go_sem]
      have f1 : W1.cell? ⟨wr.heap.size, 1, none⟩ = some (.slice a2 p.2.length c2) := by rw [hW1]; simp [go_sem]
      have hS : Hid (∀ W, Below W1.heap.size W1 W → W.cell? ⟨wr.heap.size, 0, none⟩ = some (.slice a1 p.1.length c1) ∧ W.cell? ⟨wr.heap.size, 1, none⟩ = some (.slice a2 p.2.length c2)) := fun W hb =>
        ⟨(hb.cell (p := ⟨wr.heap.size, 0, none⟩) hz1).trans f0, (hb.cell (p := ⟨wr.heap.size, 1, none⟩) hz1).trans f1⟩
      have hA := Lib.hid (Clone_calls p.1 _ W1.drew (ne_of_chk r1) (by have := len_of_chk r1; omega) (hiu.below (ext_trans hb1 (below_drew _ W1))))
      have hBB := Lib.hid fun W (hb : Below W1.heap.size W1 W) => Clone_calls p.2 _ W (ne_of_chk r2) (by have := len_of_chk r2; omega) (hix.below (ext_trans hb1 hb))
      have hO1 := Lib.hid (hO.out.below RuleR.ok hb1)
      have HB1 := Lib.hid (ext_trans hB.out hb1)
      have hown : Hid (∀ q, u3.ownBlock = some q → q < wr.heap.size) := fun q hq => (hO.out.block q hq).2
      have hlt' : Hid (((l.take k).length + 1) * 48 ≤ 100000000) := by rw [Hid, List.length_take]; omega
      have hSk : Hid (∀ W W', Below W1.heap.size W1 W → Keeps (fun q => u3.ownBlock = some q) W W' → W'.cell? ⟨wr.heap.size, 0, none⟩ = some (.slice a1 p.1.length c1) ∧ W'.cell? ⟨wr.heap.size, 1, none⟩ = some (.slice a2 p.2.length c2)) := fun W W' hb hk => by
        have hl : wr.heap.size < W.heap.size := Nat.lt_of_lt_of_le hz1 hb.size
        have hn : ¬ u3.ownBlock = some wr.heap.size := fun e => by have := hown.out _ e; omega
        obtain ⟨q0, q1⟩ := hS.out W hb
        exact ⟨(World.cell?_of_block (w := W) (a := ⟨wr.heap.size, 0, none⟩) (hk.block _ hl hn)).trans q0, (World.cell?_of_block (w := W) (a := ⟨wr.heap.size, 1, none⟩) (hk.block _ hl hn)).trans q1⟩
      clear hiu hix r1 r2 hb1 f0 f1
      go_wp2_with fail
      rw [← hW1]
      clear hW1
      go_region_held3 (fun W => W.cell? ⟨wr.heap.size, 0, none⟩ = some (.slice a1 p.1.length c1) ∧ W.cell? ⟨wr.heap.size, 1, none⟩ = some (.slice a2 p.2.length c2))
        (first | exact hS.out _ (below_drew _ W1) | exact hS.out _ HA.out.2 | exact hS.out _ HZ.out | exact hS.out _ HZa.out | exact hSk.out _ _ HZ.out hk7)
        (first
          | (go_at_call 116; (with_reducible refine hA.out.mono ?_); rintro e wa ⟨y1, rfl, hy1, hb⟩; have HA := Lib.hid (And.intro hy1 (ext_trans (below_drew _ W1) hb)); clear hy1 hb)
          | (go_at_call 116; (with_reducible refine (hBB.out wa HA.out.2).mono ?_); rintro e wb ⟨y2, rfl, hy2, hb⟩; obtain ⟨ya1, yc1, eY1⟩ := HA.out.1.isSlice; obtain ⟨ya2, yc2, eY2⟩ := hy2.isSlice; subst eY1 eY2; have HZ := Lib.hid (ext_trans HA.out.2 hb); have HZa := Lib.hid (ext_trans HZ.out (below_alloc wb (.cells #[.slice ya1 p.1.length yc1, .slice ya2 p.2.length yc2] 102))); have HY1 := Lib.hid (HA.out.1.below hb); have HY2 := Lib.hid hy2; have hO7 := Lib.hid (hO1.out.below RuleR.ok HZ.out); have hsa := Lib.hid HA.out.2.size; clear hy2 hb)
          | (refine step_app_one RuleR.ok _ _ 49 (by rfl) (by rfl) w.heap.size 102 i102 (.agg #[.slice none 0 0, .slice none 0 0]) 48 Try.underlying49 hi hz hsz hby rfl (by decide) (by rfl) hO7.out (us := [.slice ya1 p.1.length yc1, .slice ya2 p.2.length yc2]) (y := p) (by rfl) (by rfl) rfl (fun q hq => by simp at hq; rcases hq with rfl | rfl <;> rfl) ⟨_, _, rfl, HY1.out.mono (.weak fun q hq => ⟨Nat.le_trans (Nat.le_trans HB1.out.size (by exact Nat.le_refl _)) hq, fun e => by have h1 := hown.out q e; have h2 : W1.heap.size ≤ q := hq; omega⟩), HY2.out.mono (.weak fun q hq => ⟨Nat.le_trans (Nat.le_trans HB1.out.size hsa.out) hq, fun e => by have h1 := hown.out q e; have h2 : wa.heap.size ≤ q := hq; have h3 := hsa.out; omega⟩)⟩ hlt'.out (by decide) (ext_trans HB1.out HZ.out).size (by rfl) ?_; intro v' w7 hown7 hb7 hk7 _))
      go_wp2_with fail
      go_roundw
      case rel => exact ⟨k + 1, by omega, by go_num, by rw [hs.out]; exact hown7, (ext_trans HB1.out HZ.out).trans hb7⟩
      case measure => simp [intOf]; omega
    · obtain rfl : k = l.length := by omega
      go_wp2_with fail
      go_ret
      have := hO.out.isRow RuleR.ok (fun b h => h) (fun b h => h) (by rw [List.length_take]; omega)
      rw [List.take_length] at this
      exact ⟨_, rfl, this, hB.out⟩

end Go.Proofs.Ytepddehodmljeaa
