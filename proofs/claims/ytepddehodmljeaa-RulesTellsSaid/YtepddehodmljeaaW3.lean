/- Walks: haspref.above. -/
import Derived.Test.YtepddehodmljeaaW2
import Derived.Deep.RegionHeld3
import Derived.Deep.RegionWith
import Derived.StillTailTactics
import Derived.BigQuiet
import Derived.BigRegion
import Derived.Deep.RegionLaw
namespace Go.Proofs.Ytepddehodmljeaa
open Go.RowKit Go.Maps

set_option maxRecDepth 100000 in
set_option maxHeartbeats 8000000 in
theorem rabove_calls (r a b : List Int) (hr : r.length = 6) (ha : chk a = 0) (hb : chk b = 0) (x u v : Value) (w : World) (hx : IsInts Any w x r) (hu : IsInts Any w u a) (hv : IsInts Any w v b) :
    Calls Try.prog 136 #[x, u, v] w fun e w' => e = .returned (.bool (gt (rkF r) (tmOf a) (tmOf b))) ∧ Below w.heap.size w w' := by
  obtain ⟨u1, u2, u3, rfl⟩ := hu.cells (ne_of_chk ha)
  obtain ⟨v1, v2, v3, rfl⟩ := hv.cells (ne_of_chk hb)
  obtain ⟨x1, x2, x3, rfl⟩ := hx.cells (by intro h; rw [h] at hr; simp at hr)
  have hla := len_of_chk ha
  have hlb := len_of_chk hb
  have HX := Lib.hid hx
  have HU := Lib.hid hu
  have HV := Lib.hid hv
  have HT := Lib.hid (And.intro ha hb)
  have hpa : 0 < a.length := List.length_pos_iff.2 (ne_of_chk ha)
  have hpb : 0 < b.length := List.length_pos_iff.2 (ne_of_chk hb)
  obtain ⟨G, hG⟩ : ∃ G : Nat → Nat → Bool, ∀ i j, G i j = gt (rkF r) ((tmOf a).sub i) ((tmOf b).sub j) := ⟨_, fun _ _ => rfl⟩
  have HG := Lib.hid hG
  have hfin : Hid (G 0 0 = gt (rkF r) (tmOf a) (tmOf b)) := by rw [Hid, hG, sub_zero, sub_zero]
  rw [← hfin.out]
  have hMN := MatIs.new w
  have hM0 : Hid (MatIs w.heap.size (w.alloc (.cells Try.zeroCells195 195)) (mtF G a.length b.length a.length b.length false)) := hMN.congr fun i j _ _ => mtF_start.symm
  have hBB := Lib.hid (below_alloc w (.cells Try.zeroCells195 195))
  have hal : (a.length : Int) ≤ 30 := by omega
  have hbl : (b.length : Int) ≤ 30 := by omega
  have HR6 := Lib.hid hr
  clear hx hu hv ha hb hG hfin hMN hr
  go_enter Try.func136, Try.ntmps136
  go_wp2_with fail
  go_loopw [8] (fun s8 wr => ∃ i : Nat, i ≤ a.length ∧ s8 = .int .i64 ((i : Int) - 1) ∧ Hid (MatIs w.heap.size wr (mtF G a.length b.length i b.length false) ∧ Below w.heap.size w wr)) (fun s8 _ => (intOf s8 + 1).toNat)
  case atStart => exact ⟨a.length, Nat.le_refl _, rfl, hM0.out, hBB.out⟩
  case round =>
    obtain ⟨i', hi', rfl, hR⟩ := hrel
    rcases i' with _ | i
    · have hc0 := hR.out.1.cell (i := 0) (j := 0) (by omega) (by omega)
      rw [mtF_end hpa hpb] at hc0
      go_wp2_with fail
      go_ret
      exact ⟨rfl, hR.out.2⟩
    · rw [show (((i + 1 : Nat) : Int) - 1) = (i : Int) by omega]
      have hia : i < a.length := by omega
      have hi30 : (i : Int) < 30 := by omega
      have hii : (i : Int) < a.length := by omega
      have hi0 : 0 ≤ (i : Int) := by omega
      go_wp2_with fail
      go_loopw [9] (fun s9 wq => ∃ j : Nat, j ≤ b.length ∧ s9 = .int .i64 ((j : Int) - 1) ∧ Hid (MatIs w.heap.size wq (mtF G a.length b.length (i + 1) j false) ∧ Below w.heap.size w wq)) (fun s9 _ => (intOf s9 + 1).toNat)
      case atStart => exact ⟨b.length, Nat.le_refl _, rfl, hR.out⟩
      case round =>
        rename World => wq
        obtain ⟨j', hj', rfl, hQ⟩ := hrel
        rcases j' with _ | j
        · go_wp2_with fail
          go_roundw
          case rel => exact ⟨i, by omega, by go_num, hQ.out.1.congr fun _ _ _ _ => mtF_row, hQ.out.2⟩
          case measure => simp [intOf]
        · rw [show (((j + 1 : Nat) : Int) - 1) = (j : Int) by omega]
          have hjb : j < b.length := by omega
          have hj30 : (j : Int) < 30 := by omega
          have hjj : (j : Int) < b.length := by omega
          have hj0 : 0 ≤ (j : Int) := by omega
          go_wp2_with fail
          refine (partsAt_calls a HT.out.1 _ i hia wq (HU.out.below hQ.out.2)).mono ?_
          rintro e wp1 ⟨p, rfl, hp, hBp⟩
          have hM1 := hQ.out.1.keep hBp
          have hB1 := ext_trans hQ.out.2 hBp
          go_wp2_with fail
          refine (partsAt_calls b HT.out.2 _ j hjb wp1 (HV.out.below hB1)).mono ?_
          rintro e wp2 ⟨q, rfl, hq, hBq⟩
          have hne : ∀ b, wq.heap.size ≤ b → b ≠ w.heap.size := fun b hb e => by have := hQ.out.1.lt; omega
          have hS0 : Hid (AbSt w G a.length b.length i j p q (plI (psT a i)) (plI (psT b j)) false wp2) :=
            ⟨hM1.keep hBq, ext_trans hB1 hBq, (hp.mono (.weak hne)).mono (.of_below hBq), hq.mono (.weak fun b hb => hne b (Nat.le_trans hBp.size hb))⟩
          obtain ⟨pa, pc, rfl⟩ := hS0.out.p.isSlice
          obtain ⟨qa, qc, rfl⟩ := hS0.out.q.isSlice
          clear hp hq hM1 hB1 hBp hBq hne
          rw [plI_len, plI_len]
          have hpl : ((psT a i).length : Int) ≤ 2 := by have := ar_le (nth a i); rw [psT_len]; omega
          have hql : ((psT b j).length : Int) ≤ 2 := by have := ar_le (nth b j); rw [psT_len]; omega
          obtain ⟨C, hC⟩ : ∃ C : Nat → Bool, C 0 = false ∧ (∀ k (hk : k < (psT a i).length), C (k + 1) = (C k || G (psT a i)[k] j || decide (paT a (psT a i)[k] = paT b j))) ∧ C (psT a i).length = byPt (rkF r) ((tmOf a).sub i) ((tmOf b).sub j) := by
            refine ⟨fun k => ((psT a i).take k).any fun k => hit a b (rkF r) j k, rfl, fun k hk => ?_, ?_⟩
            · have h1 := ps_lt HT.out.1 hia (List.getElem_mem hk)
              show ((psT a i).take (k + 1)).any _ = _
              rw [List.take_succ_eq_append_getElem hk, List.any_append, List.any_cons, List.any_nil, Bool.or_false, hit, HG.out, sub_same HT.out.1 HT.out.2 h1.1 hjb, Bool.or_assoc]
              congr 1
              exact Bool.or_comm _ _
            · show ((psT a i).take _).any _ = _
              rw [List.take_length, byPt_ps HT.out.1 hia]
          have HC := Lib.hid hC
          have hXs := Lib.hid fun k (hk : k < (psT a i).length) => ps_lt HT.out.1 hia (List.getElem_mem hk)
          clear hC
          go_wp2_with fail
          go_loopw [12] (fun s12 wk => ∃ k : Nat, k ≤ (psT a i).length ∧ s12 = .int .i64 k ∧ Hid (AbSt w G a.length b.length i j (.slice pa (plI (psT a i)).length pc) (.slice qa (plI (psT b j)).length qc) (plI (psT a i)) (plI (psT b j)) (C k) wk)) (fun s12 _ => (psT a i).length - (intOf s12).toNat)
          case atStart => exact ⟨0, Nat.zero_le _, rfl, by rw [HC.out.1]; exact hS0.out⟩
          case round =>
            rename World => wk
            obtain ⟨k, hk, rfl, hAb⟩ := hrel
            by_cases hlk : k < (psT a i).length
            · have hkk : (k : Int) < (psT a i).length := by omega
              have hpp := hAb.out.p
              obtain ⟨p1, p2, p3, ep⟩ := hpp.cells (by intro h; have := congrArg List.length h; rw [plI_len] at this; simp at this; rw [this] at hlk; simp at hlk)
              cases ep
              have hce := hpp.cell (j := k) (by rw [plI_len]; exact hlk)
              rw [plI_nth hlk] at hce
              have hXk := hXs.out k hlk
              have hCk := Lib.hid (HC.out.2.1 k hlk)
              obtain ⟨hX1, hX2, -⟩ := hXk
              generalize (psT a i)[k] = y at *
              have c1 := hAb.out.mat.cell (i := i) (j := j) (by omega) (by omega)
              rw [mtF_here] at c1
              have f1 := hAb.out.mat.frozen i j
              have c2 := hAb.out.mat.cell (i := y) (j := j) (by omega) (by omega)
              rw [mtF_down hX2 hX1 hjb] at c2
              have hy30 : (y : Int) < 30 := by omega
              have hi3 : i < 30 := by omega
              have hj3 : j < 30 := by omega
              clear hpp
              cases hck : C k
              · rw [hck] at c1 hCk
                clear hck
                cases hg : G y j
                · rw [hg] at c2 hCk
                  clear hg
                  have hBk := hAb.out.bel
                  have hA0 := Lib.hid fun W (hb : Below wk.heap.size wk W) => partOf_calls a HT.out.1 (.slice (some ⟨u1, u2, none⟩) a.length u3) y hX1 W (HU.out.below (ext_trans hBk hb))
                  have hB0 := Lib.hid fun W (hb : Below wk.heap.size wk W) => partOf_calls b HT.out.2 (.slice (some ⟨v1, v2, none⟩) b.length v3) j hjb W (HV.out.below (ext_trans hBk hb))
                  have hfacts : Hid (∀ W, Below wk.heap.size wk W → W.cell? ⟨w.heap.size, i * 30 + j, none⟩ = some (.bool false) ∧ W.frozen? ⟨w.heap.size, i * 30 + j, none⟩ = false ∧ W.cell? ⟨p1, p2 + k, none⟩ = some (.int .i64 y)) := fun W hb =>
                    ⟨(hb.cell (p := ⟨w.heap.size, i * 30 + j, none⟩) hAb.out.mat.lt).trans c1, (World.frozen?_of_block (w := wk) (a := ⟨w.heap.size, i * 30 + j, none⟩) (hb.block _ hAb.out.mat.lt)).trans f1, (hb.cell (p := ⟨p1, p2 + k, none⟩) (World.block_lt_of_cell? _ _ hce)).trans hce⟩
                  have d1 : wk.drew.cell? ⟨w.heap.size, i * 30 + j, none⟩ = some (.bool false) := c1
                  have d2 : wk.drew.cell? ⟨w.heap.size, y * 30 + j, none⟩ = some (.bool false) := c2
                  have d3 : wk.drew.cell? ⟨p1, p2 + k, none⟩ = some (.int .i64 y) := hce
                  clear c1 c2 hce f1 hBk
                  go_wp2_with fail
                  refine wp_region_any (by kernel_rfl) ?_
                  change wpAny _ _ _ _ _ _ _ (World.drew _)
                  refine wpAny_take (i := 0) (v := ?v1) rfl (by kernel_rfl) (by kernel_rfl) (by kernel_rfl) (fun _ _ _ h => h) (Or.inl ⟨by rfl, ?hy1⟩) ?rest1
                  case hy1 => (intro W; (try simp only [List.getElem_toArray, List.getElem_cons_zero]); go_simp <;> with_reducible rfl)
                  try simp only [Act.put, List.getElem_toArray, List.getElem_cons_zero, List.setIfInBounds_toArray, List.set_cons_zero, List.set_cons_succ]
                  refine wpAny_take (i := 1) (v := ?v2) rfl (by kernel_rfl) (by kernel_rfl) (by kernel_rfl) (fun _ _ _ h => h) (Or.inl ⟨by rfl, ?hy2⟩) ?rest2
                  case hy2 => (intro W; (try simp only [List.getElem_toArray, List.getElem_cons_zero, List.getElem_cons_succ]); go_simp <;> with_reducible rfl)
                  try simp only [Act.put, List.getElem_toArray, List.getElem_cons_zero, List.getElem_cons_succ, List.setIfInBounds_toArray, List.set_cons_zero, List.set_cons_succ]
                  refine wpAny_take (i := 2) (v := ?v3) rfl (by kernel_rfl) (by kernel_rfl) (by kernel_rfl) (fun _ _ _ h => h) (Or.inl ⟨by rfl, ?hy3⟩) ?rest3
                  case hy3 => (intro W; (try simp only [List.getElem_toArray, List.getElem_cons_zero, List.getElem_cons_succ]); go_simp <;> with_reducible rfl)
                  try simp only [Act.put, List.getElem_toArray, List.getElem_cons_zero, List.getElem_cons_succ, List.setIfInBounds_toArray, List.set_cons_zero, List.set_cons_succ]
                  refine wpAny_take (i := 3) (v := ?v4) rfl (by kernel_rfl) (by kernel_rfl) (by kernel_rfl) (fun _ _ _ h => h) (Or.inl ⟨by rfl, ?hy4⟩) ?rest4
                  case hy4 => (intro W; (try simp only [List.getElem_toArray, List.getElem_cons_zero, List.getElem_cons_succ]); go_simp <;> with_reducible rfl)
                  try simp only [Act.put, List.getElem_toArray, List.getElem_cons_zero, List.getElem_cons_succ, List.setIfInBounds_toArray, List.set_cons_zero, List.set_cons_succ]
                  refine wpAny_take (i := 4) (v := ?v5) rfl (by kernel_rfl) (by kernel_rfl) (by kernel_rfl) (fun _ _ _ h => h) (Or.inl ⟨by rfl, ?hy5⟩) ?rest5
                  case hy5 => (intro W; (try simp only [List.getElem_toArray, List.getElem_cons_zero, List.getElem_cons_succ]); go_simp <;> with_reducible rfl)
                  try simp only [Act.put, List.getElem_toArray, List.getElem_cons_zero, List.getElem_cons_succ, List.setIfInBounds_toArray, List.set_cons_zero, List.set_cons_succ]
                  refine wpAny_take (i := 5) (v := ?v6) rfl (by kernel_rfl) (by kernel_rfl) (by kernel_rfl) (fun _ _ _ h => h) (Or.inl ⟨by rfl, ?hy6⟩) ?rest6
                  case hy6 => (intro W; (try simp only [List.getElem_toArray, List.getElem_cons_zero, List.getElem_cons_succ]); go_simp <;> with_reducible rfl)
                  try simp only [Act.put, List.getElem_toArray, List.getElem_cons_zero, List.getElem_cons_succ, List.setIfInBounds_toArray, List.set_cons_zero, List.set_cons_succ]
                  refine wpAny_take (i := 29) (v := ?v7) rfl (by kernel_rfl) (by kernel_rfl) (by kernel_rfl) (fun _ _ _ h => h) (Or.inl ⟨by rfl, ?hy7⟩) ?rest7
                  case hy7 => (intro W; (try simp only [List.getElem_toArray, List.getElem_cons_zero, List.getElem_cons_succ]); go_simp <;> with_reducible rfl)
                  try simp only [Act.put, List.getElem_toArray, List.getElem_cons_zero, List.getElem_cons_succ, List.setIfInBounds_toArray, List.set_cons_zero, List.set_cons_succ]
                  refine wpAny_ready (rs := [6]) (by kernel_rfl) (by simp) ?_
                  refine AllReady.cons rfl (fun K hK => ?_) AllReady.nil
                  (try simp only [List.getElem_toArray, List.getElem_cons_zero, List.getElem_cons_succ])
                  go_simp
                  refine hK _ _ ?_
                  clear hK K
                  try simp only [Act.put, List.getElem_toArray, List.getElem_cons_zero, List.getElem_cons_succ, List.setIfInBounds_toArray, List.set_cons_zero, List.set_cons_succ]
                  refine wpAny_take (i := 7) (v := ?v8) rfl (by kernel_rfl) (by kernel_rfl) (by kernel_rfl) (fun _ _ _ h => h) (Or.inl ⟨by rfl, ?hy8⟩) ?rest8
                  case hy8 => (intro W; (try simp only [List.getElem_toArray, List.getElem_cons_zero, List.getElem_cons_succ]); go_simp <;> with_reducible rfl)
                  try simp only [Act.put, List.getElem_toArray, List.getElem_cons_zero, List.getElem_cons_succ, List.setIfInBounds_toArray, List.set_cons_zero, List.set_cons_succ]
                  refine wpAny_take (i := 8) (v := ?v9) rfl (by kernel_rfl) (by kernel_rfl) (by kernel_rfl) (fun _ _ _ h => h) (Or.inl ⟨by rfl, ?hy9⟩) ?rest9
                  case hy9 => (intro W; (try simp only [List.getElem_toArray, List.getElem_cons_zero, List.getElem_cons_succ]); go_simp <;> with_reducible rfl)
                  try simp only [Act.put, List.getElem_toArray, List.getElem_cons_zero, List.getElem_cons_succ, List.setIfInBounds_toArray, List.set_cons_zero, List.set_cons_succ]
                  refine wpAny_take (i := 9) (v := ?v10) rfl (by kernel_rfl) (by kernel_rfl) (by kernel_rfl) (fun _ _ _ h => h) (Or.inl ⟨by rfl, ?hy10⟩) ?rest10
                  case hy10 => (intro W; (try simp only [List.getElem_toArray, List.getElem_cons_zero, List.getElem_cons_succ]); go_simp <;> with_reducible rfl)
                  try simp only [Act.put, List.getElem_toArray, List.getElem_cons_zero, List.getElem_cons_succ, List.setIfInBounds_toArray, List.set_cons_zero, List.set_cons_succ]
                  refine wpAny_take (i := 10) (v := ?v11) rfl (by kernel_rfl) (by kernel_rfl) (by kernel_rfl) (fun _ _ _ h => h) (Or.inl ⟨by rfl, ?hy11⟩) ?rest11
                  case hy11 => (intro W; (try simp only [List.getElem_toArray, List.getElem_cons_zero, List.getElem_cons_succ]); go_simp <;> with_reducible rfl)
                  try simp only [Act.put, List.getElem_toArray, List.getElem_cons_zero, List.getElem_cons_succ, List.setIfInBounds_toArray, List.set_cons_zero, List.set_cons_succ]
                  refine wpAny_take (i := 12) (v := ?v12) rfl (by kernel_rfl) (by kernel_rfl) (by kernel_rfl) (fun _ _ _ h => h) (Or.inl ⟨by rfl, ?hy12⟩) ?rest12
                  case hy12 => (intro W; (try simp only [List.getElem_toArray, List.getElem_cons_zero, List.getElem_cons_succ]); go_simp <;> with_reducible rfl)
                  try simp only [Act.put, List.getElem_toArray, List.getElem_cons_zero, List.getElem_cons_succ, List.setIfInBounds_toArray, List.set_cons_zero, List.set_cons_succ]
                  refine wpAny_ready (rs := [11]) (by kernel_rfl) (by simp) ?_
                  refine AllReady.cons rfl (fun K hK => ?_) AllReady.nil
                  (try simp only [List.getElem_toArray, List.getElem_cons_zero, List.getElem_cons_succ])
                  go_simp
                  refine hK _ _ ?_
                  clear hK K
                  try simp only [Act.put, List.getElem_toArray, List.getElem_cons_zero, List.getElem_cons_succ, List.setIfInBounds_toArray, List.set_cons_zero, List.set_cons_succ]
                  refine wpAny_take (i := 13) (v := ?v13) rfl (by kernel_rfl) (by kernel_rfl) (by kernel_rfl) (fun _ _ _ h => h) (Or.inl ⟨by rfl, ?hy13⟩) ?rest13
                  case hy13 => (intro W; (try simp only [List.getElem_toArray, List.getElem_cons_zero, List.getElem_cons_succ]); go_simp <;> with_reducible rfl)
                  try simp only [Act.put, List.getElem_toArray, List.getElem_cons_zero, List.getElem_cons_succ, List.setIfInBounds_toArray, List.set_cons_zero, List.set_cons_succ]
                  refine wpAny_take (i := 14) (v := ?v14) rfl (by kernel_rfl) (by kernel_rfl) (by kernel_rfl) (fun _ _ _ h => h) (Or.inl ⟨by rfl, ?hy14⟩) ?rest14
                  case hy14 => (intro W; (try simp only [List.getElem_toArray, List.getElem_cons_zero, List.getElem_cons_succ]); go_simp <;> with_reducible rfl)
                  try simp only [Act.put, List.getElem_toArray, List.getElem_cons_zero, List.getElem_cons_succ, List.setIfInBounds_toArray, List.set_cons_zero, List.set_cons_succ]
                  refine wpAny_ready (rs := [15]) (by kernel_rfl) (by simp) ?_
                  refine AllReady.cons rfl (fun K hK => ?_) AllReady.nil
                  (try simp only [List.getElem_toArray, List.getElem_cons_zero, List.getElem_cons_succ])
                  go_simp
                  refine hK _ _ ?_
                  clear hK K
                  try simp only [Act.put, List.getElem_toArray, List.getElem_cons_zero, List.getElem_cons_succ, List.setIfInBounds_toArray, List.set_cons_zero, List.set_cons_succ]
                  refine wpAny_take (i := 16) (v := ?v15) rfl (by kernel_rfl) (by kernel_rfl) (by kernel_rfl) (fun _ _ _ h => h) (Or.inl ⟨by rfl, ?hy15⟩) ?rest15
                  case hy15 => (intro W; (try simp only [List.getElem_toArray, List.getElem_cons_zero, List.getElem_cons_succ]); go_simp <;> with_reducible rfl)
                  try simp only [Act.put, List.getElem_toArray, List.getElem_cons_zero, List.getElem_cons_succ, List.setIfInBounds_toArray, List.set_cons_zero, List.set_cons_succ]
                  refine wpAny_take (i := 17) (v := ?v16) rfl (by kernel_rfl) (by kernel_rfl) (by kernel_rfl) (fun _ _ _ h => h) (Or.inl ⟨by rfl, ?hy16⟩) ?rest16
                  case hy16 => (intro W; (try simp only [List.getElem_toArray, List.getElem_cons_zero, List.getElem_cons_succ]); go_simp <;> with_reducible rfl)
                  try simp only [Act.put, List.getElem_toArray, List.getElem_cons_zero, List.getElem_cons_succ, List.setIfInBounds_toArray, List.set_cons_zero, List.set_cons_succ]
                  refine wpAny_take (i := 18) (v := ?v17) rfl (by kernel_rfl) (by kernel_rfl) (by kernel_rfl) (fun _ _ _ h => h) (Or.inl ⟨by rfl, ?hy17⟩) ?rest17
                  case hy17 => (intro W; (try simp only [List.getElem_toArray, List.getElem_cons_zero, List.getElem_cons_succ]); go_simp <;> with_reducible rfl)
                  try simp only [Act.put, List.getElem_toArray, List.getElem_cons_zero, List.getElem_cons_succ, List.setIfInBounds_toArray, List.set_cons_zero, List.set_cons_succ]
                  refine wpAny_take (i := 19) (v := ?v18) rfl (by kernel_rfl) (by kernel_rfl) (by kernel_rfl) (fun _ _ _ h => h) (Or.inl ⟨by rfl, ?hy18⟩) ?rest18
                  case hy18 => (intro W; (try simp only [List.getElem_toArray, List.getElem_cons_zero, List.getElem_cons_succ]); go_simp <;> with_reducible rfl)
                  try simp only [Act.put, List.getElem_toArray, List.getElem_cons_zero, List.getElem_cons_succ, List.setIfInBounds_toArray, List.set_cons_zero, List.set_cons_succ]
                  refine wpAny_take (i := 20) (v := ?v19) rfl (by kernel_rfl) (by kernel_rfl) (by kernel_rfl) (fun _ _ _ h => h) (Or.inl ⟨by rfl, ?hy19⟩) ?rest19
                  case hy19 => (intro W; (try simp only [List.getElem_toArray, List.getElem_cons_zero, List.getElem_cons_succ]); go_simp <;> with_reducible rfl)
                  try simp only [Act.put, List.getElem_toArray, List.getElem_cons_zero, List.getElem_cons_succ, List.setIfInBounds_toArray, List.set_cons_zero, List.set_cons_succ]
                  refine wpAny_take (i := 21) (v := ?v20) rfl (by kernel_rfl) (by kernel_rfl) (by kernel_rfl) (fun _ _ _ h => h) (Or.inl ⟨by rfl, ?hy20⟩) ?rest20
                  case hy20 => (intro W; (try simp only [List.getElem_toArray, List.getElem_cons_zero, List.getElem_cons_succ]); go_simp <;> with_reducible rfl)
                  try simp only [Act.put, List.getElem_toArray, List.getElem_cons_zero, List.getElem_cons_succ, List.setIfInBounds_toArray, List.set_cons_zero, List.set_cons_succ]
                  refine wpAny_take (i := 24) (v := ?v21) rfl (by kernel_rfl) (by kernel_rfl) (by kernel_rfl) (fun _ _ _ h => h) (Or.inl ⟨by rfl, ?hy21⟩) ?rest21
                  case hy21 => (intro W; (try simp only [List.getElem_toArray, List.getElem_cons_zero, List.getElem_cons_succ]); go_simp <;> with_reducible rfl)
                  try simp only [Act.put, List.getElem_toArray, List.getElem_cons_zero, List.getElem_cons_succ, List.setIfInBounds_toArray, List.set_cons_zero, List.set_cons_succ]
                  refine wpAny_take (i := 25) (v := ?v22) rfl (by kernel_rfl) (by kernel_rfl) (by kernel_rfl) (fun _ _ _ h => h) (Or.inl ⟨by rfl, ?hy22⟩) ?rest22
                  case hy22 => (intro W; (try simp only [List.getElem_toArray, List.getElem_cons_zero, List.getElem_cons_succ]); go_simp <;> with_reducible rfl)
                  try simp only [Act.put, List.getElem_toArray, List.getElem_cons_zero, List.getElem_cons_succ, List.setIfInBounds_toArray, List.set_cons_zero, List.set_cons_succ]
                  refine wpAny_ready (rs := [22]) (by kernel_rfl) (by simp) ?_
                  refine AllReady.cons rfl (fun K0 hK0 => ?_) AllReady.nil
                  (try simp only [List.getElem_toArray, List.getElem_cons_zero, List.getElem_cons_succ])
                  go_simp
                  refine hK0 _ _ ?_
                  clear hK0 K0
                  try simp only [Act.put, List.getElem_toArray, List.getElem_cons_zero, List.getElem_cons_succ, List.setIfInBounds_toArray, List.set_cons_zero, List.set_cons_succ]
                  refine wpAny_ready (rs := [23]) (by kernel_rfl) (by simp) ?_
                  refine AllReady.cons rfl (fun K0 hK0 => ?_) AllReady.nil
                  (try simp only [List.getElem_toArray, List.getElem_cons_zero, List.getElem_cons_succ])
                  go_simp
                  go_at_call 112
                  refine (hA0.out wk.drew (below_drew _ wk)).mono ?_
                  rintro e wa ⟨s1, rfl, hs1, hBa⟩
                  obtain ⟨s1a, s1c, rfl⟩ := hs1.isSlice
                  have HA := Lib.hid (And.intro hs1 (ext_trans (below_drew _ wk) hBa))
                  clear hs1 hBa
                  (try go_simp)
                  refine hK0 _ _ ?_
                  clear hK0 K0
                  try simp only [Act.put, List.getElem_toArray, List.getElem_cons_zero, List.getElem_cons_succ, List.setIfInBounds_toArray, List.set_cons_zero, List.set_cons_succ]
                  refine wpAny_ready (rs := [26]) (by kernel_rfl) (by simp) ?_
                  refine AllReady.cons rfl (fun K0 hK0 => ?_) AllReady.nil
                  (try simp only [List.getElem_toArray, List.getElem_cons_zero, List.getElem_cons_succ])
                  go_simp
                  go_at_call 112
                  refine (hB0.out wa HA.out.2).mono ?_
                  rintro e wz ⟨s2, rfl, hs2, hBz⟩
                  obtain ⟨s2a, s2c, rfl⟩ := hs2.isSlice
                  have HZ := Lib.hid (And.intro hs2.any (And.intro (HA.out.1.any.below hBz) (ext_trans HA.out.2 hBz)))
                  clear hs2 hBz
                  (try go_simp)
                  refine hK0 _ _ ?_
                  clear hK0 K0
                  try simp only [Act.put, List.getElem_toArray, List.getElem_cons_zero, List.getElem_cons_succ, List.setIfInBounds_toArray, List.set_cons_zero, List.set_cons_succ]
                  refine wpAny_ready (rs := [27]) (by kernel_rfl) (by simp) ?_
                  refine AllReady.cons rfl (fun K0 hK0 => ?_) AllReady.nil
                  (try simp only [List.getElem_toArray, List.getElem_cons_zero, List.getElem_cons_succ])
                  go_simp
                  go_at_call 39
                  refine (SameTerms_calls (paT a y) (paT b j) _ _ wz HZ.out.2.1 HZ.out.1).mono ?_
                  rintro e wy ⟨rfl, n, rfl⟩
                  obtain ⟨d5, d6, -⟩ := hfacts.out (wz.drewN n) (ext_trans HZ.out.2.2 (below_drewN _ _ n))
                  (try go_simp)
                  refine hK0 _ _ ?_
                  clear hK0 K0
                  try simp only [Act.put, List.getElem_toArray, List.getElem_cons_zero, List.getElem_cons_succ, List.setIfInBounds_toArray, List.set_cons_zero, List.set_cons_succ]
                  refine wpAny_take (i := 28) (v := ?v23) rfl (by kernel_rfl) (by kernel_rfl) (by kernel_rfl) (fun _ _ _ h => h) (Or.inl ⟨by rfl, ?hy23⟩) ?rest23
                  case hy23 => (intro W; (try simp only [List.getElem_toArray, List.getElem_cons_zero, List.getElem_cons_succ]); go_simp <;> with_reducible rfl)
                  try simp only [Act.put, List.getElem_toArray, List.getElem_cons_zero, List.getElem_cons_succ, List.setIfInBounds_toArray, List.set_cons_zero, List.set_cons_succ]
                  refine wpAny_take (i := 30) (v := ?v24) rfl (by kernel_rfl) (by kernel_rfl) (by kernel_rfl) (fun _ _ _ h => h) (Or.inl ⟨by rfl, ?hy24⟩) ?rest24
                  case hy24 => (intro W; (try simp only [List.getElem_toArray, List.getElem_cons_zero, List.getElem_cons_succ]); go_simp <;> with_reducible rfl)
                  try simp only [Act.put, List.getElem_toArray, List.getElem_cons_zero, List.getElem_cons_succ, List.setIfInBounds_toArray, List.set_cons_zero, List.set_cons_succ]
                  refine wpAny_ready (rs := [31]) (by kernel_rfl) (by simp) ?_
                  refine AllReady.cons rfl (fun K0 hK0 => ?_) AllReady.nil
                  (try simp only [List.getElem_toArray, List.getElem_cons_zero, List.getElem_cons_succ])
                  go_simp
                  refine hK0 _ _ ?_
                  clear hK0 K0
                  try simp only [Act.put, List.getElem_toArray, List.getElem_cons_zero, List.getElem_cons_succ, List.setIfInBounds_toArray, List.set_cons_zero, List.set_cons_succ]
                  refine wpAny_done (by kernel_rfl) ?_ _
                  go_wp2_with fail
                  go_roundw
                  case rel => exact ⟨k + 1, by omega, by go_num, by rw [hCk.out, Bool.false_or, Bool.false_or]; exact (hAb.out.keep (ext_trans HZ.out.2.2 (below_drewN _ _ n))).store hi3 hj3 _⟩
                  case measure => simp [intOf]; omega
                · rw [hg] at c2 hCk
                  clear hg
                  go_wp2_with fail
                  have d1 : wk.drew.cell? ⟨w.heap.size, i * 30 + j, none⟩ = some (.bool false) := c1
                  have d2 : wk.drew.cell? ⟨w.heap.size, y * 30 + j, none⟩ = some (.bool true) := c2
                  have d3 : wk.drew.cell? ⟨p1, p2 + k, none⟩ = some (.int .i64 y) := hce
                  have d4 : wk.drew.frozen? ⟨w.heap.size, i * 30 + j, none⟩ = false := f1
                  clear c1 c2 hce f1
                  go_region
                  go_wp2_with fail
                  go_roundw
                  case rel => exact ⟨k + 1, by omega, by go_num, by rw [hCk.out]; exact (hAb.out.store hi3 hj3 true).keep (below_drew _ _)⟩
                  case measure => simp [intOf]; omega
              · rw [hck] at c1 hCk
                clear hck
                go_wp2_with fail
                have d1 : wk.drew.cell? ⟨w.heap.size, i * 30 + j, none⟩ = some (.bool true) := c1
                have d4 : wk.drew.frozen? ⟨w.heap.size, i * 30 + j, none⟩ = false := f1
                clear c1 c2 hce f1
                go_region
                go_wp2_with fail
                go_roundw
                case rel => exact ⟨k + 1, by omega, by go_num, by rw [hCk.out]; exact (hAb.out.store hi3 hj3 true).keep (below_drew _ _)⟩
                case measure => simp [intOf]; omega
            · obtain rfl : k = (psT a i).length := by omega
              rw [HC.out.2.2] at hAb
              have hBk := Lib.hid hAb.out.bel
              have ca := (HU.out.below hBk.out).cell hia
              have cb := (HV.out.below hBk.out).cell hjb
              have cm := hAb.out.mat.cell (i := i) (j := j) (by omega) (by omega)
              rw [mtF_here] at cm
              have fm := hAb.out.mat.frozen i j
              have hdone : Hid (∀ c W, AbSt w G a.length b.length i j (.slice pa (plI (psT a i)).length pc) (.slice qa (plI (psT b j)).length qc) (plI (psT a i)) (plI (psT b j)) c W → G i j = c → MatIs w.heap.size W (mtF G a.length b.length (i + 1) j false) ∧ Below w.heap.size w W) :=
                fun c W h e => ⟨by subst e; exact h.mat.congr fun _ _ _ _ => mtF_next hia hjb, h.bel⟩
              have hi3 : i < 30 := by omega
              have hj3 : j < 30 := by omega
              generalize hbp : byPt (rkF r) ((tmOf a).sub i) ((tmOf b).sub j) = bp at *
              by_cases h0 : nth a i < 0
              · have hres := Lib.hid (((HG.out i j).trans (ab_neg HT.out.1 HT.out.2 hia hjb (.inl h0))).trans hbp)
                have hd : decide (nth a i < 0) = true := decide_eq_true h0
                clear h0
                go_wp2_with fail
                go_roundw
                case rel => exact ⟨j, by omega, by go_num, hdone.out _ _ hAb.out hres.out⟩
                case measure => simp [intOf]
              · have hd : decide (nth a i < 0) = false := decide_eq_false h0
                by_cases h0' : nth b j < 0
                · have hres := Lib.hid (((HG.out i j).trans (ab_neg HT.out.1 HT.out.2 hia hjb (.inr h0'))).trans hbp)
                  have hd' : decide (nth b j < 0) = true := decide_eq_true h0'
                  clear h0 h0'
                  go_wp2_with fail
                  go_roundw
                  case rel => exact ⟨j, by omega, by go_num, hdone.out _ _ hAb.out hres.out⟩
                  case measure => simp [intOf]
                · have hd' : decide (nth b j < 0) = false := decide_eq_false h0'
                  have h00 := Lib.hid (And.intro h0 h0')
                  clear h0 h0'
                  cases bp
                  · have hres := Lib.hid ((HG.out i j).trans (ab_pos HT.out.1 HT.out.2 hia hjb (by have := h00.out; omega) (by have := h00.out; omega) hbp))
                    obtain ⟨D, hD⟩ : ∃ D : Nat → Bool, D 0 = true ∧ (∀ k (hk : k < (psT b j).length), D (k + 1) = (D k && G i (psT b j)[k])) ∧ D (psT b j).length = allT r a b i j := by
                      refine ⟨fun k => ((psT b j).take k).all fun k => G i k, rfl, fun k hk => ?_, ?_⟩
                      · show ((psT b j).take (k + 1)).all _ = _
                        rw [List.take_succ_eq_append_getElem hk, List.all_append, List.all_cons, List.all_nil, Bool.and_true]
                      · show ((psT b j).take _).all _ = _
                        rw [List.take_length, allT]
                        exact congrArg (fun f => List.all (psT b j) f) (funext fun k => HG.out i k)
                    have HD := Lib.hid hD
                    have hYs := Lib.hid fun k (hk : k < (psT b j).length) => ps_lt HT.out.2 hjb (List.getElem_mem hk)
                    generalize hal : allT r a b i j = al at *
                    have hD0 := hD.1
                    clear hD
                    go_wp2_with fail
                    clear cm fm ca cb
                    go_loopw [13, 14] (fun s13 s14 wl => ∃ k : Nat, k ≤ (psT b j).length ∧ s14 = .int .i64 k ∧ s13 = .bool (D k) ∧ Hid (AbSt w G a.length b.length i j (.slice pa (plI (psT a i)).length pc) (.slice qa (plI (psT b j)).length qc) (plI (psT a i)) (plI (psT b j)) false wl)) (fun _ s14 _ => (psT b j).length - (intOf s14).toNat)
                    case atStart => exact ⟨0, Nat.zero_le _, rfl, by rw [hD0], hAb.out⟩
                    case round =>
                      rename World => wl
                      obtain ⟨k, hk, rfl, rfl, hL⟩ := hrel
                      by_cases hlk : k < (psT b j).length
                      · have hkk : (k : Int) < (psT b j).length := by omega
                        have hqq := hL.out.q
                        obtain ⟨p1, p2, p3, ep⟩ := hqq.cells (by intro h; have := congrArg List.length h; rw [plI_len] at this; simp at this; rw [this] at hlk; simp at hlk)
                        cases ep
                        have hce := hqq.cell (j := k) (by rw [plI_len]; exact hlk)
                        rw [plI_nth hlk] at hce
                        have hDk := Lib.hid (HD.out.2.1 k hlk)
                        obtain ⟨hX1, hX2, -⟩ := hYs.out k hlk
                        generalize (psT b j)[k] = y at *
                        have c2 := hL.out.mat.cell (i := i) (j := y) (by omega) (by omega)
                        rw [mtF_right hX2 hia hX1] at c2
                        have hy30 : (y : Int) < 30 := by omega
                        clear hqq
                        cases hdk : D k
                        · rw [hdk, Bool.false_and] at hDk
                          go_wp2_with fail
                          go_quiet (fail)
                          go_wp2_with fail
                          go_roundw
                          case rel => exact ⟨k + 1, by omega, by go_num, by rw [hDk.out], hL.out.keep (below_drewN _ _ _)⟩
                          case measure => simp [intOf]; omega
                        · rw [hdk, Bool.true_and] at hDk
                          go_wp2_with fail
                          go_quiet (fail)
                          go_wp2_with fail
                          go_roundw
                          case rel => exact ⟨k + 1, by omega, by go_num, by rw [hDk.out], hL.out.keep (below_drewN _ _ _)⟩
                          case measure => simp [intOf]; omega
                      · obtain rfl : k = (psT b j).length := by omega
                        rw [HD.out.2.2]
                        have hBl := Lib.hid hL.out.bel
                        have ca := (HU.out.below hBl.out).cell hia
                        have cb := (HV.out.below hBl.out).cell hjb
                        by_cases hse : nth a i = nth b j
                        · have hse2 : (nth a i != nth b j) = false := by simpa using hse
                          have hres2 : Hid (G i j = (al && lexM (rkF r) ((psT a i).map fun k => (tmOf a).sub k) ((psT b j).map fun k => (tmOf b).sub k))) := by rw [Hid, hres.out, if_neg (by simpa using hse)]
                          have hsg : Hid ((psT a i).length = (psT b j).length) := by rw [Hid, psT_len, psT_len, hse]
                          clear hse
                          go_wp2_with fail
                          go_quiet (fail)
                          rename Nat => nd
                          have hL2 := Lib.hid (hL.out.keep (below_drewN _ wl nd))
                          clear ca cb hL hBl
                          generalize wl.drewN nd = wn at *
                          go_wp2_with fail
                          go_loopw [15] (fun s15 wm => ∃ k : Nat, k ≤ (psT a i).length ∧ s15 = .int .i64 k ∧ Hid (AbSt w G a.length b.length i j (.slice pa (plI (psT a i)).length pc) (.slice qa (plI (psT b j)).length qc) (plI (psT a i)) (plI (psT b j)) false wm) ∧
                            Hid (∀ m (h1 : m < (psT a i).length) (h2 : m < (psT b j).length), m < k → (tmOf a).sub (psT a i)[m] = (tmOf b).sub (psT b j)[m])) (fun s15 _ => (psT a i).length - (intOf s15).toNat)
                          case atStart => exact ⟨0, Nat.zero_le _, rfl, hL2.out, fun m _ _ h => by omega⟩
                          case round =>
                            rename World => wm
                            obtain ⟨k, hk, rfl, hM, hEq⟩ := hrel
                            by_cases hlk : k < (psT a i).length
                            · have hlk2 : k < (psT b j).length := by rw [← hsg.out]; exact hlk
                              have hkk : (k : Int) < (psT a i).length := by omega
                              have hkk2 : (k : Int) < (psT b j).length := by omega
                              have hpp := hM.out.p
                              have hqq := hM.out.q
                              obtain ⟨p1, p2, p3, ep⟩ := hpp.cells (by intro h; have := congrArg List.length h; rw [plI_len] at this; simp at this; rw [this] at hlk; simp at hlk)
                              cases ep
                              obtain ⟨q1, q2, q3, eq⟩ := hqq.cells (by intro h; have := congrArg List.length h; rw [plI_len] at this; simp at this; rw [this] at hlk2; simp at hlk2)
                              cases eq
                              have hcx := hpp.cell (j := k) (by rw [plI_len]; exact hlk)
                              have hcy := hqq.cell (j := k) (by rw [plI_len]; exact hlk2)
                              rw [plI_nth hlk] at hcx
                              rw [plI_nth hlk2] at hcy
                              obtain ⟨hX1, hX2, -⟩ := hXs.out k hlk
                              obtain ⟨hY1, hY2, -⟩ := hYs.out k hlk2
                              have hlex : Hid ((tmOf a).sub (psT a i)[k] ≠ (tmOf b).sub (psT b j)[k] → G i j = (al && G (psT a i)[k] (psT b j)[k])) := fun hne => by
                                have := lexM_at (rk := rkF r) (xs := (psT a i).map fun k => (tmOf a).sub k) (ys := (psT b j).map fun k => (tmOf b).sub k) (n := k) (by simpa using hlk) (by simpa using hlk2) (fun m h1 h2 h3 => by simpa using hEq.out m (by simpa using h1) (by simpa using h2) h3) (by simpa using hne)
                                rw [hres2.out, this, HG.out]; simp
                              have hsame := Lib.hid (sub_same HT.out.1 HT.out.2 hX1 hY1)
                              have hEqn : Hid ((tmOf a).sub (psT a i)[k] = (tmOf b).sub (psT b j)[k] → ∀ m (h1 : m < (psT a i).length) (h2 : m < (psT b j).length), m < k + 1 → (tmOf a).sub (psT a i)[m] = (tmOf b).sub (psT b j)[m]) := fun he m h1 h2 h3 => by
                                by_cases e : m = k
                                · subst e; exact he
                                · exact hEq.out m h1 h2 (by omega)
                              generalize (psT a i)[k] = x at *
                              generalize (psT b j)[k] = y at *
                              have hx30 : (x : Int) < 30 := by omega
                              have hy30 : (y : Int) < 30 := by omega
                              have hBm := hM.out.bel
                              have hA0 := Lib.hid fun W (hb : Below wm.heap.size wm W) => partOf_calls a HT.out.1 (.slice (some ⟨u1, u2, none⟩) a.length u3) x hX1 W (HU.out.below (ext_trans hBm hb))
                              have hB0 := Lib.hid fun W (hb : Below wm.heap.size wm W) => partOf_calls b HT.out.2 (.slice (some ⟨v1, v2, none⟩) b.length v3) y hY1 W (HV.out.below (ext_trans hBm hb))
                              have hfacts : Hid (∀ W, Below wm.heap.size wm W → W.cell? ⟨p1, p2 + k, none⟩ = some (.int .i64 x) ∧ W.cell? ⟨q1, q2 + k, none⟩ = some (.int .i64 y)) := fun W hb =>
                                ⟨(hb.cell (p := ⟨p1, p2 + k, none⟩) (World.block_lt_of_cell? _ _ hcx)).trans hcx, (hb.cell (p := ⟨q1, q2 + k, none⟩) (World.block_lt_of_cell? _ _ hcy)).trans hcy⟩
                              have c1 := hM.out.mat.cell (i := i) (j := j) (by omega) (by omega)
                              rw [mtF_here] at c1
                              have c2 := hM.out.mat.cell (i := x) (j := y) (by omega) (by omega)
                              rw [mtF_down hX2 hX1 hY1] at c2
                              have f1 := hM.out.mat.frozen i j
                              have hcells : Hid (∀ W, Below wm.heap.size wm W → W.drew.cell? ⟨w.heap.size, i * 30 + j, none⟩ = some (.bool false) ∧ W.drew.cell? ⟨w.heap.size, x * 30 + y, none⟩ = some (.bool (G x y)) ∧ W.drew.frozen? ⟨w.heap.size, i * 30 + j, none⟩ = false ∧ W.drew.cell? ⟨p1, p2 + k, none⟩ = some (.int .i64 x) ∧ W.drew.cell? ⟨q1, q2 + k, none⟩ = some (.int .i64 y)) := fun W hb =>
                                ⟨(hb.cell (p := ⟨w.heap.size, i * 30 + j, none⟩) hM.out.mat.lt).trans c1, (hb.cell (p := ⟨w.heap.size, x * 30 + y, none⟩) hM.out.mat.lt).trans c2, (World.frozen?_of_block (w := wm) (a := ⟨w.heap.size, i * 30 + j, none⟩) (hb.block _ hM.out.mat.lt)).trans f1, (hfacts.out W hb).1, (hfacts.out W hb).2⟩
                              clear hcx hcy c1 c2 f1 hBm hpp hqq
                              go_wp2_with fail
                              go_region_held3 (fun W => W.cell? ⟨p1, p2 + k, none⟩ = some (.int .i64 x) ∧ W.cell? ⟨q1, q2 + k, none⟩ = some (.int .i64 y))
                                (first | exact hfacts.out _ (below_drew _ wm) | exact hfacts.out _ HA.out.2 | exact hfacts.out _ HZ.out.2.2 | exact hfacts.out _ (ext_trans HZ.out.2.2 (below_drewN _ _ _)))
                                (first
                                  | (go_at_call 112; (with_reducible refine (hA0.out wm.drew (below_drew _ wm)).mono ?_); rintro e wa ⟨s1, rfl, hs1, hBa⟩; obtain ⟨s1a, s1c, rfl⟩ := hs1.isSlice; have HA := Lib.hid (And.intro hs1 (ext_trans (below_drew _ wm) hBa)); clear hs1 hBa)
                                  | (go_at_call 112; (with_reducible refine (hB0.out wa HA.out.2).mono ?_); rintro e wz ⟨s2, rfl, hs2, hBz⟩; obtain ⟨s2a, s2c, rfl⟩ := hs2.isSlice; have HZ := Lib.hid (And.intro hs2.any (And.intro (HA.out.1.any.below hBz) (ext_trans HA.out.2 hBz))); clear hs2 hBz)
                                  | (go_at_call 39; (with_reducible refine (SameTerms_calls (paT a x) (paT b y) _ _ wz HZ.out.2.1 HZ.out.1).mono ?_); rintro e wy ⟨rfl, nn, rfl⟩))
                              have hBE := Lib.hid (ext_trans HZ.out.2.2 (below_drewN _ wz nn))
                              rw [hsame.out]
                              generalize wz.drewN nn = we at *
                              have hKE := Lib.hid (hM.out.keep hBE.out)
                              by_cases hsm : (tmOf a).sub x = (tmOf b).sub y
                              · rw [decide_eq_true hsm]
                                have hn := Lib.hid (hEqn.out hsm)
                                clear hsm
                                go_wp2_with fail
                                go_roundw
                                case rel => exact ⟨k + 1, by omega, by go_num, hKE.out, hn.out⟩
                                case measure => simp [intOf]; omega
                              · rw [decide_eq_false hsm]
                                have hn := Lib.hid (hlex.out hsm)
                                obtain ⟨d1, d2, d3, d4, d5⟩ := hcells.out we hBE.out
                                clear hsm
                                generalize hgx : G x y = gx at *
                                cases al
                                · go_wp2_with fail
                                  go_region
                                  go_wp2_with fail
                                  go_roundw
                                  case rel => exact ⟨j, by omega, by go_num, hdone.out _ _ ((hKE.out.store hi3 hj3 false).keep (below_drew _ _)) (by rw [hn.out, Bool.false_and])⟩
                                  case measure => simp [intOf]
                                · go_wp2_with fail
                                  go_region
                                  go_wp2_with fail
                                  go_roundw
                                  case rel => exact ⟨j, by omega, by go_num, hdone.out _ _ ((hKE.out.store hi3 hj3 _).keep (below_drew _ _)) (by rw [hn.out, Bool.true_and])⟩
                                  case measure => simp [intOf]
                            · obtain rfl : k = (psT a i).length := by omega
                              have hall : Hid (G i j = false) := by
                                have := lexM_all (rk := rkF r) (xs := (psT a i).map fun k => (tmOf a).sub k) (ys := (psT b j).map fun k => (tmOf b).sub k) (by simp; rw [hsg.out]; exact Nat.le_refl _) (fun m h1 h2 => by simpa using hEq.out m (by simpa using h1) (by simpa using h2) (by simpa using h1))
                                rw [Hid, hres2.out, this, Bool.and_false]
                              go_wp2_with fail
                              go_roundw
                              case rel => exact ⟨j, by omega, by go_num, hdone.out _ _ hM.out hall.out⟩
                              case measure => simp [intOf]
                        · have hse2 : (nth a i != nth b j) = true := by simpa using hse
                          have hres2 : Hid (G i j = (al && decide (nth r (nth b j).toNat < nth r (nth a i).toNat))) := by rw [Hid, hres.out, if_pos hse]
                          clear hse
                          have hA := (signs_of_chk HT.out.1 _ (nth_mem hia)).2
                          have hB := (signs_of_chk HT.out.2 _ (nth_mem hjb)).2
                          have hA0 : 0 ≤ nth a i := by have := h00.out.1; omega
                          have hB0 : 0 ≤ nth b j := by have := h00.out.2; omega
                          go_wp2_with fail
                          go_quiet (fail)
                          rename Nat => nd
                          have hL2 := Lib.hid (hL.out.keep (below_drewN _ wl nd))
                          have da : (wl.drewN nd).drew.cell? ⟨u1, u2 + i, none⟩ = some (.int .i64 (nth a i)) := ca
                          have db : (wl.drewN nd).drew.cell? ⟨v1, v2 + j, none⟩ = some (.int .i64 (nth b j)) := cb
                          have dra : (wl.drewN nd).drew.cell? ⟨x1, x2 + (nth a i).toNat, none⟩ = some (.int .i64 (nth r (nth a i).toNat)) := (HX.out.below hBl.out).cell (j := (nth a i).toNat) (by rw [HR6.out]; omega)
                          have drb : (wl.drewN nd).drew.cell? ⟨x1, x2 + (nth b j).toNat, none⟩ = some (.int .i64 (nth r (nth b j).toNat)) := (HX.out.below hBl.out).cell (j := (nth b j).toNat) (by rw [HR6.out]; omega)
                          have cM := hL.out.mat.cell (i := i) (j := j) (by omega) (by omega)
                          rw [mtF_here] at cM
                          have d1 : (wl.drewN nd).drew.cell? ⟨w.heap.size, i * 30 + j, none⟩ = some (.bool false) := cM
                          have d4 : (wl.drewN nd).drew.frozen? ⟨w.heap.size, i * 30 + j, none⟩ = false := hL.out.mat.frozen i j
                          have hAr : nth a i < (r.length : Int) := by have := HR6.out; omega
                          have hBr : nth b j < (r.length : Int) := by have := HR6.out; omega
                          clear ca cb cM
                          generalize wl.drewN nd = wn at *
                          cases al
                          · go_wp2_with fail
                            go_region
                            go_wp2_with fail
                            go_roundw
                            case rel => exact ⟨j, by omega, by go_num, hdone.out _ _ ((hL2.out.store hi3 hj3 false).keep (below_drew _ _)) (by rw [hres2.out, Bool.false_and])⟩
                            case measure => simp [intOf]
                          · go_wp2_with fail
                            go_region
                            go_wp2_with fail
                            go_roundw
                            case rel => exact ⟨j, by omega, by go_num, hdone.out _ _ ((hL2.out.store hi3 hj3 _).keep (below_drew _ _)) (by rw [hres2.out, Bool.true_and])⟩
                            case measure => simp [intOf]
                  · have hres := Lib.hid ((HG.out i j).trans (ab_pt HT.out.1 HT.out.2 hia hjb hbp))
                    go_wp2_with fail
                    go_roundw
                    case rel => exact ⟨j, by omega, by go_num, hdone.out _ _ hAb.out hres.out⟩
                    case measure => simp [intOf]

end Go.Proofs.Ytepddehodmljeaa
