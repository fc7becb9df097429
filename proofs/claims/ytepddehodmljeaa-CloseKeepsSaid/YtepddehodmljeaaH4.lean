/- Walks: a turn of close. -/
import Derived.Test.YtepddehodmljeaaH3
namespace Go.Proofs.Ytepddehodmljeaa
open Go.RowKit Go.Maps

theorem rules_tail {S : Blk} {w : World} {p : Ru} {e : List Ru} {b o c : Nat} (h : IsRules S w (.slice (some ⟨b, o, none⟩) (e.length + 1) c) (p :: e)) :
    1 ≤ c ∧ IsRules S w (.slice (if c = 1 then some ⟨b, o, none⟩ else some ⟨b, o + 2, none⟩) e.length (c - 1)) e := by
  obtain ⟨hl, ⟨h0, -⟩ | ⟨-, b', o', c', hv, hcap, hS, hlt, cs, he, hc⟩⟩ := h
  · cases h0
  cases hv
  have hcap' : e.length + 1 ≤ c := hcap
  refine ⟨by omega, by simp at hl; omega, ?_⟩
  cases e with
  | nil => exact .inl ⟨rfl, _, _, rfl, fun h => by split at h <;> cases h⟩
  | cons q e =>
    have hc1 : c ≠ 1 := by simp at hcap'; omega
    obtain ⟨us, cs', hul, rfl, hu, he'⟩ := he
    refine .inr ⟨by simp, b, o + 2, c - 1, by rw [if_neg hc1], by simp at hcap' ⊢; omega, hS, hlt, cs', he', fun j u hj => ?_⟩
    have := hc (2 + j) u (by rw [List.getElem?_append_right (by omega), hul]; simpa using hj)
    rwa [← Nat.add_assoc] at this

theorem shop_rest {B : Nat} {w : World} {r : List Int} {l : Rus} {e e' : List Ru} {rv lv ev b : Value} (h : ShopIs B w r l e rv lv ev) (hb : IsRules (fun q => q ≠ B) w b e') :
    ShopIs B (w.setCell ⟨B, 2, none⟩ b) r l e' rv lv b ∧ Keeps (fun q => q = B) w (w.setCell ⟨B, 2, none⟩ b) := by
  have hK : Keeps (fun q => q = B) w (w.setCell ⟨B, 2, none⟩ b) := ⟨rfl, rfl, rfl, by simp, fun j _ hj => Below.heap_setCell _ _ _ _ hj⟩
  have hs : Sok (fun q => q ≠ B) (fun q => q ≠ B) w (w.setCell ⟨B, 2, none⟩ b) := hK.sok fun q _ h => h
  have n02 : (⟨B, 0, none⟩ : Addr) ≠ ⟨B, 2, none⟩ := by simp
  have n12 : (⟨B, 1, none⟩ : Addr) ≠ ⟨B, 2, none⟩ := by simp
  have d0 := (World.cell?_setCell_other w _ _ b (Ne.symm n02)).trans h.c0
  have d1 := (World.cell?_setCell_other w _ _ b (Ne.symm n12)).trans h.c1
  have d2 := World.cell?_setCell_same' w ⟨B, 2, none⟩ b (by rw [h.c2]; rfl)
  exact ⟨⟨d0, d1, d2, fun k => by simp [go_sem, h.f k], h.rank.mono hs, IsRow.mono RuleR.ok h.rules hs, IsRow.mono RuleR.ok hb hs⟩, hK⟩

theorem put_no {fb : Fb} {l : Rus} {e : List Ru} {rr : Ru} (h : (ownB rr.1 && ownB rr.2) = false) : (putR fb l e rr).1 = 3 := by
  rw [putR, if_neg (by rw [h]; decide)]
theorem put_yes {fb : Fb} {l : Rus} {e : List Ru} {rr : Ru} (h : (ownB rr.1 && ownB rr.2) = true) : (putR fb l e rr).1 = addE fb l e rr ∧ (addE fb l e rr = 0 → putR fb l e rr = (0, newL l rr, addP fb l e rr)) := by
  rw [putR, if_pos h]
  refine ⟨?_, fun h0 => by rw [if_pos h0]⟩
  split
  · rename_i h0; exact h0.symm
  · rfl
theorem turn_err {fb : Fb} {r : List Int} {l : Rus} {p : Ru} {e : List Ru} (h : mtE l p ≠ 0) : (turnV fb r l p e).1 = mtE l p := by
  rw [turnV, if_neg h]
theorem turn_same {fb : Fb} {r : List Int} {l : Rus} {p : Ru} {e : List Ru} (h : mtE l p = 0) (h1 : mtB l p = true) : turnV fb r l p e = (0, l, e) := by
  rw [turnV, if_pos h, if_pos h1]
theorem turn_gt {fb : Fb} {r : List Int} {l : Rus} {p : Ru} {e : List Ru} (h : mtE l p = 0) (h1 : ¬ mtB l p = true) (h2 : gt (rkF r) (tmOf (ofR l 60 0 p.1).1) (tmOf (ofR l 60 0 p.2).1) = true) : turnV fb r l p e = putR fb l e (smR (ofR l 60 0 p.1).1 (ofR l 60 0 p.2).1) := by
  rw [turnV, if_pos h, if_neg h1, if_pos h2]
theorem turn_lt {fb : Fb} {r : List Int} {l : Rus} {p : Ru} {e : List Ru} (h : mtE l p = 0) (h1 : ¬ mtB l p = true) (h2 : ¬ gt (rkF r) (tmOf (ofR l 60 0 p.1).1) (tmOf (ofR l 60 0 p.2).1) = true) (h3 : gt (rkF r) (tmOf (ofR l 60 0 p.2).1) (tmOf (ofR l 60 0 p.1).1) = true) : turnV fb r l p e = putR fb l e (smR (ofR l 60 0 p.2).1 (ofR l 60 0 p.1).1) := by
  rw [turnV, if_pos h, if_neg h1, if_neg h2, if_pos h3]
theorem turn_six {fb : Fb} {r : List Int} {l : Rus} {p : Ru} {e : List Ru} (h : mtE l p = 0) (h1 : ¬ mtB l p = true) (h2 : ¬ gt (rkF r) (tmOf (ofR l 60 0 p.1).1) (tmOf (ofR l 60 0 p.2).1) = true) (h3 : ¬ gt (rkF r) (tmOf (ofR l 60 0 p.2).1) (tmOf (ofR l 60 0 p.1).1) = true) : (turnV fb r l p e).1 = 6 := by
  rw [turnV, if_pos h, if_neg h1, if_neg h2, if_neg h3]
theorem rank_len {r : List Int} (h : rankE r = 0) : r.length = 6 := by
  unfold rankE at h
  split at h
  · assumption
  · omega

set_option maxRecDepth 100000 in
set_option maxHeartbeats 4000000 in
theorem turn_calls {fb : Fb} (hfb : FbOk fb) (B : Nat) (r : List Int) (l : Rus) (p : Ru) (e : List Ru) (hI : Inv r l (p :: e)) (he : e.length ≤ 39) (rv lv ev : Value) (w : World) (hS : ShopIs B w r l (p :: e) rv lv ev) :
    Calls Try.prog 127 #[.pointer (some ⟨B, 0, none⟩)] w fun y w' => y = .returned (.int .i64 (turnV fb r l p e).1) ∧ ((turnV fb r l p e).1 = 0 → ∃ lv' ev', ShopIs B w' r (turnV fb r l p e).2.1 (turnV fb r l p e).2.2 rv lv' ev') ∧ Keeps (fun b => b = B) w w' := by
  obtain ⟨b, o, c, u, x, e0, hcu, hcx, hiu, hix⟩ := prs_at' hS.rest (j := 0) (by simp)
  subst e0
  replace hcu : w.cell? ⟨b, o, none⟩ = some u := hcu
  replace hcx : w.cell? ⟨b, o + 1, none⟩ = some x := hcx
  replace hiu : IsInts (fun q => q ≠ B) w u p.1 := hiu
  replace hix : IsInts (fun q => q ≠ B) w x p.2 := hix
  obtain ⟨ua, uc, rfl⟩ := hiu.isSlice
  obtain ⟨xa, xc, rfl⟩ := hix.isSlice
  obtain ⟨hc1, htl⟩ := rules_tail hS.rest
  obtain ⟨ta, hta⟩ : ∃ ta, ta = (if c = 1 then some (⟨b, o, none⟩ : Addr) else some ⟨b, o + 2, none⟩) := ⟨_, rfl⟩
  obtain ⟨tc, htc⟩ : ∃ tc, tc = c - 1 := ⟨_, rfl⟩
  have hsl : ∀ W, (Instr.slice 50 (.slice (some ⟨b, o, none⟩) (e.length + 1) c) (some (.int .i64 1)) none none).run Try.prog W = .ok (.slice ta e.length tc) W := fun W => by
    have h1 : ¬ ((e.length : Int) + 1 < 1) := by omega
    rw [hta, htc]; simp [go_sem, h1]
  rw [← hta, ← htc] at htl
  clear hta htc
  have hBl := hS.lt
  obtain ⟨la, lc, rfl⟩ := hS.rules.isSlice
  obtain ⟨ra, rc, rfl⟩ := hS.rank.isSlice
  obtain ⟨hSE, hKE⟩ := shop_rest hS htl
  have hsE : Sok (fun q => q ≠ B) (fun q => q ≠ B) w (w.setCell ⟨B, 2, none⟩ (.slice ta e.length tc)) := hKE.sok fun q _ h => h
  obtain ⟨W1, hW1⟩ : ∃ W1, W1 = (w.setCell ⟨B, 2, none⟩ (.slice ta e.length tc)).alloc (.cells #[.slice ua p.1.length uc, .slice xa p.2.length xc] 65) := ⟨_, rfl⟩
  have hb1 : Below (w.setCell ⟨B, 2, none⟩ (.slice ta e.length tc)).heap.size (w.setCell ⟨B, 2, none⟩ (.slice ta e.length tc)) W1 := by rw [hW1]; exact below_alloc _ _
  have hz1 : w.heap.size < W1.heap.size := by rw [hW1]; simp
  have HS1 := Lib.hid (hSE.below hb1)
  have HK1 := Lib.hid (hKE.trans (Keeps.of_below hb1))
  have HU := Lib.hid ((hiu.mono hsE).below hb1)
  have HX := Lib.hid ((hix.mono hsE).below hb1)
  have hcW : Hid (∀ W, Below W1.heap.size W1 W → W.cell? ⟨B, 0, none⟩ = some (.slice ra r.length rc) ∧ W.cell? ⟨B, 1, none⟩ = some (.slice la l.length lc) ∧ W.cell? ⟨w.heap.size, 0, none⟩ = some (.slice ua p.1.length uc) ∧ W.cell? ⟨w.heap.size, 1, none⟩ = some (.slice xa p.2.length xc)) := fun W hb =>
    ⟨(HS1.out.below hb).c0, (HS1.out.below hb).c1, (hb.cell (p := ⟨w.heap.size, 0, none⟩) hz1).trans (by rw [hW1]; simp [go_sem]), (hb.cell (p := ⟨w.heap.size, 1, none⟩) hz1).trans (by rw [hW1]; simp [go_sem])⟩
  have hp := hI.eqs p (List.mem_cons_self ..)
  have hrl := rank_len hI.rank
  have HI := Lib.hid hI
  have HRL := Lib.hid hrl
  have HFB := Lib.hid hfb
  have HP := Lib.hid hp
  rcases hA : ofR l 60 0 p.1 with ⟨A, nA, EA⟩
  rcases hBb : ofR l 60 0 p.2 with ⟨A2, nB, EB⟩
  have hCA : Hid (Calls Try.prog 143 #[.slice la l.length lc, .slice ua p.1.length uc] W1.drew fun y w' => ∃ z, y = .returned (.tuple #[z, .int .i64 (nA : Int), .int .i64 EA]) ∧ IsInts (Fr W1.drew.heap.size) w' z A ∧ Below W1.drew.heap.size W1.drew w') := by
    have h := Of_calls l p.1 hI.rul hp.1 _ _ _ ((IsRow.any RuleR.ok HS1.out.rules).below RuleR.ok (below_drew _ W1)) (HU.out.any.below (below_drew _ W1))
    rw [hA] at h; exact h
  have hCB : Hid (∀ W, Below W1.heap.size W1 W → Calls Try.prog 143 #[.slice la l.length lc, .slice xa p.2.length xc] W fun y w' => ∃ z, y = .returned (.tuple #[z, .int .i64 (nB : Int), .int .i64 EB]) ∧ IsInts (Fr W.heap.size) w' z A2 ∧ Below W.heap.size W w') := fun W hb => by
    have h := Of_calls l p.2 hI.rul hp.2 _ _ W ((IsRow.any RuleR.ok HS1.out.rules).below RuleR.ok hb) (HX.out.any.below hb)
    rw [hBb] at h; exact h
  have HA := Lib.hid hA
  have HB := Lib.hid hBb
  have hBW : Hid (B < W1.heap.size) := by rw [Hid]; omega
  have d0 := hS.c0
  have d1 := hS.c1
  have d2 := hS.c2
  have q2 := hS.f 2
  clear hS htl hc1 hSE hKE hsE hb1 hiu hix hI hp hrl hfb hA hBb
  go_enter Try.func127, Try.ntmps127
  go_wp2_with fail
  rw [← hW1]
  clear hW1 d0 d1 d2 q2 hcu hcx hsl
  go_region_held3 (fun W => W.cell? ⟨B, 1, none⟩ = some (.slice la l.length lc) ∧ W.cell? ⟨w.heap.size, 0, none⟩ = some (.slice ua p.1.length uc))
    (first | exact ⟨(hcW.out _ (below_drew _ W1)).2.1, (hcW.out _ (below_drew _ W1)).2.2.1⟩ | exact ⟨(hcW.out _ HZ.out.2).2.1, (hcW.out _ HZ.out.2).2.2.1⟩)
    (first
      | (go_at_call 143; (with_reducible refine hCA.out.mono ?_); rintro y w3 ⟨z3, rfl, hz3, hb3⟩; have HZ := Lib.hid (And.intro hz3 (ext_trans (below_drew _ W1) hb3)); clear hz3 hb3))
  by_cases h1 : EA = 0
  · subst h1
    obtain ⟨za, zc, rfl⟩ := HZ.out.1.isSlice
    have hm3 := Lib.hid (hCB.out w3.drew (ext_trans HZ.out.2 (below_drew _ w3)))
    go_wp2_with fail
    go_region_held3 (fun W => W.cell? ⟨B, 1, none⟩ = some (.slice la l.length lc) ∧ W.cell? ⟨w.heap.size, 1, none⟩ = some (.slice xa p.2.length xc))
      (first | exact ⟨(hcW.out _ (ext_trans HZ.out.2 (below_drew _ w3))).2.1, (hcW.out _ (ext_trans HZ.out.2 (below_drew _ w3))).2.2.2⟩ | exact ⟨(hcW.out _ (ext_trans HZ.out.2 HY.out.2)).2.1, (hcW.out _ (ext_trans HZ.out.2 HY.out.2)).2.2.2⟩)
      (first
        | (go_at_call 143; (with_reducible refine hm3.out.mono ?_); rintro y w4 ⟨z4, rfl, hz4, hb4⟩; have HY := Lib.hid (And.intro hz4 (ext_trans (below_drew _ w3) hb4)); clear hz4 hb4))
    have hB4 := Lib.hid (ext_trans HZ.out.2 HY.out.2)
    by_cases h2 : EB = 0
    · subst h2
      obtain ⟨ya, yc, rfl⟩ := HY.out.1.isSlice
      have hE0 : Hid (mtE l p = 0) := by rw [Hid, mtE, HA.out, HB.out]; rfl
      have hmB : Hid (mtB l p = decide (A = A2)) := by rw [Hid, mtB, HA.out, HB.out]
      have hkA : Hid (chk A = 0) := ofR_chk HI.out.rul _ _ _ _ _ HP.out.1 HA.out
      have hkB : Hid (chk A2 = 0) := ofR_chk HI.out.rul _ _ _ _ _ HP.out.2 HB.out
      have hA4 : Hid (IsInts Any w4 (.slice za A.length zc) A) := HZ.out.1.any.below HY.out.2
      have hY4 : Hid (IsInts Any w4 (.slice ya A2.length yc) A2) := HY.out.1.any
      have hA4B : Hid (IsInts (fun q => q ≠ B) w4 (.slice za A.length zc) A) := (HZ.out.1.mono (.weak fun q hq e1 => by have h1 : W1.drew.heap.size ≤ q := hq; have h2 := hBW.out; simp at h1; omega)).below HY.out.2
      have hEq := Lib.hid (Equal_below hA4.out hY4.out)
      have h4c := Lib.hid (hcW.out w4 hB4.out)
      clear HZ HY hm3
      by_cases hab : A = A2
      · have hV : Hid (turnV fb r l p e = (0, l, e)) := turn_same hE0.out (by rw [hmB.out]; exact decide_eq_true hab)
        rw [decide_eq_true hab] at hEq
        clear hab
        go_wp2_with fail
        refine hEq.out.mono ?_
        rintro y w5 ⟨rfl, hb5⟩
        have hB5 := Lib.hid (ext_trans hB4.out hb5)
        go_wp2_with fail
        go_ret
        rw [hV.out]
        exact ⟨rfl, (fun _ => ⟨_, _, HS1.out.below hB5.out⟩), HK1.out.trans (Keeps.of_below hB5.out)⟩
      · have hnB : Hid (¬ mtB l p = true) := by rw [Hid, hmB.out, decide_eq_false hab]; decide
        rw [decide_eq_false hab] at hEq
        clear hab
        go_wp2_with fail
        refine hEq.out.mono ?_
        rintro y w5 ⟨rfl, hb5⟩
        have hB5 := Lib.hid (ext_trans hB4.out hb5)
        have hA5 := Lib.hid (hA4.out.below hb5)
        have hY5 := Lib.hid (hY4.out.below hb5)
        have h5c := (hcW.out w5 hB5.out).1
        have hG1 := Lib.hid (Over_order r A A2 HRL.out hkA.out hkB.out _ _ _ w5 (HS1.out.below hB5.out).rank.any hA5.out hY5.out)
        clear hb5
        cases hg1 : gt (rkF r) (tmOf A) (tmOf A2) with
        | true =>
          have hV : Hid (turnV fb r l p e = putR fb l e (smR A A2)) := by have h := turn_gt (fb := fb) (e := e) hE0.out hnB.out (by rw [HA.out, HB.out]; exact hg1); rw [HA.out, HB.out] at h; exact h
          have HG := Lib.hid hg1
          rw [hg1] at hG1
          clear hg1
          go_wp2_with fail
          refine hG1.out.mono ?_
          rintro y w6 ⟨rfl, hb6⟩
          have hB6 := Lib.hid (ext_trans hB5.out hb6)
          have hA6 := Lib.hid (hA5.out.below hb6)
          have hY6 := Lib.hid (hY5.out.below hb6)
          clear hb6 h5c
          have hSm := Lib.hid (Smooth_calls [A, A2] _ _ (by simp) (by simp) (fun t ht => by
              simp at ht
              rcases ht with rfl | rfl
              · exact ⟨signs_of_chk hkA.out, by have := len_of_chk hkA.out; omega⟩
              · exact ⟨signs_of_chk hkB.out, by have := len_of_chk hkB.out; omega⟩) (two_terms hA6.out hY6.out 24))
          go_wp2_with fail
          refine hSm.out.mono ?_
          rintro y w8 ⟨bv, rfl, hbv, hb8⟩
          have hbv2 : OwnRow _ 24 1 TermR (Fr _) w8 bv [smo [] A, smo (seenA [] A) A2] := hbv
          have hOw := Lib.hid (Own_calls [smo [] A, smo (seenA [] A) A2] (by simp [ne_of_chk (chk_smo hkA.out), ne_of_chk (chk_smo2 hkA.out hkB.out)]) bv w8 (OwnRow.isRow TermR.ok hbv2 (fun _ _ => trivial) (fun _ _ => trivial) (by simp)))
          have hB8 := Lib.hid (ext_trans hB6.out (ext_trans (below_alloc w6 _) hb8))
          have hoL : ownL [smo [] A, smo (seenA [] A) A2] = (ownB (smR A A2).1 && ownB (smR A A2).2) := by simp [ownL, smR]
          rw [hoL] at hOw
          obtain ⟨gb, gc, cur, rfl, hgb, -, hgc⟩ := hbv2.at (by simp)
          obtain ⟨⟨t0, ct0, t0', et0, ht0⟩, -⟩ := hbv2.cell (k := 0) (by simp)
          obtain ⟨⟨t1, ct1, t1', et1, ht1⟩, -⟩ := hbv2.cell (k := 1) (by simp)
          cases et0
          cases et1
          obtain ⟨p1, p2, rfl⟩ := ht0.isSlice
          obtain ⟨p3, p4, rfl⟩ := ht1.isSlice
          have hW18 : W1.heap.size ≤ (w6.alloc (.cells #[.slice za A.length zc, .slice ya A2.length yc] 24)).heap.size := (ext_trans hB6.out (below_alloc w6 _)).size
          have hmn : ∀ q : Nat, (w6.alloc (.cells #[.slice za A.length zc, .slice ya A2.length yc] 24)).heap.size ≤ q → q ≠ B := fun q hq e1 => by have h2 := hBW.out; omega
          have HT0 : Hid (IsInts (fun q => q ≠ B) w8 (.slice p1 (smo [] A).length p2) (smR A A2).1) := ht0.mono (.weak fun q hq => hmn q hq.1)
          have HT1 : Hid (IsInts (fun q => q ≠ B) w8 (.slice p3 (smo (seenA [] A) A2).length p4) (smR A A2).2) := ht1.mono (.weak fun q hq => hmn q hq.1)
          have hgl : Hid (gb < w8.heap.size) := World.block_lt_of_cell? _ _ ct0
          have hgB := hmn gb hgb
          have hS12 : Hid (∀ W, Keeps (fun q => q = B) w8 W → W.cell? ⟨gb, 0, none⟩ = some (.slice p1 (smo [] A).length p2) ∧ W.cell? ⟨gb, 1, none⟩ = some (.slice p3 (smo (seenA [] A) A2).length p4)) := fun W hk =>
            ⟨(World.cell?_of_block (w := w8) (a := ⟨gb, 0, none⟩) (hk.block gb hgl.out hgB)).trans ct0, (World.cell?_of_block (w := w8) (a := ⟨gb, 1, none⟩) (hk.block gb hgl.out hgB)).trans ct1⟩
          clear hbv hbv2 hb8 hSm ht0 ht1 hmn hW18 hoL
          cases hO : (ownB (smR A A2).1 && ownB (smR A A2).2) with
          | false =>
            have hV3 : Hid ((turnV fb r l p e).1 = 3) := by rw [Hid, hV.out]; exact put_no hO
            rw [hO] at hOw
            clear hO
            go_wp2_with fail
            refine hOw.out.mono ?_
            rintro y w9 ⟨rfl, rfl⟩
            go_wp2_with fail
            go_ret
            exact ⟨ret_int hV3.out.symm, (fun h => by rw [hV3.out] at h; cases h), HK1.out.trans (Keeps.of_below hB8.out)⟩
          | true =>
            have hV3 : Hid ((turnV fb r l p e).1 = addE fb l e (smR A A2) ∧ (addE fb l e (smR A A2) = 0 → turnV fb r l p e = (0, newL l (smR A A2), addP fb l e (smR A A2)))) := by rw [Hid, hV.out]; exact put_yes hO
            have hrr := Lib.hid (smR_rule hkA.out hkB.out HG.out hO).1
            have hRu := Lib.hid (rule_calls HFB.out B r l e (smR A A2) HI.out.rul hrr.out (by omega) _ _ _ _ _ w8.drew ((HS1.out.below hB8.out).below (below_drew _ w8)) (HT0.out.below (below_drew _ w8)) (HT1.out.below (below_drew _ w8)))
            rw [hO] at hOw
            clear hO
            go_wp2_with fail
            refine hOw.out.mono ?_
            rintro y w9 ⟨rfl, rfl⟩
            go_wp2_with fail
            go_region_held3 (fun W => W.cell? ⟨gb, 0, none⟩ = some (.slice p1 (smo [] A).length p2) ∧ W.cell? ⟨gb, 1, none⟩ = some (.slice p3 (smo (seenA [] A) A2).length p4))
              (first | exact hS12.out _ (.of_below (below_drew _ w8)) | exact hS12.out _ (Keeps.trans (.of_below (below_drew _ w8)) HYR.out.2))
              (first
                | (go_at_call 177; (with_reducible refine hRu.out.mono ?_); rintro y w10 ⟨rfl, hyr, hyk⟩; have HYR := Lib.hid (And.intro hyr hyk); clear hyr hyk))
            go_wp2_with fail
            go_ret
            rw [hV3.out.1]
            exact ⟨rfl, (fun h => by rw [hV3.out.2 h]; exact HYR.out.1 h), HK1.out.trans ((Keeps.of_below hB8.out).trans ((Keeps.of_below (below_drew w8.heap.size w8)).trans HYR.out.2))⟩
        | false =>
          have HG0 := Lib.hid hg1
          rw [hg1] at hG1
          clear hg1
          go_wp2_with fail
          refine hG1.out.mono ?_
          rintro y w6 ⟨rfl, hb6⟩
          have hB6 := Lib.hid (ext_trans hB5.out hb6)
          have hA6 := Lib.hid (hA5.out.below hb6)
          have hY6 := Lib.hid (hY5.out.below hb6)
          have h6c := (hcW.out w6 hB6.out).1
          have hG2 := Lib.hid (Over_order r A2 A HRL.out hkB.out hkA.out _ _ _ w6 (HS1.out.below hB6.out).rank.any hY6.out hA6.out)
          clear hb6 h5c
          cases hg2 : gt (rkF r) (tmOf A2) (tmOf A) with
          | true =>
            have hV : Hid (turnV fb r l p e = putR fb l e (smR A2 A)) := by have h := turn_lt (fb := fb) (e := e) hE0.out hnB.out (fun hh => by rw [HA.out, HB.out] at hh; exact absurd (HG0.out.symm.trans hh) (by decide)) (by rw [HA.out, HB.out]; exact hg2); rw [HA.out, HB.out] at h; exact h
            have HG := Lib.hid hg2
            rw [hg2] at hG2
            clear hg2
            go_wp2_with fail
            refine hG2.out.mono ?_
            rintro y w7 ⟨rfl, hb7⟩
            have hB7 := Lib.hid (ext_trans hB6.out hb7)
            have hA7 := Lib.hid (hA6.out.below hb7)
            have hY7 := Lib.hid (hY6.out.below hb7)
            clear hb7 h6c
            have hSm := Lib.hid (Smooth_calls [A2, A] _ _ (by simp) (by simp) (fun t ht => by
                simp at ht
                rcases ht with rfl | rfl
                · exact ⟨signs_of_chk hkB.out, by have := len_of_chk hkB.out; omega⟩
                · exact ⟨signs_of_chk hkA.out, by have := len_of_chk hkA.out; omega⟩) (two_terms hY7.out hA7.out 24))
            go_wp2_with fail
            refine hSm.out.mono ?_
            rintro y w8 ⟨bv, rfl, hbv, hb8⟩
            have hbv2 : OwnRow _ 24 1 TermR (Fr _) w8 bv [smo [] A2, smo (seenA [] A2) A] := hbv
            have hOw := Lib.hid (Own_calls [smo [] A2, smo (seenA [] A2) A] (by simp [ne_of_chk (chk_smo hkB.out), ne_of_chk (chk_smo2 hkB.out hkA.out)]) bv w8 (OwnRow.isRow TermR.ok hbv2 (fun _ _ => trivial) (fun _ _ => trivial) (by simp)))
            have hB8 := Lib.hid (ext_trans hB7.out (ext_trans (below_alloc w7 _) hb8))
            have hoL : ownL [smo [] A2, smo (seenA [] A2) A] = (ownB (smR A2 A).1 && ownB (smR A2 A).2) := by simp [ownL, smR]
            rw [hoL] at hOw
            obtain ⟨gb, gc, cur, rfl, hgb, -, hgc⟩ := hbv2.at (by simp)
            obtain ⟨⟨t0, ct0, t0', et0, ht0⟩, -⟩ := hbv2.cell (k := 0) (by simp)
            obtain ⟨⟨t1, ct1, t1', et1, ht1⟩, -⟩ := hbv2.cell (k := 1) (by simp)
            cases et0
            cases et1
            obtain ⟨p1, p2, rfl⟩ := ht0.isSlice
            obtain ⟨p3, p4, rfl⟩ := ht1.isSlice
            have hW18 : W1.heap.size ≤ (w7.alloc (.cells #[.slice ya A2.length yc, .slice za A.length zc] 24)).heap.size := (ext_trans hB7.out (below_alloc w7 _)).size
            have hmn : ∀ q : Nat, (w7.alloc (.cells #[.slice ya A2.length yc, .slice za A.length zc] 24)).heap.size ≤ q → q ≠ B := fun q hq e1 => by have h2 := hBW.out; omega
            have HT0 : Hid (IsInts (fun q => q ≠ B) w8 (.slice p1 (smo [] A2).length p2) (smR A2 A).1) := ht0.mono (.weak fun q hq => hmn q hq.1)
            have HT1 : Hid (IsInts (fun q => q ≠ B) w8 (.slice p3 (smo (seenA [] A2) A).length p4) (smR A2 A).2) := ht1.mono (.weak fun q hq => hmn q hq.1)
            have hgl : Hid (gb < w8.heap.size) := World.block_lt_of_cell? _ _ ct0
            have hgB := hmn gb hgb
            have hS12 : Hid (∀ W, Keeps (fun q => q = B) w8 W → W.cell? ⟨gb, 0, none⟩ = some (.slice p1 (smo [] A2).length p2) ∧ W.cell? ⟨gb, 1, none⟩ = some (.slice p3 (smo (seenA [] A2) A).length p4)) := fun W hk =>
              ⟨(World.cell?_of_block (w := w8) (a := ⟨gb, 0, none⟩) (hk.block gb hgl.out hgB)).trans ct0, (World.cell?_of_block (w := w8) (a := ⟨gb, 1, none⟩) (hk.block gb hgl.out hgB)).trans ct1⟩
            clear hbv hbv2 hb8 hSm ht0 ht1 hmn hW18 hoL
            cases hO : (ownB (smR A2 A).1 && ownB (smR A2 A).2) with
            | false =>
              have hV3 : Hid ((turnV fb r l p e).1 = 3) := by rw [Hid, hV.out]; exact put_no hO
              rw [hO] at hOw
              clear hO
              go_wp2_with fail
              refine hOw.out.mono ?_
              rintro y w9 ⟨rfl, rfl⟩
              go_wp2_with fail
              go_ret
              exact ⟨ret_int hV3.out.symm, (fun h => by rw [hV3.out] at h; cases h), HK1.out.trans (Keeps.of_below hB8.out)⟩
            | true =>
              have hV3 : Hid ((turnV fb r l p e).1 = addE fb l e (smR A2 A) ∧ (addE fb l e (smR A2 A) = 0 → turnV fb r l p e = (0, newL l (smR A2 A), addP fb l e (smR A2 A)))) := by rw [Hid, hV.out]; exact put_yes hO
              have hrr := Lib.hid (smR_rule hkB.out hkA.out HG.out hO).1
              have hRu := Lib.hid (rule_calls HFB.out B r l e (smR A2 A) HI.out.rul hrr.out (by omega) _ _ _ _ _ w8.drew ((HS1.out.below hB8.out).below (below_drew _ w8)) (HT0.out.below (below_drew _ w8)) (HT1.out.below (below_drew _ w8)))
              rw [hO] at hOw
              clear hO
              go_wp2_with fail
              refine hOw.out.mono ?_
              rintro y w9 ⟨rfl, rfl⟩
              go_wp2_with fail
              go_region_held3 (fun W => W.cell? ⟨gb, 0, none⟩ = some (.slice p1 (smo [] A2).length p2) ∧ W.cell? ⟨gb, 1, none⟩ = some (.slice p3 (smo (seenA [] A2) A).length p4))
                (first | exact hS12.out _ (.of_below (below_drew _ w8)) | exact hS12.out _ (Keeps.trans (.of_below (below_drew _ w8)) HYR.out.2))
                (first
                  | (go_at_call 177; (with_reducible refine hRu.out.mono ?_); rintro y w10 ⟨rfl, hyr, hyk⟩; have HYR := Lib.hid (And.intro hyr hyk); clear hyr hyk))
              go_wp2_with fail
              go_ret
              rw [hV3.out.1]
              exact ⟨rfl, (fun h => by rw [hV3.out.2 h]; exact HYR.out.1 h), HK1.out.trans ((Keeps.of_below hB8.out).trans ((Keeps.of_below (below_drew w8.heap.size w8)).trans HYR.out.2))⟩
          | false =>
            have hV : Hid ((turnV fb r l p e).1 = 6) := turn_six hE0.out hnB.out (fun hh => by rw [HA.out, HB.out] at hh; exact absurd (HG0.out.symm.trans hh) (by decide)) (fun hh => by rw [HA.out, HB.out] at hh; exact absurd (hg2.symm.trans hh) (by decide))
            rw [hg2] at hG2
            clear hg2
            go_wp2_with fail
            refine hG2.out.mono ?_
            rintro y w7 ⟨rfl, hb7⟩
            have hB7 := Lib.hid (ext_trans hB6.out hb7)
            go_wp2_with fail
            go_ret
            exact ⟨ret_int hV.out.symm, (fun h => by rw [hV.out] at h; cases h), HK1.out.trans (Keeps.of_below hB7.out)⟩
    · have hV : Hid ((turnV fb r l p e).1 = EB) := by
        have hm : mtE l p = EB := by rw [mtE, HA.out, HB.out]; rfl
        rw [Hid, turn_err (by rw [hm]; exact h2), hm]
      have h' : (EB != 0) = true := by simpa using h2
      have HN := Lib.hid h2
      clear h2
      go_wp2_with fail
      go_ret
      exact ⟨ret_int hV.out.symm, (fun h => absurd (hV.out.symm.trans h) HN.out), HK1.out.trans (Keeps.of_below hB4.out)⟩
  · have hV : Hid ((turnV fb r l p e).1 = EA) := by
      have hm : mtE l p = EA := by rw [mtE, HA.out, if_pos h1]
      rw [Hid, turn_err (by rw [hm]; exact h1), hm]
    have h' : (EA != 0) = true := by simpa using h1
    have HN := Lib.hid h1
    clear h1
    go_wp2_with fail
    go_ret
    exact ⟨ret_int hV.out.symm, (fun h => absurd (hV.out.symm.trans h) HN.out), HK1.out.trans (Keeps.of_below HZ.out.2)⟩

end Go.Proofs.Ytepddehodmljeaa
