/- Walks: All of join; pairsBegun, joinBegun. -/
import Derived.Test.YtepddehodmljeaaGa
import Derived.Test.YtepddehodmljeaaF3
import Derived.Test.YtepddehodmljeaaV4
namespace Go.Proofs.Ytepddehodmljeaa
open Go.RowKit Go.Maps

def jaE (fb : Fb) (l : Rus) : Int := if pevE fb l = 0 then (allR l (pevL fb l)).2 else pevE fb l
def jaB (fb : Fb) (l : Rus) : Bool := decide (pevE fb l = 0) && (allR l (pevL fb l)).1
theorem pev_zero {fb : Fb} {l : Rus} (h : pevE fb l = 0) : Rul l ∧ evE fb l = 0 ∧ pevL fb l = evL fb l l.length := by
  unfold pevE at h
  split at h
  · rename_i h1
    exact ⟨rulesE_zero.1 h1, h, by rw [pevL, if_pos h1, evR, if_pos h]⟩
  · rename_i h1; exact absurd h h1
theorem pev_len {fb : Fb} {l : Rus} (h : pevE fb l = 0) : (pevL fb l).length ≤ 40 := by
  obtain ⟨-, h2, h3⟩ := pev_zero h
  rw [h3]
  unfold evE at h2
  split at h2
  · omega
  · split at h2
    · omega
    · omega
theorem pev_right {fb : Fb} (hfb : FbOk fb) {l : Rus} (h : pevE fb l = 0) : ∀ p ∈ pevL fb l, chk p.1 = 0 ∧ chk p.2 = 0 := by
  obtain ⟨h1, h2, h3⟩ := pev_zero h
  rw [h3]
  intro p hp
  obtain ⟨i, hi, hp⟩ := List.mem_flatMap.1 hp
  obtain ⟨j, hj, hp⟩ := List.mem_flatMap.1 hp
  have hi := List.mem_range.1 hi
  have hj := List.mem_range.1 hj
  obtain ⟨-, -, hc⟩ := pairs_model hfb h1 hi hj ((evE_zero h2).1 i j hi hj)
  exact ⟨(hc p hp).1, (hc p hp).2.1⟩
theorem allR_drop {l : Rus} {ps : List Ru} {k : Nat} (hk : k < ps.length) : allR l (ps.drop k) = if mtE l (nthR ps k) = 0 ∧ mtB l (nthR ps k) = true then allR l (ps.drop (k + 1)) else (false, mtE l (nthR ps k)) := by
  rw [List.drop_eq_getElem_cons hk, ← nthR_eq hk]; rfl

set_option maxRecDepth 100000 in
set_option maxHeartbeats 2000000 in
theorem JAll_calls {fb : Fb} (hfb : FbOk fb) (l : Rus) (v : Value) (w : World) (hv : IsRules Any w v l) :
    Calls Try.prog 74 #[v] w fun e w' => e = .returned (.tuple #[.bool (jaB fb l), .int .i64 (jaE fb l)]) ∧ Below w.heap.size w w' := by
  have hP := Lib.hid (PAll_calls hfb l v w hv)
  obtain ⟨va, vc, rfl⟩ := hv.isSlice
  have HV := Lib.hid hv
  by_cases he : pevE fb l = 0
  · have HE := Lib.hid he
    have hE : Hid (jaE fb l = (allR l (pevL fb l)).2 ∧ jaB fb l = (allR l (pevL fb l)).1) := ⟨by rw [jaE, if_pos he], by rw [jaB, he]; rfl⟩
    have hR := Lib.hid (pev_right hfb he)
    have hL := Lib.hid (pev_zero he).1
    have hl40 := pev_len he
    clear hv he hfb
    go_enter Try.func74, Try.ntmps74
    go_wp2_with fail
    refine hP.out.mono ?_
    rintro e w1 ⟨y, rfl, hy, hB1⟩
    have HY := Lib.hid (IsRow.any RuleR.ok hy)
    have HB1 := Lib.hid hB1
    obtain ⟨ya, yc, rfl⟩ := hy.isSlice
    rw [HE.out]
    clear hy hB1
    generalize pevL fb l = ps at *
    have hl40' : (ps.length : Int) ≤ 40 := by omega
    go_wp2_with fail
    go_loopw [20] (fun s20 wr => ∃ k : Nat, k ≤ ps.length ∧ s20 = .int .i64 k ∧ Hid (Below w1.heap.size w1 wr) ∧ Hid (allR l (ps.drop k) = allR l ps)) (fun s20 _ => ps.length - (intOf s20).toNat)
    case atStart => exact ⟨0, Nat.zero_le _, rfl, .refl _ _, by rw [List.drop_zero]; rfl⟩
    case round =>
      rename World => wr
      obtain ⟨k, hk, rfl, hB, hN⟩ := hrel
      by_cases hlk : k < ps.length
      · have hkk : (k : Int) < ps.length := by omega
        have hVr : IsRules Any wr (.slice ya ps.length yc) ps := HY.out.below RuleR.ok hB.out
        obtain ⟨hlen, ⟨rfl, -⟩ | ⟨b, o, c, e, hlt, -, hc⟩⟩ := hVr.cells
        · simp at hlk
        · cases e
          obtain ⟨u, x, hu, hx, hiu, hix⟩ := hc k hlk
          obtain ⟨a1, c1, e1⟩ := hiu.isSlice
          obtain ⟨a2, c2, e2⟩ := hix.isSlice
          subst e1 e2
          obtain ⟨r1, r2⟩ := hR.out _ (nthR_mem hlk)
          have hb1 := below_alloc wr (.cells #[.slice a1 (nthR ps k).1.length c1, .slice a2 (nthR ps k).2.length c2] 65)
          have hBw := ext_trans HB1.out (ext_trans hB.out hb1)
          have hM := Lib.hid (meets_calls l hL.out (nthR ps k) r1 r2 _ _ _ _ (HV.out.below RuleR.ok hBw) (hiu.below hb1) (hix.below hb1))
          have hBW := Lib.hid hBw
          have hB2 := Lib.hid (ext_trans hB.out hb1)
          have hd := Lib.hid (allR_drop (l := l) hlk)
          clear hiu hix r1 r2 hb1 hc hlen hBw
          by_cases e0 : mtE l (nthR ps k) = 0
          · have E0 := Lib.hid e0
            cases eb : mtB l (nthR ps k) with
            | true =>
              have hmr : Hid (mtR l (nthR ps k) = true) := by rw [Hid, mtR, e0, eb]; rfl
              have hN' : Hid (allR l (ps.drop (k + 1)) = allR l ps) := by rw [Hid, ← hN.out, hd.out, if_pos ⟨e0, eb⟩]
              rw [E0.out, hmr.out] at hM
              clear e0 eb
              go_wp2_with fail
              refine hM.out.mono ?_
              rintro e w3 ⟨rfl, hb3⟩
              go_wp2_with fail
              go_roundw
              case rel => exact ⟨k + 1, by omega, by go_num, ext_trans hB2.out hb3, hN'.out⟩
              case measure => simp [intOf]; omega
            | false =>
              have hmr : Hid (mtR l (nthR ps k) = false) := by rw [Hid, mtR, e0, eb]; rfl
              have hN' : Hid (allR l ps = (false, 0)) := by rw [Hid, ← hN.out, hd.out, if_neg (by rw [eb]; simp), e0]
              rw [E0.out, hmr.out] at hM
              clear e0 eb
              go_wp2_with fail
              refine hM.out.mono ?_
              rintro e w3 ⟨rfl, hb3⟩
              go_wp2_with fail
              go_ret2
              rw [hE.out.1, hE.out.2, hN'.out]
              exact ⟨rfl, ext_trans hBW.out hb3⟩
          · have h' : (mtE l (nthR ps k) != 0) = true := by simpa using e0
            have hN' : Hid (allR l ps = (false, mtE l (nthR ps k))) := by rw [Hid, ← hN.out, hd.out, if_neg (fun h => e0 h.1)]
            clear e0
            go_wp2_with fail
            refine hM.out.mono ?_
            rintro e w3 ⟨rfl, hb3⟩
            go_wp2_with fail
            go_ret2
            rw [hE.out.1, hE.out.2, hN'.out]
            exact ⟨rfl, ext_trans hBW.out hb3⟩
      · obtain rfl : k = ps.length := by omega
        have hN' : Hid (allR l ps = (true, 0)) := by rw [Hid, ← hN.out, List.drop_length]; rfl
        go_wp2_with fail
        go_ret2
        rw [hE.out.1, hE.out.2, hN'.out]
        exact ⟨rfl, ext_trans HB1.out hB.out⟩
  · have h' : (pevE fb l != 0) = true := by simpa using he
    have hE : Hid (jaE fb l = pevE fb l ∧ jaB fb l = false) := ⟨by rw [jaE, if_neg he], by rw [jaB, decide_eq_false he]; rfl⟩
    clear hv he hfb
    go_enter Try.func74, Try.ntmps74
    go_wp2_with fail
    refine hP.out.mono ?_
    rintro e w1 ⟨y, rfl, -, hB1⟩
    go_wp2_with fail
    go_ret2
    rw [hE.out.1, hE.out.2]
    exact ⟨rfl, hB1⟩

end Go.Proofs.Ytepddehodmljeaa
