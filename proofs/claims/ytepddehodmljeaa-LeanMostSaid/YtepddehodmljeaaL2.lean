/- Walks: lean.All up to the sort: the leans of each rule. -/
import Derived.Test.YtepddehodmljeaaGa
import Derived.Test.YtepddehodmljeaaL1
namespace Go.Proofs.Ytepddehodmljeaa
open Go.RowKit Go.Maps

def LeanR : Rep Ln := fun S w us y => ∃ u v, us = [.int .i64 y.1, .int .i64 y.2.1, u, v] ∧ IsTerms S w u y.2.2.1 ∧ IsInts S w v y.2.2.2
theorem LeanR.ok : Rep.Ok LeanR := fun _ _ _ _ _ _ ⟨u, v, h, k1, k2⟩ hk => ⟨u, v, h, IsRow.mono TermR.ok k1 hk, k2.mono hk⟩
abbrev IsLeans (S : Blk) (w : World) (v : Value) (l : List Ln) : Prop := IsRow 4 LeanR S w v l
theorem Try.inf111 : (Try.prog.info? 111).map (fun i => (i.zero, i.size, i.bytes)) = some (some (.agg #[.int .i64 0, .int .i64 0, .slice none 0 0, .slice none 0 0]), 4, 64) := by kernel_rfl
theorem Try.underlying107 : Try.prog.underlying 107 = some (.slice 111) := by kernel_rfl

set_option maxRecDepth 100000 in
theorem All1_calls (k : Int) (w : World) : Calls Try.prog 162 #[.int .i64 k] w fun e w' => e = .returned (.bool false) ∧ w = w' := by
  go_enter Try.func162, Try.ntmps162
  go_wp2_with fail
  go_ret
  exact ⟨rfl, rfl⟩

/-- What comes before it is sorted. -/
def lnE (fb : Fb) (l : Rus) (t : List Int) : Int := if askE l t ≠ 0 then askE l t else if ownB t = false then 3 else if lnB fb l t = true then 2 else 0
def lnA (fb : Fb) (l : Rus) (t : List Int) (k j : Nat) : List Ln := lnK fb l t k ++ (lnR fb l t k).take j
theorem lnA_zero (fb : Fb) (l : Rus) (t : List Int) (k : Nat) : lnA fb l t k 0 = lnK fb l t k := by simp [lnA]
def lnY (n : Nat) (x : Lp) : Ln := (n, x.1, x.2.1, x.2.2)
theorem lnR_eq (fb : Fb) (l : Rus) (t : List Int) (k : Nat) : lnR fb l t k = (lapP fb (nthR l k) t noP t.length).map (lnY k) := rfl
theorem lnA_succ {fb : Fb} {l : Rus} {t : List Int} {k j : Nat} {ls : List Lp} (hls : lapP fb (nthR l k) t noP t.length = ls) (h : j < ls.length) : lnA fb l t k j ++ [lnY k (nthL ls j)] = lnA fb l t k (j + 1) := by
  unfold lnA
  rw [lnR_eq, hls, List.append_assoc, ← List.map_take, ← List.map_take, List.take_succ_eq_append_getElem h, List.map_append, nthL_eq h]
  rfl
theorem lnA_all {fb : Fb} {l : Rus} {t : List Int} {k : Nat} {ls : List Lp} (hls : lapP fb (nthR l k) t noP t.length = ls) : lnA fb l t k ls.length = lnK fb l t (k + 1) := by
  unfold lnA
  rw [lnK_succ, lnR_eq, hls, List.take_of_length_le (by simp)]
theorem lnR_le (fb : Fb) (l : Rus) (t : List Int) (k : Nat) : (lnR fb l t k).length ≤ t.length := by
  rw [lnR_eq, List.length_map]; exact lapP_le fb _ t noP _
theorem lnK_le (fb : Fb) (l : Rus) (t : List Int) : ∀ k, (lnK fb l t k).length ≤ k * t.length
  | 0 => by simp [lnK]
  | k + 1 => by
    have h1 := lnK_le fb l t k
    have h2 := lnR_le fb l t k
    rw [lnK_succ, List.length_append, Nat.add_mul]; omega
theorem lapsE_yes {fb : Fb} {r : Ru} {t : List Int} {ps : Nat → Bool} (h : lapsB fb r t ps = true) : lapsE fb r t ps = 2 := if_pos h
theorem lapsE_no {fb : Fb} {r : Ru} {t : List Int} {ps : Nat → Bool} (h : lapsB fb r t ps = false) : lapsE fb r t ps = 0 ∧ lapsL fb r t ps = lapP fb r t ps t.length := by
  unfold lapsE lapsL
  rw [h]
  exact ⟨if_neg (by decide), if_neg (by decide)⟩

/-- What is asked of the sort: it changes places, nothing else; few that stand right stay. -/
def SortA : Prop := ∀ (ls : List Ln) (base : Nat) (v : Value) (w : World), OwnRow base 111 4 LeanR (Fr base) w v ls → ls.length ≤ 100000 →
  Calls Try.prog 163 #[v, .func (.func 164) #[] #[]] w fun e w' => e = .returned (.tuple #[]) ∧ Below base w w' ∧
    ∃ ls', ls'.Perm ls ∧ ((ls.length < 20 ∧ ∀ i (h : i + 1 < ls.length), ls[i].2.1 ≤ ls[i + 1].2.1) → ls' = ls) ∧ IsLeans (Fr base) w' v ls'

def LnOk (fb : Fb) (l : Rus) (t : List Int) (ls : List Ln) : Prop :=
  if lnE fb l t = 0 then ls.Perm (lnP fb l t) ∧ (((lnP fb l t).length < 20 ∧ ∀ i (h : i + 1 < (lnP fb l t).length), (lnP fb l t)[i].2.1 ≤ (lnP fb l t)[i + 1].2.1) → ls = lnP fb l t) else ls = []

set_option maxHeartbeats 4000000 in
set_option maxRecDepth 100000 in
theorem LAll_calls {fb : Fb} (hfb : FbOk fb) (hsort : SortA) (l : Rus) (t : List Int) (v x : Value) (w : World) (hv : IsRules Any w v l) (hx : IsInts Any w x t) :
    Calls Try.prog 97 #[v, x] w fun e w' => ∃ y ls, e = .returned (.tuple #[y, .int .i64 (lnE fb l t)]) ∧ LnOk fb l t ls ∧ IsLeans (Fr w.heap.size) w' y ls ∧ Below w.heap.size w w' := by
  obtain ⟨i111, hi, hz, hsz, hby⟩ := info_parts Try.inf111
  have hA := Lib.hid (Asked_calls l t v x w hv hx)
  by_cases ha : askE l t = 0
  · by_cases ho : ownB t = true
    · have hrl : rulesE l = 0 := by
        unfold askE at ha
        split at ha
        · assumption
        · exact ha
      have hct : chk t = 0 := by unfold askE at ha; rwa [if_pos hrl] at ha
      have hl : Rul l := rulesE_zero.1 hrl
      have hne := ne_of_chk hct
      have htl := len_of_chk hct
      have hE : Hid (lnE fb l t = if lnB fb l t = true then 2 else 0) := by rw [Hid, lnE, if_neg (by simp [ha]), if_neg (by simp [ho])]
      have HV := Lib.hid hv
      have HX := Lib.hid hx
      have HFB := Lib.hid hfb
      have HL := Lib.hid hl
      have HC := Lib.hid hct
      have hOw := Lib.hid fun (ts : List (List Int)) (h : ts = [t]) u W (hu : IsTerms Any W u ts) => Own_calls ts (by rw [h]; simpa using hne) u W hu
      have hol : Hid (ownL [t] = true) := by simp [Hid, ownL, ho]
      have hll := hl.1
      have hll' : (l.length : Int) ≤ 8 := by omega
      obtain ⟨va, vc, rfl⟩ := hv.isSlice
      obtain ⟨xa, xc, rfl⟩ := hx.isSlice
      rw [ha] at hA
      clear hv hx hfb hl hct hne ha ho hrl
      go_enter Try.func97, Try.ntmps97
      go_wp2_with fail
      refine hA.out.mono ?_
      rintro e w1 ⟨rfl, hB1⟩
      have hone : IsTerms Any (w1.alloc (.cells #[.slice xa t.length xc] 24)) (.slice (some ⟨w1.heap.size, 0, none⟩) 1 1) [t] := by
        have hx1 := (HX.out.below (ext_trans hB1 (below_alloc w1 (.cells #[.slice xa t.length xc] 24))))
        refine ⟨by simp, .inr ⟨by simp, w1.heap.size, 0, 1, rfl, by simp, trivial, by simp, [.slice xa t.length xc], ⟨[.slice xa t.length xc], [], rfl, rfl, ⟨_, rfl, hx1⟩, rfl⟩, fun j u hj => ?_⟩⟩
        rw [World.cell?_alloc_at _ _ _ _ rfl]
        simpa using hj
      have hOw2 := Lib.hid (hOw.out [t] rfl _ _ hone)
      have HB1 := Lib.hid hB1
      rw [hol.out] at hOw2
      clear hone hB1 hOw hA
      go_wp2_with fail
      refine hOw2.out.mono ?_
      rintro e w' ⟨rfl, rfl⟩
      have HB2 := Lib.hid (ext_trans HB1.out (below_alloc w1 (.cells #[.slice xa t.length xc] 24)))
      clear HB1 hOw2 hol
      generalize w1.alloc (.cells #[.slice xa t.length xc] 24) = w2 at *
      go_wp2_with fail
      go_loopw [7, 26] (fun out s26 wr => ∃ k : Nat, k ≤ l.length ∧ s26 = .int .i64 k ∧ Hid (OwnRow w.heap.size 111 4 LeanR (Fr w.heap.size) wr out (lnK fb l t k)) ∧ Hid (Below w.heap.size w wr) ∧ Hid (∀ n, n < k → lapsB fb (nthR l n) t noP = false)) (fun _ s26 _ => l.length - (intOf s26).toNat)
      case atStart => exact ⟨0, Nat.zero_le _, rfl, by rw [show lnK fb l t 0 = [] from rfl]; exact OwnRow.nil _ _ _ _, HB2.out, fun n h => by omega⟩
      case round =>
        rename World => wr
        obtain ⟨k, hk, rfl, hO, hB, hN⟩ := hrel
        by_cases hlk : k < l.length
        · have hkk : (k : Int) < l.length := by omega
          obtain ⟨rb, ro, rc, ru, rx, e, hrb, d0, d1, hru, hrx⟩ := rule_cell (HV.out.below RuleR.ok hB.out) hlk
          cases e
          obtain ⟨W1, hW1⟩ : ∃ W1, W1 = wr.alloc (.cells #[ru, rx] 102) := ⟨_, rfl⟩
          have hb1 : Below wr.heap.size wr W1 := by rw [hW1]; exact below_alloc _ _
          obtain ⟨ru1, ru2, rfl⟩ := hru.isSlice
          obtain ⟨rx1, rx2, rfl⟩ := hrx.isSlice
          have hLp := Lib.hid (Laps_calls HFB.out (nthR l k) t (HL.out.2 _ (nthR_mem hlk)) HC.out _ _ _ W1 (hru.below hb1) (hrx.below hb1) (HX.out.below (ext_trans hB.out hb1)) 162 #[] noP (enters_fn Try.func162 (by kernel_rfl) rfl) fun j W _ _ => All1_calls j W)
          have HB1 := Lib.hid (ext_trans hB.out hb1)
          have hO1 := Lib.hid (hO.out.below LeanR.ok hb1)
          clear hru hrx hb1
          cases hlB : lapsB fb (nthR l k) t noP
          · rw [(lapsE_no hlB).1, (lapsE_no hlB).2] at hLp
            have hN' : Hid (∀ n, n < k + 1 → lapsB fb (nthR l n) t noP = false) := fun n hn => by
              by_cases e : n = k
              · rw [e]; exact hlB
              · exact hN.out n (by omega)
            have hsuc := Lib.hid fun ls (h : lapP fb (nthR l k) t noP t.length = ls) => And.intro (fun j (hj : j < ls.length) => lnA_succ (l := l) h hj) (lnA_all (l := l) h)
            have hlle := lapP_le fb (nthR l k) t noP t.length
            have hz0 := lnA_zero fb l t k
            have hKl := lnK_le fb l t k
            have hK30 : (lnK fb l t k).length ≤ 240 := Nat.le_trans hKl (Nat.le_trans (Nat.mul_le_mul (by omega : k ≤ 8) htl) (by decide))
            have HZ := Lib.hid hz0
            have HK := Lib.hid hK30
            clear hlB hN hz0 hKl hK30
            generalize hls : lapP fb (nthR l k) t noP t.length = ls at *
            have HLS := Lib.hid hls
            clear hls
            go_wp2_with fail
            rw [← hW1]
            clear hW1
            refine hLp.out.mono ?_
            rintro e w3 ⟨y, rfl, hy, hb3⟩
            obtain ⟨ya, yc, rfl⟩ := hy.isSlice
            have HB3 := Lib.hid (ext_trans HB1.out hb3)
            have HO3 := Lib.hid (hO1.out.below LeanR.ok hb3)
            have hoz : Hid (∀ b, u7.ownBlock = some b → b < W1.heap.size) := fun b hb => (hO1.out.block b hb).2
            have hW1z : Hid (w.heap.size ≤ W1.heap.size ∧ W1.heap.size ≤ w3.heap.size) := ⟨HB1.out.size, hb3.size⟩
            have HY : Hid (IsLaps (fun b => W1.heap.size ≤ b ∧ b < w3.heap.size) w3 (.slice ya ls.length yc) ls) := IsRow.mono LapR.ok hy ⟨Nat.le_refl _, fun b hb hl => ⟨⟨hb, hl⟩, rfl⟩⟩
            have hls30 : (ls.length : Int) ≤ 30 := by omega
            clear hy hb3 hLp hO1
            go_wp2_with fail
            go_loopw [7, 42] (fun out s42 wi => ∃ j : Nat, j ≤ ls.length ∧ s42 = .int .i64 j ∧ Hid (OwnRow w.heap.size 111 4 LeanR (Fr w.heap.size) wi out (lnA fb l t k j)) ∧ Hid (Below w.heap.size w wi) ∧ Hid (IsLaps (fun b => W1.heap.size ≤ b ∧ b < w3.heap.size) wi (.slice ya ls.length yc) ls) ∧ Hid ((∀ b, out.ownBlock = some b → b < W1.heap.size ∨ w3.heap.size ≤ b) ∧ w3.heap.size ≤ wi.heap.size)) (fun _ s42 _ => ls.length - (intOf s42).toNat)
            case atStart => exact ⟨0, Nat.zero_le _, rfl, by rw [HZ.out]; exact HO3.out, HB3.out, HY.out, fun b hb => .inl (hoz.out b hb), Nat.le_refl _⟩
            case round =>
              rename World => wi
              obtain ⟨j, hj, rfl, hO2, hB2, hL2, hN2⟩ := hrel
              by_cases hlj : j < ls.length
              · have hjj : (j : Int) < ls.length := by omega
                obtain ⟨lb, lo, lc, sv, xv, e, hlb, c0, c1, c2, hsv, hxv⟩ := laps_cell hL2.out hlj
                cases e
                obtain ⟨sv1, sv2, rfl⟩ := hsv.isSlice
                obtain ⟨xv1, xv2, rfl⟩ := hxv.isSlice
                obtain ⟨W4, hW4⟩ : ∃ W4, W4 = wi.alloc (.cells #[.int .i64 ((nthL ls j).1 : Int), .slice sv1 (nthL ls j).2.1.length sv2, .slice xv1 (nthL ls j).2.2.length xv2] 173) := ⟨_, rfl⟩
                have hb4 : Below wi.heap.size wi W4 := by rw [hW4]; exact below_alloc _ _
                have hO4 := Lib.hid (hO2.out.below LeanR.ok hb4)
                have HB4 := Lib.hid (ext_trans hB2.out hb4)
                have hz4 : Hid (w3.heap.size ≤ W4.heap.size) := Nat.le_trans hN2.out.2 hb4.size
                have hmn : ∀ b, W1.heap.size ≤ b ∧ b < w3.heap.size → Both' (Fr w.heap.size) (Off u7) b := fun b hb => ⟨Nat.le_trans hW1z.out.1 hb.1, fun e => by have := hN2.out.1 b e; omega⟩
                have hel : Hid (LeanR (Both' (Fr w.heap.size) (Off u7)) W4 [.int .i64 (k : Int), .int .i64 ((nthL ls j).1 : Int), .slice sv1 (nthL ls j).2.1.length sv2, .slice xv1 (nthL ls j).2.2.length xv2] (lnY k (nthL ls j))) :=
                  ⟨_, _, rfl, IsRow.mono TermR.ok (IsRow.below TermR.ok hsv hb4) (.weak hmn), (hxv.below hb4).mono (.weak hmn)⟩
                have hones : Hid (Ones [.int .i64 (k : Int), .int .i64 ((nthL ls j).1 : Int), .slice sv1 (nthL ls j).2.1.length sv2, .slice xv1 (nthL ls j).2.2.length xv2]) := fun u hu => by
                  simp at hu; rcases hu with rfl | rfl | rfl | rfl <;> rfl
                have hsn := Lib.hid ((hsuc.out ls rfl).1 j hlj)
                have hlen : Hid (((lnA fb l t k j).length + 1) * 64 ≤ 100000000) := by
                  have h1 := HK.out
                  have h2 : (lnA fb l t k j).length ≤ (lnK fb l t k).length + j := by
                    unfold lnA; rw [List.length_append, List.length_take]; omega
                  rw [Hid]; omega
                have hwz : Hid (w.heap.size ≤ W4.heap.size) := HB4.out.size
                have hW4z : Hid (wi.heap.size + 1 = W4.heap.size) := by rw [Hid, hW4]; simp
                have hL4 := Lib.hid (IsRow.below LapR.ok hL2.out hb4)
                have hN4 := Lib.hid hN2.out.1
                clear hsv hxv hmn hb4 hO2 hL2 hN2
                go_wp2_with (at_builtin; rw [← hW4]; refine app_one LeanR.ok _ _ 107 rfl rfl w.heap.size 111 i111 (.agg #[.int .i64 0, .int .i64 0, .slice none 0 0, .slice none 0 0]) 64 Try.underlying107 hi hz hsz hby rfl (by decide) hO4.out (us := [.int .i64 (k : Int), .int .i64 ((nthL ls j).1 : Int), .slice sv1 (nthL ls j).2.1.length sv2, .slice xv1 (nthL ls j).2.2.length xv2]) (y := lnY k (nthL ls j)) rfl hW4z.out rfl hones.out hel.out hlen.out (by decide) hwz.out ?dd; intro v' w5 hown5 hb5 hk5 hbk5)
                rw [hsn.out] at hown5
                have hB5 := Lib.hid (HB4.out.trans hb5)
                have hL5 := Lib.hid (IsRow.mono LapR.ok hL4.out (hk5.sok fun b hl hb e => by have := hN4.out b e; omega))
                have hz5 : Hid (w3.heap.size ≤ w5.heap.size) := Nat.le_trans hz4.out hk5.size
                have hN5 : Hid (∀ b, v'.ownBlock = some b → b < W1.heap.size ∨ w3.heap.size ≤ b) := fun b hb => by
                  rcases hbk5 b hb with h | h
                  · exact hN4.out b h
                  · exact .inr (Nat.le_trans hz4.out h)
                go_roundw
                case rel => exact ⟨j + 1, by omega, by go_num, hown5, hB5.out, hL5.out, hN5.out, hz5.out⟩
                case measure => simp [intOf]; omega
              · obtain rfl : j = ls.length := by omega
                go_wp2_with fail
                go_roundw
                case rel => exact ⟨k + 1, by omega, by go_num, by rw [← (hsuc.out ls rfl).2]; exact hO2.out, hB2.out, hN'.out⟩
                case measure => simp [intOf]; omega
          · have hE2 : Hid (lnE fb l t = 2) := by
              rw [Hid, hE.out, if_pos]
              exact List.any_eq_true.2 ⟨k, List.mem_range.2 hlk, hlB⟩
            rw [lapsE_yes hlB] at hLp
            clear hlB hN
            go_wp2_with fail
            rw [← hW1]
            refine hLp.out.mono ?_
            rintro e w3 ⟨y, rfl, -, hb3⟩
            have HB3 := Lib.hid (ext_trans HB1.out hb3)
            clear hb3
            go_wp2_with fail
            go_ret2
            rw [hE2.out]
            exact ⟨_, [], rfl, by rw [LnOk, if_neg (by rw [hE2.out]; decide)], .nil _ _, HB3.out⟩
        · obtain rfl : k = l.length := by omega
          have hE2 : Hid (lnE fb l t = 0) := by
            rw [Hid, hE.out, if_neg]
            rw [Bool.not_eq_true]
            exact List.any_eq_false.2 fun n hn => by rw [hN.out n (List.mem_range.1 hn)]; decide
          have hKl : (lnK fb l t l.length).length ≤ 100000 := Nat.le_trans (lnK_le fb l t _) (Nat.le_trans (Nat.mul_le_mul hll htl) (by decide))
          have hSo := Lib.hid (hsort _ _ _ wr hO.out hKl)
          clear hN hKl
          go_wp2_with fail
          refine hSo.out.mono ?_
          rintro e w4 ⟨rfl, hb4, ls', h1, h2, h3⟩
          have HF := Lib.hid (And.intro (hB.out.trans hb4) (And.intro h1 (And.intro h2 h3)))
          clear hb4 h1 h2 h3 hSo
          go_wp2_with fail
          go_ret2
          rw [hE2.out]
          exact ⟨_, ls', rfl, by rw [LnOk, if_pos hE2.out]; exact ⟨HF.out.2.1, HF.out.2.2.1⟩, HF.out.2.2.2, HF.out.1⟩
    · have hE : Hid (lnE fb l t = 3) := by rw [Hid, lnE, if_neg (by simp [ha]), if_pos (by simpa using ho)]
      have hrl : rulesE l = 0 := by
        unfold askE at ha
        split at ha
        · assumption
        · exact ha
      have hct : chk t = 0 := by unfold askE at ha; rwa [if_pos hrl] at ha
      have hne := ne_of_chk hct
      have HX := Lib.hid hx
      have hOw := Lib.hid fun (ts : List (List Int)) (h : ts = [t]) u W (hu : IsTerms Any W u ts) => Own_calls ts (by rw [h]; simpa using hne) u W hu
      have hol : Hid (ownL [t] = false) := by simp [Hid, ownL] ; simpa using ho
      obtain ⟨va, vc, rfl⟩ := hv.isSlice
      obtain ⟨xa, xc, rfl⟩ := hx.isSlice
      rw [ha] at hA
      clear hv hx hfb hct hne ha ho hrl
      go_enter Try.func97, Try.ntmps97
      go_wp2_with fail
      refine hA.out.mono ?_
      rintro e w1 ⟨rfl, hB1⟩
      have hone : IsTerms Any (w1.alloc (.cells #[.slice xa t.length xc] 24)) (.slice (some ⟨w1.heap.size, 0, none⟩) 1 1) [t] := by
        have hx1 := (HX.out.below (ext_trans hB1 (below_alloc w1 (.cells #[.slice xa t.length xc] 24))))
        refine ⟨by simp, .inr ⟨by simp, w1.heap.size, 0, 1, rfl, by simp, trivial, by simp, [.slice xa t.length xc], ⟨[.slice xa t.length xc], [], rfl, rfl, ⟨_, rfl, hx1⟩, rfl⟩, fun j u hj => ?_⟩⟩
        rw [World.cell?_alloc_at _ _ _ _ rfl]
        simpa using hj
      have hOw2 := Lib.hid (hOw.out [t] rfl _ _ hone)
      have HB1 := Lib.hid hB1
      rw [hol.out] at hOw2
      clear hone hB1 hOw hA
      go_wp2_with fail
      refine hOw2.out.mono ?_
      rintro e w' ⟨rfl, rfl⟩
      have HB2 := Lib.hid (ext_trans HB1.out (below_alloc w1 (.cells #[.slice xa t.length xc] 24)))
      go_wp2_with fail
      go_ret2
      rw [hE.out]
      exact ⟨_, [], rfl, by rw [LnOk, if_neg (by rw [hE.out]; decide)], .nil _ _, HB2.out⟩
  · have hE : Hid (lnE fb l t = askE l t) := by rw [Hid, lnE, if_pos ha]
    have hab : (askE l t != 0) = true := by simpa using ha
    have HA := Lib.hid ha
    clear hv hx ha
    go_enter Try.func97, Try.ntmps97
    go_wp2_with fail
    refine hA.out.mono ?_
    rintro e w1 ⟨rfl, hB1⟩
    have HB1 := Lib.hid hB1
    clear hB1 hA
    go_wp2_with fail
    go_ret2
    rw [hE.out]
    exact ⟨_, [], rfl, by rw [LnOk, if_neg (by rw [hE.out]; exact HA.out)], .nil _ _, HB1.out⟩

end Go.Proofs.Ytepddehodmljeaa
