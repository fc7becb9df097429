/- Walks: order.Over, Above; rank; orderBegun. -/
import Derived.Test.YtepddehodmljeaaO5
namespace Go.Proofs.Ytepddehodmljeaa
open Go.RowKit Go.Maps

theorem above_calls {S Bm : Nat} {r a b : List Int} {rv av bv : Value} (hrl : r.length = 6) (ha : chk a = 0) (hb : chk b = 0) : ∀ (n i j : Nat) (w : World), i < a.length → j < b.length → ((tmOf a).sub i).size + ((tmOf b).sub j).size ≤ n →
    ScIs S Bm r a b rv av bv w → ScCalls 178 S Bm r a b rv av bv i j w (GtP r a b i j)
  | 0, i, j, w, _, _, h, _ => by have := size_pos ((tmOf a).sub i); omega
  | n + 1, i, j, w, hi, hj, hn, h =>
    above_of ha hb hi hj
      (fun w h => byPart_of ha hb hi hj (fun k w hk h => above_calls hrl ha hb n k j w (ps_lt ha hi hk).1 hj (by have := (ps_lt ha hi hk).2.2; omega) h) h)
      (fun w h => byHead_of hrl ha hb hi hj (fun k w hk h => above_calls hrl ha hb n i k w hi (ps_lt hb hj hk).1 (by have := (ps_lt hb hj hk).2.2; omega) h)
        (fun k m w hk hm h => above_calls hrl ha hb n k m w (ps_lt ha hi hk).1 (ps_lt hb hj hm).1 (by have := (ps_lt ha hi hk).2.2; have := (ps_lt hb hj hm).2.2; omega) h) h) h

set_option maxRecDepth 100000 in
theorem Over_order (r a b : List Int) (hrl : r.length = 6) (ha : chk a = 0) (hb : chk b = 0) (rv av bv : Value) (w : World) (hr : IsInts Any w rv r) (hav : IsInts Any w av a) (hbv : IsInts Any w bv b) :
    Calls Try.prog 135 #[rv, av, bv] w fun e w' => e = .returned (.bool (gt (rkF r) (tmOf a) (tmOf b))) ∧ Below w.heap.size w w' := by
  have hmm := @run_makeMap Try.prog
  have hla : 0 < a.length := by have := ne_of_chk ha; cases a with | nil => exact absurd rfl this | cons => simp
  have hlb : 0 < b.length := by have := ne_of_chk hb; cases b with | nil => exact absurd rfl this | cons => simp
  have hS : Hid (ScIs (w.heap.size + 1) w.heap.size r a b rv av bv ((w.alloc (.map #[] 0)).alloc (.cells #[rv, av, bv, .map (some w.heap.size)] 192))) := by
    have hb2 := ext_alloc (below_alloc w (.map #[] 0)) (.cells #[rv, av, bv, .map (some w.heap.size)] 192)
    have hk : Sok Any (fun k => k ≠ w.heap.size) w ((w.alloc (.map #[] 0)).alloc (.cells #[rv, av, bv, .map (some w.heap.size)] 192)) := ⟨hb2.size, fun k _ hl => ⟨by omega, hb2.block k hl⟩⟩
    refine ⟨?_, ?_, ?_, ?_, by simp, by omega, hr.mono hk, hav.mono hk, hbv.mono hk, [], ?_, fun p hp => by cases hp⟩
    · exact World.cell?_alloc_at _ _ _ _ (by simp)
    · exact World.cell?_alloc_at _ _ _ _ (by simp)
    · exact World.cell?_alloc_at _ _ _ _ (by simp)
    · exact World.cell?_alloc_at _ _ _ _ (by simp)
    · exact (MapIs.made Try.prog 51 w).keep ((below_alloc (w.alloc (.map #[] 0)) _).block _ (by simp))
  have hC := Lib.hid (above_calls hrl ha hb _ 0 0 _ hla hlb (Nat.le_refl _) hS.out)
  have hB := Lib.hid (ext_alloc (below_alloc w (.map #[] 0)) (.cells #[rv, av, bv, .map (some w.heap.size)] 192))
  have hG : Hid (GtP r a b 0 0 = gt (rkF r) (tmOf a) (tmOf b)) := by rw [Hid, GtP, sub_zero, sub_zero]
  obtain ⟨a1, c1, rfl⟩ := hr.isSlice
  obtain ⟨a2, c2, rfl⟩ := hav.isSlice
  obtain ⟨a3, c3, rfl⟩ := hbv.isSlice
  unfold ScCalls at hC
  clear hr hav hbv ha hb hrl hla hlb hS
  go_enter Try.func135, Try.ntmps135
  go_wp2_with fail
  refine hC.out.mono ?_
  rintro e w' ⟨rfl, -, hK⟩
  have HK := Lib.hid hK
  clear hK hC
  go_wp2_with fail
  go_ret
  refine ⟨ret_bool hG.out, ?_⟩
  have h1 := hB.out
  have h2 := HK.out
  refine ⟨h2.os.trans h1.os, h2.tape.trans h1.tape, h2.output.trans h1.output, Nat.le_trans h1.size h2.size, fun k hk => ?_⟩
  rw [h2.block k (Nat.lt_of_lt_of_le hk h1.size) (by omega)]
  exact h1.block k hk

theorem Above_calls (r a b : List Int) (rv av bv : Value) (w : World) (hr : IsInts Any w rv r) (hav : IsInts Any w av a) (hbv : IsInts Any w bv b) :
    Calls Try.prog 67 #[rv, av, bv] w fun e w' => e = .returned (.tuple #[.bool (aboveB r a b), .int .i64 (aboveE r a b)]) ∧ Below w.heap.size w w' := by
  have h1 := Lib.hid (RankCheck_calls r rv w hr)
  have h2 := Lib.hid (Both_calls a b av bv w hav hbv)
  by_cases h : rankE r = 0
  · by_cases hc : chk2 a b = 0
    · have h3 := Lib.hid (Over_order r a b (rankE_zero h).1 (chk2_zero hc).1 (chk2_zero hc).2 rv av bv w hr hav hbv)
      have he : aboveE r a b = 0 := by rw [aboveE, if_pos h, hc]
      have hE : Hid (aboveB r a b = gt (rkF r) (tmOf a) (tmOf b) ∧ aboveE r a b = 0) := ⟨aboveB_of he, he⟩
      have hh := Lib.hid (And.intro h hc)
      clear hr hav hbv h hc he
      go_enter Try.func67, Try.ntmps67
      go_wp2_with fail
      refine h1.out.mono ?_
      rintro e w' ⟨rfl, rfl⟩
      rw [hh.out.1]
      go_wp2_with fail
      refine h2.out.mono ?_
      rintro e w' ⟨rfl, rfl⟩
      rw [hh.out.2]
      go_wp2_with fail
      refine h3.out.mono ?_
      rintro e w' ⟨rfl, hB⟩
      go_wp2_with fail
      go_ret2
      rw [hE.out.1, hE.out.2]
      exact ⟨rfl, hB⟩
    · have he : aboveE r a b = chk2 a b := by rw [aboveE, if_pos h]
      have hE : Hid (aboveB r a b = false ∧ aboveE r a b = chk2 a b) := ⟨by rw [aboveB, he, decide_eq_false hc]; rfl, he⟩
      have hh := Lib.hid h
      have h' : (chk2 a b != 0) = true := by simpa using hc
      clear hr hav hbv h hc he
      go_enter Try.func67, Try.ntmps67
      go_wp2_with fail
      refine h1.out.mono ?_
      rintro e w' ⟨rfl, rfl⟩
      rw [hh.out]
      go_wp2_with fail
      refine h2.out.mono ?_
      rintro e w' ⟨rfl, rfl⟩
      go_wp2_with fail
      go_ret2
      rw [hE.out.1, hE.out.2]
      exact ⟨rfl, .refl _ _⟩
  · have he : aboveE r a b = rankE r := by rw [aboveE, if_neg h]
    have hE : Hid (aboveB r a b = false ∧ aboveE r a b = rankE r) := ⟨by rw [aboveB, he, decide_eq_false h]; rfl, he⟩
    have h' : (rankE r != 0) = true := by simpa using h
    clear hr hav hbv h he
    go_enter Try.func67, Try.ntmps67
    go_wp2_with fail
    refine h1.out.mono ?_
    rintro e w' ⟨rfl, rfl⟩
    go_wp2_with fail
    go_ret2
    rw [hE.out.1, hE.out.2]
    exact ⟨rfl, .refl _ _⟩

def rkL : List Int := [0, 1, 2, 3, 4, 5]
theorem ob : (aboveB rkL fxgaT [2, 0] = true ∧ aboveE rkL fxgaT [2, 0] = 0) ∧ (aboveB rkL [4, 4, -1, -2, -3] [4, -1, 4, -2, -3] = true ∧ aboveE rkL [4, 4, -1, -2, -3] [4, -1, 4, -2, -3] = 0) ∧ (aboveB rkL [4, -1, -2] [4, -2, -1] = false ∧ aboveE rkL [4, -1, -2] [4, -2, -1] = 0) ∧
    (aboveB rkL [2, -1] [-2] = false ∧ aboveE rkL [2, -1] [-2] = 0) ∧ (aboveB [] fxgaT fxgaT = false ∧ aboveE [] fxgaT fxgaT = 1) ∧ rankE rkL = 0 ∧ rankE [0, 1, 2, 3, 4, 4] = 3 := by decide +kernel
theorem rank_calls (w : World) : Calls Try.prog 131 #[] w fun e w' => ∃ v, e = .returned v ∧ IsInts Any w' v rkL ∧ Below w.heap.size w w' := by
  go_enter Try.func131, Try.ntmps131
  go_wp2_with fail
  go_ret
  exact ⟨_, rfl, lit_any w rkL (by decide), below_alloc _ _⟩

set_option maxRecDepth 100000 in
set_option maxHeartbeats 2000000 in
theorem orderBegun_calls (w : World) : Calls Try.prog 69 #[] w fun e w' => e = .returned (.bool true) ∧ Below w.heap.size w w' := by
  go_enter Try.func69, Try.ntmps69
  go_wp2_with fail
  refine (rank_calls w).mono ?_
  rintro e w1 ⟨rv, rfl, hr, hB1⟩
  go_wp2_with fail
  refine (fxga_calls w1).mono ?_
  rintro e w2 ⟨f, rfl, hf, hB2⟩
  replace hr := hr.below hB2
  replace hB1 := ext_trans hB1 hB2
  clear hB2
  replace hf := hf.any
  go_wp2_with fail
  refine (Above_calls rkL fxgaT [2, 0] _ _ _ _ (hr.below (below_alloc w2 _)) (hf.below (below_alloc w2 _)) (lit_any w2 [2, 0] (by decide))).mono ?_
  rintro e w3 ⟨rfl, hB3⟩
  replace hB3 := ext_trans (below_alloc w2 _) hB3
  clear hr hf
  replace hB1 := ext_trans hB1 hB3
  clear hB3
  rw [ob.1.1, ob.1.2]
  go_wp2_with fail
  refine (rank_calls w3).mono ?_
  rintro e w4 ⟨rv, rfl, hr, hB4⟩
  replace hB1 := ext_trans hB1 hB4
  clear hB4
  go_wp2_with fail
  refine (Above_calls rkL [4, 4, -1, -2, -3] [4, -1, 4, -2, -3] _ _ _ _ (hr.below (ext_alloc (below_alloc w4 _) _)) ((lit_any w4 [4, 4, -1, -2, -3] (by decide)).below (below_alloc _ _)) (lit_next w4 _ [4, -1, 4, -2, -3] (by decide))).mono ?_
  rintro e w5 ⟨rfl, hB5⟩
  replace hB5 := ext_trans (ext_alloc (below_alloc w4 _) _) hB5
  clear hr
  replace hB1 := ext_trans hB1 hB5
  clear hB5
  rw [ob.2.1.1, ob.2.1.2]
  go_wp2_with fail
  refine (rank_calls w5).mono ?_
  rintro e w6 ⟨rv, rfl, hr, hB6⟩
  replace hB1 := ext_trans hB1 hB6
  clear hB6
  go_wp2_with fail
  refine (Above_calls rkL [4, -1, -2] [4, -2, -1] _ _ _ _ (hr.below (ext_alloc (below_alloc w6 _) _)) ((lit_any w6 [4, -1, -2] (by decide)).below (below_alloc _ _)) (lit_next w6 _ [4, -2, -1] (by decide))).mono ?_
  rintro e w7 ⟨rfl, hB7⟩
  replace hB7 := ext_trans (ext_alloc (below_alloc w6 _) _) hB7
  clear hr
  replace hB1 := ext_trans hB1 hB7
  clear hB7
  rw [ob.2.2.1.1, ob.2.2.1.2]
  go_wp2_with fail
  refine (rank_calls w7).mono ?_
  rintro e w8 ⟨rv, rfl, hr, hB8⟩
  replace hB1 := ext_trans hB1 hB8
  clear hB8
  go_wp2_with fail
  refine (Above_calls rkL [2, -1] [-2] _ _ _ _ (hr.below (ext_alloc (below_alloc w8 _) _)) ((lit_any w8 [2, -1] (by decide)).below (below_alloc _ _)) (lit_next w8 _ [-2] (by decide))).mono ?_
  rintro e w9 ⟨rfl, hB9⟩
  replace hB9 := ext_trans (ext_alloc (below_alloc w8 _) _) hB9
  clear hr
  replace hB1 := ext_trans hB1 hB9
  clear hB9
  rw [ob.2.2.2.1.1, ob.2.2.2.1.2]
  go_wp2_with fail
  refine (fxga_calls w9).mono ?_
  rintro e w10 ⟨f, rfl, hf, hB10⟩
  replace hB1 := ext_trans hB1 hB10
  clear hB10
  replace hf := hf.any
  go_wp2_with fail
  refine (fxga_calls w10).mono ?_
  rintro e w11 ⟨f2, rfl, hf2, hB11⟩
  replace hf := hf.below hB11
  replace hB1 := ext_trans hB1 hB11
  clear hB11
  replace hf2 := hf2.any
  go_wp2_with fail
  refine (Above_calls [] fxgaT fxgaT _ _ _ w11 (.nil _ _) hf hf2).mono ?_
  rintro e w12 ⟨rfl, hB12⟩
  clear hf hf2
  replace hB1 := ext_trans hB1 hB12
  clear hB12
  rw [ob.2.2.2.2.1.1, ob.2.2.2.2.1.2]
  go_wp2_with fail
  refine (rank_calls w12).mono ?_
  rintro e w13 ⟨rv5, rfl, hr, hB13⟩
  replace hB1 := ext_trans hB1 hB13
  clear hB13
  go_wp2_with fail
  refine (pure_below (RankCheck_calls rkL _ w13 hr)).mono ?_
  rintro e w14 ⟨rfl, hB14⟩
  clear hr
  replace hB1 := ext_trans hB1 hB14
  clear hB14
  rw [ob.2.2.2.2.2.1]
  go_wp2_with fail
  refine (pure_below (RankCheck_calls [0, 1, 2, 3, 4, 4] _ _ (lit_any w14 [0, 1, 2, 3, 4, 4] (by decide)))).mono ?_
  rintro e w15 ⟨rfl, hB15⟩
  replace hB15 := ext_trans (below_alloc w14 _) hB15
  replace hB1 := ext_trans hB1 hB15
  clear hB15
  rw [ob.2.2.2.2.2.2]
  go_wp2_with fail
  go_ret
  exact ⟨rfl, hB1⟩

end Go.Proofs.Ytepddehodmljeaa
