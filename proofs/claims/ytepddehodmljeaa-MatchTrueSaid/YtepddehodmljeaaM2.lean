/- Walks: haspref.fitted, FitOf. -/
import Derived.Test.YtepddehodmljeaaM1
namespace Go.Proofs.Ytepddehodmljeaa
open Go.RowKit Go.Maps

/-- What is handed out, the first k of it. -/
def outK (bl : Bl) (k : Nat) : List (List Int) := (List.range 8).map fun j : Nat => if j < k then (lk bl (-1 - (j : Int))).getD [-1 - (j : Int)] else [-1 - (j : Int)]
theorem outK_len (bl : Bl) (k : Nat) : (outK bl k).length = 8 := by simp [outK]
theorem outK_zero (bl : Bl) : outK bl 0 = noneS := by simp only [outK, Nat.not_lt_zero, if_false]; decide
theorem outK_all (bl : Bl) : outK bl 8 = outS bl := by
  unfold outK outS
  refine List.map_congr_left fun j hj => ?_
  rw [if_pos (List.mem_range.1 hj)]
theorem outK_none {bl : Bl} {k : Nat} (h : lk bl (-1 - (k : Int)) = none) : outK bl (k + 1) = outK bl k := by
  unfold outK
  refine List.map_congr_left fun j _ => ?_
  by_cases h1 : j < k
  · rw [if_pos h1, if_pos (by omega)]
  · by_cases h2 : j = k
    · subst h2; rw [if_pos (by omega), if_neg h1, h]; rfl
    · rw [if_neg h1, if_neg (by omega)]
theorem outK_some {bl : Bl} {k : Nat} {x : List Int} (h : lk bl (-1 - (k : Int)) = some x) : (outK bl k).set k x = outK bl (k + 1) := by
  apply List.ext_getElem
  · rw [List.length_set, outK_len, outK_len]
  · intro j h1 h2
    rw [List.getElem_set]
    simp only [outK, List.getElem_map, List.getElem_range]
    by_cases hj : k = j
    · subst hj; rw [if_pos rfl, if_pos (by omega), h]; rfl
    · rw [if_neg hj]
      by_cases h3 : j < k
      · rw [if_pos h3, if_pos (by omega)]
      · rw [if_neg h3, if_neg (by omega)]

theorem ArrIs.made (w : World) : ArrIs w.heap.size w.heap.size (w.alloc (.cells #[.pointer none, .pointer none, .pointer none, .pointer none, .pointer none, .pointer none, .pointer none, .pointer none] 180)) [] :=
  ⟨List.replicate 8 (.pointer none), lit_own w w.heap.size (List.replicate 8 (.pointer none)) 180 (Nat.le_refl _) (by simp), fun v hv => .inl ⟨rfl, by rw [List.getElem?_replicate, if_pos hv]⟩⟩

theorem signs_flat {x : Tm} {t : List Int} (h : x.flat = t) (hs : Signs t) : ∀ s ∈ x.flat, -8 ≤ s := fun s hsx => (hs s (h ▸ hsx)).1

set_option maxRecDepth 100000 in
set_option maxHeartbeats 1000000 in
theorem fitted_calls (p t : List Int) (hp : chk p = 0) (ht : chk t = 0) (u v : Value) (w : World) (hu : IsInts Any w u p) (hv : IsInts Any w v t) :
    Calls Try.prog 110 #[u, v] w fun e w' => ∃ x, e = .returned (.tuple #[x, .bool (fitL p t).isSome]) ∧ IsTerms (Fr w.heap.size) w' x ((fitL p t).getD []) ∧ Below w.heap.size w w' := by
  obtain ⟨i24, hi, hz, hsz, hby⟩ := info_parts Try.inf24
  obtain ⟨hxo, hxf⟩ := tm_chk hp
  obtain ⟨hto, htf⟩ := tm_chk ht
  have hl1 := len_of_chk hp
  have hl2 := len_of_chk ht
  obtain ⟨ua, uc, rfl⟩ := hu.isSlice
  obtain ⟨va, vc, rfl⟩ := hv.isSlice
  have c1 := Lib.hid (treeOf_calls (tmOf p) hxo _ _ (by rw [hxf]; exact hu.below (below_alloc w (.cells #[.pointer none, .pointer none, .pointer none, .pointer none, .pointer none, .pointer none, .pointer none, .pointer none] 180))))
  have c2 := Lib.hid fun W (hb : Below w.heap.size w W) => treeOf_calls (tmOf t) hto (.slice va t.length vc) W (by rw [htf]; exact hv.below hb)
  have c3 := Lib.hid fun W u v (h1 : ArrIs w.heap.size w.heap.size W []) (h2 : IsTree (fun b => b ≠ w.heap.size) W (tmOf p) u) (h3 : IsTree (fun b => b ≠ w.heap.size) W (tmOf t) v) =>
    fit_calls w.heap.size w.heap.size (tmOf p) (tmOf t) [] u v W hxo hto (signs_flat hxf (signs_of_chk hp)) (by rw [htf]; omega) h1 h2 h3
  have hA0 := Lib.hid (ArrIs.made w)
  go_enter Try.func110, Try.ntmps110
  go_wp2_with fail
  refine c1.out.mono ?_
  rintro e w1 ⟨y1, rfl, hy1, hB1⟩
  go_wp2_with fail
  refine (c2.out w1 (ext_trans (below_alloc w _) hB1)).mono ?_
  rintro e w2 ⟨y2, rfl, hy2, hB2⟩
  go_wp2_with fail
  have hA2 := (hA0.out.keep hB1).keep hB2
  have hz1 : (w.alloc (.cells #[.pointer none, .pointer none, .pointer none, .pointer none, .pointer none, .pointer none, .pointer none, .pointer none] 180)).heap.size = w.heap.size + 1 := by simp
  have hz2 := hB1.size
  rw [hz1] at hz2 hy1
  have hBw := Lib.hid (ext_trans (ext_trans (below_alloc w _) hB1) hB2)
  have hcall := Lib.hid (c3.out w2 y1 y2 hA2 ((hy1.below hB2).mono (.weak fun b hb => by have : w.heap.size + 1 ≤ b := hb; omega)) (hy2.mono (.weak fun b hb => by have : w1.heap.size ≤ b := hb; omega)))
  clear c1 c2 c3 hA0 hy1 hy2 hz1 hB1 hB2 hA2 hu hv hxo hxf hto htf
  cases hf : fitM (tmOf p) (tmOf t) [] with
  | none =>
    have hr : Hid (fitL p t = none) := by rw [Hid, fitL, hf]; rfl
    rw [hf] at hcall
    clear hf
    refine hcall.out.mono ?_
    rintro e w3 ⟨rfl, -, hK⟩
    go_wp2_with fail
    go_ret2
    rw [hr.out]
    exact ⟨_, rfl, .nil _ _, hBw.out.trans ⟨hK.os, hK.tape, hK.output, hK.size, fun k hk => hK.block k (by have := hBw.out.size; omega) (by omega)⟩⟩
  | some bl =>
    have hr : Hid (fitL p t = some (outS bl)) := by rw [Hid, fitL, hf]; rfl
    rw [hf] at hcall
    clear hf
    refine hcall.out.mono ?_
    rintro e w3 ⟨rfl, hA3, hK⟩
    have hB3 : Below w.heap.size w w3 := hBw.out.trans ⟨hK.os, hK.tape, hK.output, hK.size, fun k hk => hK.block k (by have := hBw.out.size; omega) (by omega)⟩
    replace hA3 := hA3 bl rfl
    clear hcall hK hBw
    go_wp2_with fail
    refine (NoneOf_calls w3).mono ?_
    rintro e w4 ⟨o, rfl, hO, hB4⟩
    have hA4 := hA3.keep hB4
    have hz4 := hB4.size
    have hz3 := hA3.lt.2
    obtain ⟨g, c, cur, rfl, hg, hgg, hcc⟩ := hO.at (by simp [noneS])
    have hl8 : noneS.length = 8 := rfl
    rw [hl8] at hO ⊢
    have hgl := lt_of_block hgg
    have hst : Hid (OwnRow w3.heap.size 24 1 TermR (Fr w3.heap.size) w4 (.slice (some ⟨g, 0, none⟩) 8 c) (outK bl 0) ∧ Below w3.heap.size w3 w4) := ⟨by rw [outK_zero]; exact hO, hB4⟩
    have HA3 := Lib.hid hA3
    have HB3 := Lib.hid hB3
    clear hO hA4 hB4 hA3 hB3 hgg hcc cur hl8
    go_wp2_with fail
    go_loopw [8] (fun i wr => ∃ k : Nat, k ≤ 8 ∧ i = .int .i64 k ∧ Hid (OwnRow w3.heap.size 24 1 TermR (Fr w3.heap.size) wr (.slice (some ⟨g, 0, none⟩) 8 c) (outK bl k) ∧ Below w3.heap.size w3 wr)) (fun i _ => 8 - (intOf i).toNat)
    case atStart => exact ⟨0, by omega, rfl, hst.out⟩
    case round =>
      clear hst
      obtain ⟨k, hk, rfl, hR⟩ := hrel
      by_cases hlt' : k < 8
      · obtain ⟨hO, hB⟩ := hR.out
        have hA := HA3.out.keep hB
        have hik : (k : Int) < 8 := by omega
        rcases hA.at hlt' with ⟨h1, h2⟩ | ⟨y, q, h1, h2, h3, h4⟩
        · have hN := Lib.hid (outK_none h1)
          clear h1 hO hA hB
          go_wp2_with fail
          go_roundw
          case rel => exact ⟨k + 1, by omega, by go_num, by rw [Hid, hN.out]; exact hR.out⟩
          case measure => simp [intOf]; omega
        · have hN := Lib.hid (outK_some h1)
          obtain ⟨D, rfl⟩ := tree_ptr h4
          have hcall := Lib.hid (flat_calls y _ wr h2 h4.any)
          have hgl2 := (hO.block g rfl).2
          have hO1 := Lib.hid hO
          clear h1 h2 h4 hO hA hB
          go_wp2_with fail
          refine hcall.out.mono ?_
          rintro e w5 ⟨z, rfl, hzz, hB5⟩
          obtain ⟨za, zc, rfl⟩ := hzz.isSlice
          have hs : Hid (TermR (Both' (Fr w3.heap.size) fun b => b ≠ g) w5 [.slice za y.flat.length zc] y.flat) := ⟨_, rfl, hzz.mono (.weak fun b hb => by
            have h1 : wr.heap.size ≤ b := hb
            have h2 := hR.out.2.size
            have h3 := (hR.out.1.block g rfl).1
            exact ⟨by show w3.heap.size ≤ b; omega, by omega⟩)⟩
          have hB6 := Lib.hid hB5
          have hO2 := Lib.hid (hO1.out.below TermR.ok hB5)
          have hkk : Hid (k < (outK bl k).length) := by rw [Hid, outK_len]; exact hlt'
          clear hzz hB5 hcall hO1
          go_wp2_with ((with_reducible show wpList _ _ _ (Oper.mk none (Op.store _ _ _) _ _ _ _ :: _) _ _); refine store_rows TermR.ok _ _ 24 rfl rfl rfl i24 hi hsz w3.heap.size 24 (Fr w3.heap.size) g k 8 c _ rfl hO2.out hkk.out y.flat hs.out rfl ?_; intro w7 hown7 hg7 hz7)
          go_roundw
          case rel =>
            have hB5 := hB6.out
            have hsz5 := hB5.size
            refine ⟨k + 1, by omega, by go_num, by rw [← hN.out]; exact hown7, ?_⟩
            exact (hR.out.2.trans (hB5.mono hR.out.2.size)).trans (below_of_grown hg7 (by have := hR.out.2.size; omega) fun j hj => by cases hj; exact (hR.out.1.block g rfl).1)
          case measure => simp [intOf]; omega
      · have : k = 8 := by omega
        subst this
        go_wp2_with fail
        go_ret2
        obtain ⟨hO, hB⟩ := hR.out
        rw [hr.out]
        rw [outK_all] at hO
        exact ⟨_, rfl, (hO.terms (by simp [outS_len])).mono TermR.ok (.weak fun b hb => by have : w3.heap.size ≤ b := hb; show w.heap.size ≤ b; omega), ext_trans HB3.out hB⟩

end Go.Proofs.Ytepddehodmljeaa
