/- Walks: haspref.endOf, partOf, put; EndOf, PartOf, PutOf. -/
import Derived.Test.YtepddehodmljeaaR2
import Derived.Test.YtepddehodmljeaaT8
namespace Go.Proofs.Ytepddehodmljeaa
open Go.RowKit Go.Maps

/-- The first j signs, with the capacity that is left. -/
theorem ints_cut {w : World} {b o c i j : Nat} {t : List Int} (h : IsInts Any w (.slice (some ⟨b, o, none⟩) t.length c) t) (hij : i ≤ j) (hj : j ≤ t.length) : IsInts Any w (.slice (some ⟨b, o + i, none⟩) (j - i) (c - i)) ((t.drop i).take (j - i)) := by
  have hc := h
  obtain ⟨-, ⟨rfl, -⟩ | ⟨-, b', o', c', e, hcap, -⟩⟩ := hc
  · simp at hj
    subst hj
    obtain rfl : i = 0 := by omega
    exact ⟨by simp, .inl ⟨by simp, some ⟨b, o, none⟩, c, by simp, by simp⟩⟩
  cases e
  have h2 := ints_drop (k := i) (c2 := c - i) h (by omega) (by omega)
  rw [← List.length_drop] at h2
  exact ints_take h2 (by simp; omega)

theorem endOf_calls (t : List Int) (ht : chk t = 0) (v : Value) (k : Nat) (hk : k < t.length) (w : World) (hv : IsInts Any w v t) :
    Calls Try.prog 119 #[v, .int .i64 k] w fun e w' => e = .returned (.int .i64 (enT t k : Nat)) ∧ Below w.heap.size w w' := by
  obtain ⟨hx, hf⟩ := tm_chk ht
  have hl := len_of_chk ht
  obtain ⟨-, ⟨rfl, -⟩ | ⟨-, b, o, c, rfl, hcap, -, hbl, hc⟩⟩ := id hv
  · simp at hk
  have hd := ints_drop (k := k) (c2 := c - k) hv (by omega) (by omega)
  obtain ⟨r, hr1, hr2, hso⟩ : ∃ r, t.drop k = ((tmOf t).sub k).flat ++ r ∧ (enT t k = t.length - r.length ∧ r.length ≤ t.length) ∧ ((tmOf t).sub k).ok := by
    have hks : k < (tmOf t).size := by rw [← size_flat, hf]; exact hk
    obtain ⟨pre, r, h1, h2, -, h4, -⟩ := sub_split (tmOf t) k hks
    have e1 := (tm_at hx hks).2.1
    rw [hf] at h2 e1
    have e2 := congrArg List.length h2
    simp only [List.length_append, size_flat] at e2
    refine ⟨r, ?_, ⟨by omega, by omega⟩, h4 hx⟩
    have e3 : (pre ++ (((tmOf t).sub k).flat ++ r)).drop k = ((tmOf t).sub k).flat ++ r := List.drop_left' h1
    rw [← h2] at e3
    exact e3
  rw [hr1] at hd
  have hG := Lib.hid (grown_calls _ r hso Any _ w hd)
  have hE := Lib.hid hr2
  have h1 : (k : Int) < c := by omega
  have h2 : k < c := by omega
  have h3 : (k : Int) < t.length := by omega
  clear hv hc hd hr1 hso hr2 hx hf ht
  go_enter Try.func119, Try.ntmps119
  go_wp2_with fail
  refine hG.out.mono ?_
  rintro e w1 ⟨p, q, rfl, -, hq, hB⟩
  obtain ⟨qa, qc, rfl⟩ := hq.isSlice
  have hle := hE.out.2
  clear hq
  go_wp2_with fail
  go_ret
  exact ⟨ret_int (by rw [hE.out.1]; omega), hB⟩

theorem empty_own (w : World) : (w.alloc (.cells #[] 3)).ownsRow w.heap.size 3 1 (.slice (some ⟨w.heap.size, 0, none⟩) 0 0) ([] : List Int).length (([] : List Int).map (Value.int .i64)) := lit_own w w.heap.size [] 3 (Nat.le_refl _) (by simp)

set_option maxRecDepth 100000 in
theorem partOf_calls (t : List Int) (ht : chk t = 0) (v : Value) (k : Nat) (hk : k < t.length) (w : World) (hv : IsInts Any w v t) :
    Calls Try.prog 112 #[v, .int .i64 k] w fun e w' => ∃ x, e = .returned x ∧ IsInts (Fr w.heap.size) w' x (paT t k) ∧ Below w.heap.size w w' := by
  obtain ⟨i3, hi, hz, hsz, hby⟩ := info_parts Try.inf3
  have hp := part_at ht hk
  have hpl := paT_len ht hk
  have hl := len_of_chk ht
  have hE := Lib.hid (endOf_calls t ht v k hk (w.alloc (.cells #[] 3)) (hv.below (below_alloc _ _)))
  obtain ⟨-, ⟨rfl, -⟩ | ⟨-, b, o, c, rfl, hcap, -, hbl, hc⟩⟩ := id hv
  · simp at hk
  have hX := Lib.hid fun W (hb : Below w.heap.size w W) => ints_cut (i := k) (j := enT t k) (hv.below hb) (by omega) hp.2.2.1
  have h1 : (k : Int) ≤ enT t k := by omega
  have h2 : ((enT t k : Nat) : Int) ≤ c := by omega
  have h3 : enT t k ≤ c := by omega
  have h4 : k ≤ enT t k := by omega
  have h5 : (k : Int) < c := by omega
  have h6 : k < c := by omega
  have hO := Lib.hid (empty_own w)
  have hPl : Hid ((paT t k).length ≤ 30) := by rw [Hid, hpl]; omega
  have hfold : Hid ((t.drop k).take (enT t k - k) = paT t k) := rfl
  generalize enT t k = n at *
  clear hv hc hp hpl ht
  go_enter Try.func112, Try.ntmps112
  go_wp2_with fail
  refine hE.out.mono ?_
  rintro e w1 ⟨rfl, hB⟩
  have hB1 := Lib.hid (ext_trans (below_alloc w _) hB)
  have hO1 := Lib.hid (ownsRow_keep hO.out fun j hj => hB.block j (hO.out.lt j hj).2)
  have hx := hX.out _ hB1.out
  rw [hfold.out] at hx
  have hX1 := Lib.hid hx
  have hz1 := hB1.out.size
  clear hx hB hX hE hO
  go_wp2_with (at_builtin; refine app_ints _ _ 24 rfl rfl w.heap.size i3 Try.underlying24 hi hz hsz hby hO1.out hX1.out ?c1 ?c2 ?c3; rotate_left 2; intro v' w2 hown2 hb2 hg2 _; rw [List.nil_append] at hown2)
  case c1 => have := hPl.out; simp; omega
  case c2 => exact hz1
  go_ret
  exact ⟨_, rfl, ints_of_own hown2 (by have := hPl.out; omega), hB1.out.trans hb2⟩

set_option maxRecDepth 100000 in
set_option maxHeartbeats 1000000 in
theorem put_calls (t u : List Int) (ht : chk t = 0) (hul : u.length ≤ 1000) (v x : Value) (k : Nat) (hk : k < t.length) (w : World) (hv : IsInts Any w v t) (hx : IsInts Any w x u) :
    Calls Try.prog 125 #[v, .int .i64 k, x] w fun e w' => ∃ y, e = .returned y ∧ IsInts (Fr w.heap.size) w' y (puT t k u) ∧ Below w.heap.size w w' := by
  obtain ⟨i3, hi, hz, hsz, hby⟩ := info_parts Try.inf3
  have hp := part_at ht hk
  have hl := len_of_chk ht
  have hE := Lib.hid fun W (hb : Below w.heap.size w W) => endOf_calls t ht v k hk W (hv.below hb)
  obtain ⟨xa, xc, rfl⟩ := hx.isSlice
  obtain ⟨-, ⟨rfl, -⟩ | ⟨-, b, o, c, rfl, hcap, -, hbl, hc⟩⟩ := id hv
  · simp at hk
  have hA := Lib.hid (ints_take hv (k := k) (by omega))
  have hN : Hid (enT t k = c → IsInts Any w (.slice (some ⟨b, o, none⟩) 0 0) (t.drop (enT t k))) := fun h => by
    have h1 := hp.2.2.1
    have h2 : t.drop (enT t k) = [] := List.drop_of_length_le (by omega)
    rw [h2]; exact ⟨by simp, .inl ⟨rfl, _, 0, rfl, by simp⟩⟩
  have hD := Lib.hid (ints_drop hv (k := enT t k) (c2 := c - enT t k) (by omega) (by omega))
  have hX := Lib.hid hx
  have hfin : Hid (t.take k ++ (u ++ t.drop (enT t k)) = puT t k u) := rfl
  have hl1 : Hid ((t.take k).length ≤ 30 ∧ (t.drop (enT t k)).length ≤ 30) := by rw [Hid]; simp; omega
  have g2 : (k : Int) ≤ c := by omega
  have g3 : k ≤ c := by omega
  have g4 : ((enT t k : Nat) : Int) ≤ t.length := by omega
  have g5 : enT t k ≤ c := by omega
  have hO := Lib.hid (empty_own w)
  generalize hpu : puT t k u = z at *
  generalize t.drop (enT t k) = td at *
  generalize t.take k = tk at *
  generalize enT t k = n at *
  clear hp hv hx ht hc hpu
  go_enter Try.func125, Try.ntmps125
  have tok1 : True := trivial
  have tok2 : True := trivial
  go_wp2_with (first
    | (at_builtin; have _t := tok1; refine app_ints _ _ 24 rfl rfl w.heap.size i3 Try.underlying24 hi hz hsz hby hO.out (hA.out.below (below_alloc w _)) ?c1 ?c2 ?c3; rotate_left 2; intro v1 w1 hown1 hb1 hg1 _; clear tok1)
    | (at_builtin; have _t := tok2; refine app_ints _ _ 24 rfl rfl w.heap.size i3 Try.underlying24 hi hz hsz hby hown1 (hX.out.below ((below_alloc w _).trans hb1)) ?d1 ?d2 ?d3; rotate_left 2; intro v2 w2 hown2 hb2 hg2 _; clear tok2)
    | fail)
  case c1 => have := hl1.out.1; simp; omega
  case c2 => simp
  case d1 => have := hl1.out.1; simp; omega
  case d2 => have := hb1.size; simp at this; omega
  have hB2 := Lib.hid (((below_alloc w _).trans hb1).trans hb2)
  rw [List.nil_append] at hown2
  have hO2 := Lib.hid hown2
  clear hown1 hown2 hO hA hX hb1 hg1 hb2 hg2
  refine (hE.out w2 hB2.out).mono ?_
  rintro e w3 ⟨rfl, hB⟩
  have hB3 := Lib.hid (ext_trans hB2.out hB)
  have hO3 := Lib.hid (ownsRow_keep hO2.out fun j hj => hB.block j (hO2.out.lt j hj).2)
  have hz3 := hB3.out.size
  have hlen3 : Hid ((tk ++ u).length + td.length ≤ 1000000) := by have := hl1.out; rw [Hid, List.length_append]; omega
  clear hB hE hO2 hB2
  by_cases hnc : n = c
  · have hM := Lib.hid ((hN.out hnc).below hB3.out)
    clear hN hD
    subst hnc
    go_wp2_with (at_builtin; refine app_ints _ _ 24 rfl rfl w.heap.size i3 Try.underlying24 hi hz hsz hby hO3.out hM.out hlen3.out hz3 ?_; intro v4 w4 hown4 hb4 hg4 _)
    go_ret
    refine ⟨_, rfl, ?_, hB3.out.trans hb4⟩
    rw [← hfin.out, ← List.append_assoc]
    exact ints_of_own hown4 (by have := hlen3.out; rw [List.length_append]; omega)
  · have hM := Lib.hid (hD.out.below hB3.out)
    have g6 : n < c := by omega
    have g7 : (n : Int) < c := by omega
    clear hN hD hnc
    go_wp2_with (at_builtin; refine app_ints _ _ 24 rfl rfl w.heap.size i3 Try.underlying24 hi hz hsz hby hO3.out hM.out hlen3.out hz3 ?_; intro v4 w4 hown4 hb4 hg4 _)
    go_ret
    refine ⟨_, rfl, ?_, hB3.out.trans hb4⟩
    rw [← hfin.out, ← List.append_assoc]
    exact ints_of_own hown4 (by have := hlen3.out; rw [List.length_append]; omega)

end Go.Proofs.Ytepddehodmljeaa
