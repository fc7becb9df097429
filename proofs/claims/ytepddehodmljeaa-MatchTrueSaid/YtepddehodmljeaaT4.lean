/- Walks: term.Laid. -/
import Derived.Test.YtepddehodmljeaaT3
import Derived.StillTailTactics
namespace Go.Proofs.Ytepddehodmljeaa
open Go.RowKit Go.Maps

theorem ints_take {w : World} {b o c k : Nat} {t : List Int} (h : IsInts Any w (.slice (some ⟨b, o, none⟩) t.length c) t) (hk : k ≤ t.length) : IsInts Any w (.slice (some ⟨b, o, none⟩) k c) (t.take k) := by
  have hl : (t.take k).length = k := by simp; omega
  obtain ⟨h1, ⟨rfl, -⟩ | ⟨hne, b', o', c', e, hcap, hS, hlt, hc⟩⟩ := h
  · obtain rfl : k = 0 := by simpa using hk
    exact ⟨by simp, .inl ⟨by simp, _, c, rfl, by simp⟩⟩
  · cases e
    refine ⟨by omega, ?_⟩
    by_cases h0 : k = 0
    · subst h0; exact .inl ⟨by simp, _, c, rfl, by simp⟩
    · exact .inr ⟨fun h => by rw [h] at hl; simp at hl; omega, b, o, c, by rw [hl], by omega, hS, hlt, fun j hj => by rw [nth_take (by omega)]; exact hc j (by omega)⟩
theorem ints_drop {w : World} {b o c k c2 : Nat} {t : List Int} (h : IsInts Any w (.slice (some ⟨b, o, none⟩) t.length c) t) (hk : k ≤ t.length) (hc2 : t.length - k ≤ c2) : IsInts Any w (.slice (some ⟨b, o + k, none⟩) (t.length - k) c2) (t.drop k) := by
  have hl : (t.drop k).length = t.length - k := by simp
  obtain ⟨h1, ⟨rfl, -⟩ | ⟨hne, b', o', c', e, hcap, hS, hlt, hc⟩⟩ := h
  · obtain rfl : k = 0 := by simpa using hk
    exact ⟨by simp, .inl ⟨by simp, _, c2, rfl, by simp⟩⟩
  · cases e
    refine ⟨by omega, ?_⟩
    by_cases h0 : t.length - k = 0
    · exact .inl ⟨List.eq_nil_of_length_eq_zero (by omega), _, c2, by rw [h0], by simp⟩
    · exact .inr ⟨fun h => by rw [h] at hl; simp at hl; omega, b, o + k, c2, by rw [hl], by omega, hS, hlt, fun j hj => by rw [nth_drop, Nat.add_assoc]; exact hc (k + j) (by omega)⟩

theorem three_rows {w : World} {a b c : Value} {x y z : List Int} (ha : IsInts Any w a x) (hb : IsInts Any w b y) (hc : IsInts Any w c z) :
    IsTerms Any (w.alloc (.cells #[a, b, c] 24)) (.slice (some ⟨w.heap.size, 0, none⟩) 3 3) [x, y, z] := by
  refine ⟨by simp, .inr ⟨by simp, w.heap.size, 0, 3, rfl, by simp, trivial, by simp, [a, b, c], ?_, fun j u hj => ?_⟩⟩
  · exact ⟨[a], [b, c], rfl, rfl, ⟨_, rfl, ha.below (below_alloc _ _)⟩, [b], [c], rfl, rfl, ⟨_, rfl, hb.below (below_alloc _ _)⟩, [c], [], rfl, rfl, ⟨_, rfl, hc.below (below_alloc _ _)⟩, rfl⟩
  · rw [World.cell?_alloc_at _ _ _ _ rfl]
    simpa using hj

set_option maxRecDepth 100000 in
set_option maxHeartbeats 400000 in
theorem Laid_calls (t u : List Int) (v x : Value) (k : Nat) (w : World) (ht : chk t = 0) (hu : chk u = 0) (hk : k < t.length) (hv : IsInts Any w v t) (hx : IsInts Any w x u) :
    Calls Try.prog 124 #[v, .int .i64 k, x] w fun e w' => ∃ y, e = .returned y ∧ IsInts (Fr w.heap.size) w' y (puT t k u) ∧ Below w.heap.size w w' := by
  have hp := part_at ht hk
  have hS : Hid (Calls Try.prog 115 #[v, .int .i64 k] (w.drewN 1) fun e w' => e = .returned (.int .i64 (skp t k)) ∧ w.drewN 1 = w') := Skip_calls t (small_of_signs (signs_of_chk ht)) v _ (hv.below (below_drewN _ w 1)) t.length k (by omega)
  rw [hp.1] at hS
  obtain ⟨b, o, c, e, hcap⟩ : ∃ b o c, v = .slice (some ⟨b, o, none⟩) t.length c ∧ t.length ≤ c := by
    obtain ⟨-, ⟨rfl, -⟩ | ⟨-, b, o, c, e, hcap, -⟩⟩ := hv
    · simp at hk
    · exact ⟨b, o, c, e, hcap⟩
  subst e
  obtain ⟨xa, xc, rfl⟩ := hx.isSlice
  have hN : Hid (enT t k = c → IsInts Any w (.slice (some ⟨b, o, none⟩) 0 0) (t.drop (enT t k))) := fun h => by
    have h1 := hp.2.2.1
    have h2 : t.drop (enT t k) = [] := List.drop_of_length_le (by omega)
    rw [h2]; exact ⟨by simp, .inl ⟨rfl, _, 0, rfl, by simp⟩⟩
  have hA := Lib.hid (ints_take hv (k := k) (by omega))
  have hD := Lib.hid (ints_drop hv (k := enT t k) (c2 := c - enT t k) (by omega) (by omega))
  have hX := Lib.hid hx
  have hfl : Hid (fl [t.take k, u, t.drop (enT t k)] 3 = puT t k u) := by rw [Hid, fl, puT]; simp
  have hlt := len_of_chk ht
  have hlu := len_of_chk hu
  have hC : Hid (∀ a b c, IsInts Any (w.drewN 1) a (t.take k) → IsInts Any (w.drewN 1) b u → IsInts Any (w.drewN 1) c (t.drop (enT t k)) → Calls Try.prog 176 #[.slice (some ⟨(w.drewN 1).heap.size, 0, none⟩) 3 3] ((w.drewN 1).alloc (.cells #[a, b, c] 24)) fun e w' => ∃ x, e = .returned x ∧ IsInts (Fr ((w.drewN 1).alloc (.cells #[a, b, c] 24)).heap.size) w' x (puT t k u) ∧ Below ((w.drewN 1).alloc (.cells #[a, b, c] 24)).heap.size ((w.drewN 1).alloc (.cells #[a, b, c] 24)) w') := by
    intro a b c ha hb hc
    rw [← hfl.out]
    refine Concat_calls [t.take k, u, t.drop (enT t k)] _ _ (by simp) (by simp) (fun j hj => ?_) (fun j hj => ?_) (three_rows ha hb hc)
    · have : (fl [t.take k, u, t.drop (enT t k)] j).length ≤ t.length + u.length + t.length := by
        match j, hj with
        | 0, _ => simp [fl]
        | 1, _ => simp [fl]; omega
        | 2, _ => simp [fl]; omega
        | 3, _ => simp [fl]; omega
      omega
    · match j, hj with
      | 0, _ => simp [nthT]; omega
      | 1, _ => simp [nthT]; omega
      | 2, _ => simp [nthT]; omega
  have g1 : enT t k ≤ t.length := hp.2.2.1
  generalize hE : enT t k = n at *
  have g2 : (k : Int) ≤ c := by omega
  have g3 : k ≤ c := by omega
  have g4 : (n : Int) ≤ t.length := by omega
  have g5 : n ≤ c := by omega
  clear hp hv hx ht hu
  go_enter Try.func124, Try.ntmps124
  go_wp2_with fail
  go_still_tail 9, (by kernel_rfl)
  still_call (hS.out.mono fun e w' h => ⟨h.1, h.2.symm⟩)
  repeat still_step
  refine wpStill_nil ?_
  by_cases hnc : n = c
  · have hM := Lib.hid (hN.out hnc)
    clear hN
    subst hnc
    change wpList _ _ _ _ _ (w.drewN 1)
    go_wp2_with fail
    refine (hC.out _ _ _ (hA.out.below (below_drewN _ w 1)) (hX.out.below (below_drewN _ w 1)) (hM.out.below (below_drewN _ w 1))).mono ?_
    rintro e w2 ⟨y, rfl, hy, hB⟩
    go_wp2_with fail
    go_ret
    exact ⟨_, rfl, hy.mono (.weak fun b h => by
      have : w.heap.size + 1 ≤ b := by simpa [Fr] using h
      show w.heap.size ≤ b; omega), ext_trans (ext_alloc (a := w) (b := w.drewN 1) (below_drewN _ w 1) _) hB⟩
  · change wpList _ _ _ _ _ (w.drewN 1)
    go_wp2_with fail
    refine (hC.out _ _ _ (hA.out.below (below_drewN _ w 1)) (hX.out.below (below_drewN _ w 1)) (hD.out.below (below_drewN _ w 1))).mono ?_
    rintro e w2 ⟨y, rfl, hy, hB⟩
    go_wp2_with fail
    go_ret
    exact ⟨_, rfl, hy.mono (.weak fun b h => by
      have : w.heap.size + 1 ≤ b := by simpa [Fr] using h
      show w.heap.size ≤ b; omega), ext_trans (ext_alloc (a := w) (b := w.drewN 1) (below_drewN _ w 1) _) hB⟩

end Go.Proofs.Ytepddehodmljeaa
