/- Plain: what fitting gives, on lists of signs. No walk. -/
import Derived.Test.YtepddehodmljeaaM4
namespace Go.Proofs.Ytepddehodmljeaa

/-- A list of terms as a way of what variables become. -/
def sig (s : List (List Int)) : Int → Tm := fun v => tmOf (nthT s (-1 - v).toNat)
theorem sig_ok {s : List (List Int)} (hs : RightS s) : ∀ v, v < 0 → (sig s v).ok := by
  intro v hv
  unfold sig
  by_cases h : (-1 - v).toNat < s.length
  · exact (tm_chk (hs.2 _ (nthT_mem h))).1
  · have : nthT s (-1 - v).toNat = [] := by simp [nthT, List.getD, List.getElem?_eq_none (Nat.not_lt.1 h)]
    rw [this]
    show ar 0 = 0
    decide
theorem sig_flat {s : List (List Int)} (hs : RightS s) {v : Int} (h1 : -8 ≤ v) (h2 : v < 0) : (sig s v).flat = nthT s (-1 - v).toNat :=
  (tm_chk (hs.2 _ (nthT_mem (by rw [hs.1]; omega)))).2
theorem app_sig {s : List (List Int)} (hs : RightS s) {x : Tm} (hx : x.ok) (hv : ∀ v ∈ x.flat, -8 ≤ v) : app s x.flat = (x.inst (sig s)).flat :=
  app_flat x hx fun v hm h0 => (sig_flat hs (hv v hm) h0).symm
theorem app_tm {s : List (List Int)} (hs : RightS s) {t : List Int} (ht : chk t = 0) : app s t = ((tmOf t).inst (sig s)).flat ∧ ((tmOf t).inst (sig s)).ok := by
  obtain ⟨h1, h2⟩ := tm_chk ht
  refine ⟨?_, inst_ok (sig_ok hs) h1⟩
  have := app_sig hs h1 (fun v hv => (signs_of_chk ht v (h2 ▸ hv)).1)
  rwa [h2] at this

theorem chk_var {v : Int} (h1 : -8 ≤ v) (h2 : v < 0) : chk [v] = 0 := by
  refine chk_of (by simp) (fun x hx => by simp at hx; subst hx; omega) ?_
  show need [] (0 + ar v) = some []
  rw [ar_neg h2]; rfl
theorem outS_right {p t : List Int} (hp : chk p = 0) (ht : chk t = 0) {bl : Bl} (h : fitM (tmOf p) (tmOf t) [] = some bl) : RightS (outS bl) := by
  refine ⟨outS_len bl, fun x hx => ?_⟩
  obtain ⟨k, hk, rfl⟩ := List.mem_map.1 hx
  have hk' := List.mem_range.1 hk
  cases hl : lk bl (-1 - (k : Int)) with
  | none => exact chk_var (by omega) (by omega)
  | some y => exact (bound_of hp ht h hl).2.2.2.2

theorem fit_app {p t : List Int} (hp : chk p = 0) (ht : chk t = 0) {bl : Bl} (h : fitM (tmOf p) (tmOf t) [] = some bl) : app (outS bl) p = t := by
  have hr := outS_right hp ht h
  obtain ⟨h1, h2⟩ := tm_chk hp
  obtain ⟨h3, h4⟩ := tm_chk ht
  obtain ⟨-, -, h5, -⟩ := fitM_sound _ _ _ _ h1 h3 h
  rw [(app_tm hr hp).1, h5 (sig (outS bl)) (sig_ok hr), h4]
  intro v x hl
  obtain ⟨g1, g2, -, -, g5⟩ := bound_of hp ht h hl
  rw [sig_flat hr g1 g2, outS_nth bl g1 g2, hl]; rfl

theorem fit_made {p : List Int} (hp : chk p = 0) {s : List (List Int)} (hs : RightS s) : ∃ bl, fitM (tmOf p) (tmOf (app s p)) [] = some bl ∧ ∀ v ∈ p, v < 0 → nthT (outS bl) (-1 - v).toNat = nthT s (-1 - v).toNat := by
  obtain ⟨h1, h2⟩ := tm_chk hp
  obtain ⟨e1, e2⟩ := app_tm hs hp
  have e3 : tmOf (app s p) = (tmOf p).inst (sig s) := by rw [e1, tmOf_flat e2]
  rw [e3]
  obtain ⟨bl, hb, ha⟩ := fitM_complete (sig s) (tmOf p) _ [] h1 rfl (fun v x hx => by cases hx)
  refine ⟨bl, hb, fun v hv h0 => ?_⟩
  have h8 := (signs_of_chk hp v hv).1
  obtain ⟨-, h5, -, -⟩ := fitM_sound _ _ _ _ h1 e2 hb
  obtain ⟨x, hx⟩ := h5 v (by rw [h2]; exact hv) h0
  rw [outS_nth bl h8 h0, hx, ← sig_flat hs h8 h0, ha v x hx]; rfl
theorem fit_self {p : List Int} (hp : chk p = 0) : (fitL p p).isSome = true := by
  obtain ⟨h1, h2⟩ := tm_chk hp
  obtain ⟨bl, hb, -⟩ := fitM_complete .leaf (tmOf p) (tmOf p) [] h1 (inst_self _ h1) (fun v x hx => by cases hx)
  rw [fitL, hb]; rfl

/-! ### Of the answers -/
theorem fitB_true {p t : List Int} (h : chk2 p t = 0) (hb : fitB p t = true) : ∃ bl, fitM (tmOf p) (tmOf t) [] = some bl ∧ fitT p t = outS bl := by
  rw [fitB, if_pos h] at hb
  rw [fitT, if_pos h]
  unfold fitL at hb ⊢
  cases hm : fitM (tmOf p) (tmOf t) [] with
  | none => rw [hm] at hb; cases hb
  | some bl => exact ⟨bl, rfl, rfl⟩
theorem match_apply {p t : List Int} (h : chk2 p t = 0) (hb : fitB p t = true) : applyE (fitT p t) p = 0 ∧ applyT (fitT p t) p = t := by
  obtain ⟨hp, ht⟩ := chk2_zero h
  obtain ⟨bl, hm, hT⟩ := fitB_true h hb
  have ha := fit_app hp ht hm
  have hr := chkS_zero.2 (outS_right hp ht hm)
  rw [hT]
  have := apply_ok hr hp (by rw [ha]; exact len_of_chk ht)
  rw [ha] at this
  exact this
theorem match_self {p : List Int} (hp : chk p = 0) : chk2 p p = 0 ∧ fitB p p = true := by
  have : chk2 p p = 0 := by rw [chk2, if_pos hp, hp]
  exact ⟨this, by rw [fitB, if_pos this, fit_self hp]⟩
theorem match_made {p : List Int} {s : List (List Int)} (h : applyE s p = 0) : chk2 p (applyT s p) = 0 ∧ fitB p (applyT s p) = true ∧ (fitT p (applyT s p)).length = 8 ∧ s.length = 8 ∧
    ∀ v ∈ p, v < 0 → nthT (fitT p (applyT s p)) (-1 - v).toNat = nthT s (-1 - v).toNat := by
  obtain ⟨hs, hp, hl⟩ := applyE_zero h
  have e := (apply_ok hs hp hl).2
  rw [e]
  have hs' := chkS_zero.1 hs
  have hc := chk_app hs' hp hl
  have h2 : chk2 p (app s p) = 0 := by rw [chk2, if_pos hp, hc]
  obtain ⟨bl, hm, hv⟩ := fit_made hp hs'
  have h3 : fitL p (app s p) = some (outS bl) := by rw [fitL, hm]; rfl
  have h4 : fitT p (app s p) = outS bl := by rw [fitT, if_pos h2, h3]; rfl
  refine ⟨h2, by rw [fitB, if_pos h2, h3]; rfl, by rw [h4, outS_len], hs'.1, fun v hvp h0 => by rw [h4]; exact hv v hvp h0⟩

end Go.Proofs.Ytepddehodmljeaa
