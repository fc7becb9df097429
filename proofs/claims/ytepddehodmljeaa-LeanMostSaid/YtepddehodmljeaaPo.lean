/- Plain: which is above: ranks, and what holds of them. No program in sight. -/
import Derived.Test.YtepddehodmljeaaG2
import Derived.Test.YtepddehodmljeaaG5
namespace Go.Proofs.Ytepddehodmljeaa

def rkF (r : List Int) : Int → Int := fun s => nth r s.toNat
def rankE (r : List Int) : Int := if r.length = 6 then (if ((List.range 6).all fun n => r.contains (n : Int)) = true then 0 else 3) else 1
def aboveE (r a b : List Int) : Int := if rankE r = 0 then chk2 a b else rankE r
def aboveB (r a b : List Int) : Bool := decide (aboveE r a b = 0) && gt (rkF r) (tmOf a) (tmOf b)

theorem rankE_zero {r : List Int} (h : rankE r = 0) : r.length = 6 ∧ ∀ n : Nat, n < 6 → (n : Int) ∈ r := by
  unfold rankE at h
  split at h
  · rename_i h1
    split at h
    · rename_i h2
      refine ⟨h1, fun n hn => ?_⟩
      have := List.all_eq_true.1 h2 n (List.mem_range.2 hn)
      simpa using this
    · contradiction
  · contradiction

theorem six_nodup : ([0, 1, 2, 3, 4, 5] : List Int).Nodup := by decide
theorem six_mem {x : Int} (h : x ∈ ([0, 1, 2, 3, 4, 5] : List Int)) : 0 ≤ x ∧ x < 6 := by
  simp at h; omega

theorem rank_erase {r : List Int} (h : rankE r = 0) (j : Nat) (hj : j < r.length) (hc : ∀ x ∈ ([0, 1, 2, 3, 4, 5] : List Int), x ∈ r.eraseIdx j) : False := by
  have h1 := len_le_of_nodup _ _ six_nodup hc
  rw [List.length_eraseIdx, if_pos hj, (rankE_zero h).1] at h1
  simp at h1
theorem rank_has {r : List Int} (h : rankE r = 0) {x : Int} (hx : x ∈ ([0, 1, 2, 3, 4, 5] : List Int)) : x ∈ r := by
  have := six_mem hx
  have h2 := (rankE_zero h).2 x.toNat (by omega)
  rwa [Int.toNat_of_nonneg (by omega)] at h2
theorem mem_eraseIdx_ne {r : List Int} {i j : Nat} (hi : i < r.length) (hij : i ≠ j) : r[i] ∈ r.eraseIdx j := by
  rw [List.mem_eraseIdx_iff_getElem]
  exact ⟨i, hi, hij, rfl⟩
theorem rank_inj {r : List Int} (h : rankE r = 0) {s t : Int} (hs : 0 ≤ s) (hs6 : s < 6) (ht : 0 ≤ t) (ht6 : t < 6) (e : rkF r s = rkF r t) : s = t := by
  have hl := (rankE_zero h).1
  have hsl : s.toNat < r.length := by omega
  have htl : t.toNat < r.length := by omega
  unfold rkF at e
  rw [nth_eq hsl, nth_eq htl] at e
  by_cases hst : s.toNat = t.toNat
  · omega
  · refine (rank_erase h t.toNat htl fun x hx => ?_).elim
    obtain ⟨i, hi, rfl⟩ := List.getElem_of_mem (rank_has h hx)
    by_cases hit : i = t.toNat
    · subst hit
      rw [← e]
      exact mem_eraseIdx_ne hsl hst
    · exact mem_eraseIdx_ne hi hit
theorem rank_nonneg {r : List Int} (h : rankE r = 0) (s : Int) : 0 ≤ rkF r s := by
  unfold rkF
  by_cases hs : s.toNat < r.length
  · rw [nth_eq hs]
    by_cases hn : 0 ≤ r[s.toNat]
    · exact hn
    · refine (rank_erase h s.toNat hs fun x hx => ?_).elim
      obtain ⟨i, hi, rfl⟩ := List.getElem_of_mem (rank_has h hx)
      by_cases hit : i = s.toNat
      · subst hit
        exact absurd (six_mem hx).1 hn
      · exact mem_eraseIdx_ne hi hit
  · simp [nth, List.getD, Nat.not_lt.1 hs]

theorem aboveE_zero {r a b : List Int} (h : aboveE r a b = 0) : rankE r = 0 ∧ chk a = 0 ∧ chk b = 0 := by
  unfold aboveE at h
  split at h
  · rename_i h1; exact ⟨h1, chk2_zero h⟩
  · contradiction
theorem aboveE_of {r a b : List Int} (h : rankE r = 0) (ha : chk a = 0) (hb : chk b = 0) : aboveE r a b = 0 := by
  rw [aboveE, if_pos h, chk2, if_pos ha, hb]
theorem aboveB_of {r a b : List Int} (h : aboveE r a b = 0) : aboveB r a b = gt (rkF r) (tmOf a) (tmOf b) := by
  rw [aboveB, h]; rfl

/-- A term is above its parts, and above no other place of its own. -/
theorem order_part {r a : List Int} (h : rankE r = 0) (ha : chk a = 0) {k : Nat} (hk : k < a.length) : aboveE r a (paT a k) = 0 ∧ aboveB r a (paT a k) = decide (0 < k) := by
  have h1 := aboveE_of h ha (chk_paT ha hk)
  refine ⟨h1, ?_⟩
  rw [aboveB_of h1]
  obtain ⟨hx, hf⟩ := tm_chk ha
  have hk' : k < (tmOf a).size := by rw [← size_flat, hf]; exact hk
  have h2 := (tm_at hx hk').2.2.1
  rw [hf] at h2
  rw [h2, tmOf_flat (sub_ok hx hk')]
  by_cases h0 : 0 < k
  · rw [gt_sub _ _ h0 hk', decide_eq_true h0]
  · obtain rfl : k = 0 := by omega
    rw [sub_zero, gt_irrefl]; rfl

theorem order_true {r a b c : List Int} (h1 : aboveE r a b = 0) (h2 : aboveE r b a = 0) (h3 : aboveE r b c = 0) (h4 : aboveE r a c = 0) (h5 : aboveE r a a = 0) :
    aboveB r a a = false ∧ (aboveB r a b && aboveB r b a) = false ∧ ((!(aboveB r a b) || !(aboveB r b c)) || aboveB r a c) = true := by
  rw [aboveB_of h1, aboveB_of h2, aboveB_of h3, aboveB_of h4, aboveB_of h5]
  refine ⟨gt_irrefl _, ?_, ?_⟩
  · cases h : gt (rkF r) (tmOf a) (tmOf b)
    · rfl
    · rw [gt_asymm h]; rfl
  · cases h : gt (rkF r) (tmOf a) (tmOf b)
    · rfl
    · cases h' : gt (rkF r) (tmOf b) (tmOf c)
      · rfl
      · rw [gt_trans h h']; rfl

/-- Without variables one of two that differ is above. -/
theorem order_total {r a b : List Int} (h1 : aboveE r a b = 0) (ha : ∀ x ∈ a, 0 ≤ x) (hb : ∀ x ∈ b, 0 ≤ x) (hne : a ≠ b) : aboveB r a b = true ∨ aboveB r b a = true := by
  obtain ⟨hr, hca, hcb⟩ := aboveE_zero h1
  rw [aboveB_of h1, aboveB_of (aboveE_of hr hcb hca)]
  obtain ⟨hx, hf⟩ := tm_chk hca
  obtain ⟨hy, hg⟩ := tm_chk hcb
  refine gt_total_n (fun s t h1 h2 h3 h4 h5 => rank_inj hr h1 h2 h3 h4 h5) _ _ _ (Nat.le_refl _) hx hy (fun s hs => ?_) (fun s hs => ?_) fun e => hne ?_
  · rw [hf] at hs; exact ⟨ha s hs, (signs_of_chk hca s hs).2⟩
  · rw [hg] at hs; exact ⟨hb s hs, (signs_of_chk hcb s hs).2⟩
  · rw [← hf, ← hg, e]

/-- Who is above stays above, whatever variables become. -/
theorem order_inst {r a b : List Int} {s : List (List Int)} (h1 : aboveE r a b = 0) (h : aboveB r a b = true) (ha : applyE s a = 0) (hb : applyE s b = 0) :
    aboveE r (applyT s a) (applyT s b) = 0 ∧ aboveB r (applyT s a) (applyT s b) = true := by
  obtain ⟨hr, hca, hcb⟩ := aboveE_zero h1
  obtain ⟨hs, -, hla⟩ := applyE_zero ha
  obtain ⟨-, -, hlb⟩ := applyE_zero hb
  have hR := chkS_zero.1 hs
  rw [(apply_ok hs hca hla).2, (apply_ok hs hcb hlb).2]
  have h2 := aboveE_of hr (chk_app hR hca hla) (chk_app hR hcb hlb)
  refine ⟨h2, ?_⟩
  rw [aboveB_of h1] at h
  rw [aboveB_of h2]
  obtain ⟨e1, k1⟩ := app_tm hR hca
  obtain ⟨e2, k2⟩ := app_tm hR hcb
  rw [e1, e2, tmOf_flat k1, tmOf_flat k2]
  exact gt_inst _ h

/-- And wherever both stand. -/
theorem order_put {r a b t : List Int} (h1 : aboveE r a b = 0) (h : aboveB r a b = true) (ht : chk t = 0) {k : Nat} (hk : k < t.length) (ha : (puT t k a).length ≤ 30) (hb : (puT t k b).length ≤ 30) :
    aboveE r (puT t k a) (puT t k b) = 0 ∧ aboveB r (puT t k a) (puT t k b) = true := by
  obtain ⟨hr, hca, hcb⟩ := aboveE_zero h1
  have h2 := aboveE_of hr (chk_puT ht hca hk ha) (chk_puT ht hcb hk hb)
  refine ⟨h2, ?_⟩
  rw [aboveB_of h1] at h
  rw [aboveB_of h2]
  obtain ⟨hx, hf⟩ := tm_chk ht
  obtain ⟨hxa, hfa⟩ := tm_chk hca
  obtain ⟨hxb, hfb⟩ := tm_chk hcb
  have hk' : k < (tmOf t).size := by rw [← size_flat, hf]; exact hk
  have e1 := (tm_at hx hk').2.2.2 (tmOf a)
  have e2 := (tm_at hx hk').2.2.2 (tmOf b)
  rw [hf, hfa] at e1
  rw [hf, hfb] at e2
  rw [e1, e2, tmOf_flat (put_ok hx hxa hk'), tmOf_flat (put_ok hx hxb hk')]
  exact gt_put h _ _ hx hk'

end Go.Proofs.Ytepddehodmljeaa
