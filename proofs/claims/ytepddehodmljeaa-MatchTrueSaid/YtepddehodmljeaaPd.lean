/- Plain: what substitution does to right terms, and twice plain is plain. No walk. -/
import Derived.Test.YtepddehodmljeaaD8
namespace Go.Proofs.Ytepddehodmljeaa

theorem need_append : ∀ (a : List Int) (m : Nat) (r b : List Int), need a m = some r → need (a ++ b) m = some (r ++ b)
  | a, 0, r, b, h => by rw [need_zero] at h ⊢; cases h; rfl
  | [], m + 1, r, b, h => by cases h
  | x :: a, m + 1, r, b, h => by
    rw [need_cons_succ] at h
    rw [List.cons_append, need_cons_succ]
    exact need_append a _ r b h

theorem ar_neg {x : Int} (h : x < 0) : ar x = 0 := by unfold ar; rw [if_pos (by omega)]

/-- A list of variables' terms each of which is one term. -/
theorem need_app {s : List (List Int)} : ∀ (t : List Int) (m : Nat) (r : List Int), (∀ x ∈ t, x < 0 → need (sb s x) 1 = some []) → need t m = some r → need (app s t) m = some (app s r)
  | t, 0, r, _, h => by rw [need_zero] at h ⊢; cases h; rfl
  | [], m + 1, r, _, h => by cases h
  | x :: t, m + 1, r, hs, h => by
    rw [need_cons_succ] at h
    have ih := need_app t (m + ar x) r (fun y hy => hs y (List.mem_cons_of_mem _ hy)) h
    have hc : app s (x :: t) = sb s x ++ app s t := by simp [app]
    rw [hc]
    by_cases hx : x < 0
    · rw [ar_neg hx, Nat.add_zero] at ih
      have h1 := need_append _ 1 _ (app s t) (hs x (by simp) hx)
      rw [need_succ, h1]
      simpa using ih
    · have : sb s x = [x] := by unfold sb; rw [if_neg hx]
      rw [this, List.cons_append, List.nil_append, need_cons_succ]
      exact ih

theorem need_of_chk {t : List Int} (h : chk t = 0) : need t 1 = some [] := by
  unfold chk at h
  split at h
  · simp at h
  · split at h
    · simp at h
    · split at h
      · assumption
      · simp at h
theorem chk_of {t : List Int} (hl : t.length ≤ 30) (hs : Signs t) (hn : need t 1 = some []) : chk t = 0 := by
  unfold chk
  rw [if_neg (by omega), if_neg, if_pos hn]
  rw [Bool.not_eq_true, List.any_eq_false]
  intro x hx
  have := hs x hx
  simp; omega

theorem sb_right {s : List (List Int)} (hs : RightS s) {x : Int} (h1 : -8 ≤ x) (h2 : x < 0) : chk (sb s x) = 0 := by
  unfold sb
  rw [if_pos h2]
  exact hs.2 _ (nthT_mem (by rw [hs.1]; omega))

theorem chk_app {s : List (List Int)} (hs : RightS s) {t : List Int} (ht : chk t = 0) (hl : (app s t).length ≤ 30) : chk (app s t) = 0 := by
  have hS := signs_of_chk ht
  refine chk_of hl ?_ ?_
  · intro y hy
    obtain ⟨x, hx, hy⟩ := List.mem_flatMap.1 hy
    by_cases h : x < 0
    · exact signs_of_chk (sb_right hs (hS x hx).1 h) y hy
    · rw [sb, if_neg h] at hy
      simp at hy; subst hy
      exact hS _ hx
  · have := need_app (s := s) t 1 [] (fun x hx h => need_of_chk (sb_right hs (hS x hx).1 h)) (need_of_chk ht)
    simpa [app] using this

theorem app_nil (u : List (List Int)) : app u [] = [] := rfl
theorem sb_aft (s u : List (List Int)) (n : Int) : sb (aft s u) n = app u (sb s n) ∨ (0 ≤ n ∧ sb (aft s u) n = [n] ∧ sb s n = [n]) := by
  by_cases h : n < 0
  · left
    rw [sb, if_pos h, sb, if_pos h]
    unfold aft
    by_cases hk : (-1 - n).toNat < s.length
    · rw [nthT_eq (by simpa using hk), nthT_eq hk, List.getElem_map]
    · simp [nthT, List.getD, List.getElem?_eq_none (Nat.not_lt.1 hk), app_nil]
  · right
    exact ⟨by omega, by rw [sb, if_neg h], by rw [sb, if_neg h]⟩
/-- First by s, then by u, is by both. -/
theorem app_app (s u : List (List Int)) (t : List Int) : app u (app s t) = app (aft s u) t := by
  induction t with
  | nil => rfl
  | cons n t ih =>
    have h1 : app s (n :: t) = sb s n ++ app s t := by simp [app]
    have h2 : app (aft s u) (n :: t) = sb (aft s u) n ++ app (aft s u) t := by simp [app]
    have h3 : ∀ a b, app u (a ++ b) = app u a ++ app u b := fun a b => by simp [app]
    rw [h1, h2, h3, ih]
    congr 1
    rcases sb_aft s u n with h | ⟨h0, h, h'⟩
    · exact h.symm
    · rw [h, h']; simp [app, sb, Int.not_lt.2 h0]

theorem right_aft {s u : List (List Int)} (hs : RightS s) (hu : RightS u) (hb : bigL (aft s u) = false) : RightS (aft s u) := by
  refine ⟨by simp [aft, hs.1], fun x hx => ?_⟩
  have hl : x.length ≤ 30 := by
    have := List.any_eq_false.1 hb x hx
    simp at this; exact this
  obtain ⟨t, ht, rfl⟩ := List.mem_map.1 hx
  exact chk_app hu (hs.2 t ht) hl

theorem applyE_zero {s : List (List Int)} {t : List Int} (h : applyE s t = 0) : chkS s = 0 ∧ chk t = 0 ∧ (app s t).length ≤ 30 := by
  by_cases h1 : chkS s = 0
  · by_cases h2 : chk t = 0
    · refine ⟨h1, h2, ?_⟩
      by_cases h3 : 30 < (app s t).length
      · rw [(apply_big h1 h2 h3).1] at h; simp at h
      · omega
    · rw [(apply_t h1 h2).1] at h; exact absurd h h2
  · rw [(apply_s h1).1] at h; exact absurd h h1
theorem afterE_zero {s u : List (List Int)} (h : afterE s u = 0) : chkS s = 0 ∧ chkS u = 0 ∧ bigL (aft s u) = false := by
  by_cases h1 : chkS s = 0
  · by_cases h2 : chkS u = 0
    · refine ⟨h1, h2, ?_⟩
      cases h3 : bigL (aft s u)
      · rfl
      · rw [(after_big h1 h2 h3).1] at h; simp at h
    · rw [(after_u h1 h2).1] at h; exact absurd h h2
  · rw [(after_s h1).1] at h; exact absurd h h1

theorem sub_true {s u : List (List Int)} {t : List Int} (he : applyE s t = 0) (ha : afterE s u = 0) :
    applyE u (applyT s t) = applyE (afterT s u) t ∧ applyT u (applyT s t) = applyT (afterT s u) t := by
  obtain ⟨h1, h2, h3⟩ := applyE_zero he
  obtain ⟨-, h4, h5⟩ := afterE_zero ha
  have e1 := (apply_ok h1 h2 h3).2
  have e2 := (after_ok h1 h4 h5).2
  rw [e1, e2]
  have h6 := chk_app (chkS_zero.1 h1) h2 h3
  have h7 := chkS_zero.2 (right_aft (chkS_zero.1 h1) (chkS_zero.1 h4) h5)
  have hE : applyE u (app s t) = applyE (aft s u) t := by
    unfold applyE
    rw [h4, h6, h7, h2, app_app]
  exact ⟨hE, by unfold applyT; rw [hE, app_app]⟩

theorem none_sb : ∀ k : Nat, k < 8 → nthT noneS k = [-1 - (k : Int)] := by decide
theorem none_app {t : List Int} (h : Signs t) : app noneS t = t := by
  induction t with
  | nil => rfl
  | cons x t ih =>
    have h1 : app noneS (x :: t) = sb noneS x ++ app noneS t := by simp [app]
    have hx := h x (by simp)
    rw [h1, ih fun y hy => h y (List.mem_cons_of_mem _ hy), sb]
    split
    · rw [none_sb _ (by omega), show -1 - (((-1 - x).toNat : Nat) : Int) = x by omega]; rfl
    · rfl
theorem none_right : chkS noneS = 0 := k5
theorem none_apply {t : List Int} (h : chk t = 0) : applyE noneS t = 0 ∧ applyT noneS t = t := by
  have hs := none_app (signs_of_chk h)
  have := apply_ok none_right h (by rw [hs]; exact len_of_chk h)
  rw [hs] at this
  exact this

/-- The first k plain variables. -/
def plV : Nat → List Int
  | 0 => []
  | k + 1 => plV k ++ [-1 - (k : Int)]
theorem plV_len : ∀ k, (plV k).length = k
  | 0 => rfl
  | k + 1 => by rw [plV, List.length_append, plV_len k]; rfl
theorem plV_mem {k : Nat} {x : Int} : x ∈ plV k ↔ ∃ i : Nat, i < k ∧ x = -1 - (i : Int) := by
  induction k with
  | zero => simp [plV]
  | succ k ih =>
    rw [plV, List.mem_append, ih]
    constructor
    · rintro (⟨i, hi, rfl⟩ | h)
      · exact ⟨i, by omega, rfl⟩
      · simp at h; exact ⟨k, by omega, h⟩
    · rintro ⟨i, hi, rfl⟩
      by_cases h : i = k
      · subst h; right; simp
      · left; exact ⟨i, by omega, rfl⟩
theorem plV_idx {i : Nat} : ∀ {k : Nat}, i < k → (plV k).idxOf (-1 - (i : Int)) = i
  | k + 1, h => by
    rw [plV]
    by_cases e : i = k
    · subst e
      rw [idxOf_new (fun hm => by obtain ⟨j, hj, e⟩ := plV_mem.1 hm; omega), plV_len]
    · rw [List.idxOf_append, if_pos (plV_mem.2 ⟨i, by omega, rfl⟩), plV_idx (by omega)]

theorem nm_neg (seen : List Int) (n : Int) (h : n < 0) : nm seen n = -1 - ((adds seen n).idxOf n : Int) := by rw [nm, if_neg (by omega)]
/-- Plain again: nothing changes. -/
theorem smo_again : ∀ (t seen : List Int), smo (plV seen.length) (smo seen t) = smo seen t
  | [], _ => rfl
  | n :: t, seen => by
    rw [smo, smo]
    by_cases hn : 0 ≤ n
    · have h1 : nm seen n = n := by rw [nm, if_pos hn]
      have h2 : adds seen n = seen := by rw [adds, if_pos (.inl hn)]
      have h3 : adds (plV seen.length) n = plV seen.length := by rw [adds, if_pos (.inl hn)]
      rw [h1, h2, h3, nm, if_pos hn, smo_again t seen]
    · by_cases hm : n ∈ seen
      · have h2 : adds seen n = seen := by rw [adds, if_pos (.inr hm)]
        have hi : seen.idxOf n < seen.length := List.idxOf_lt_length_of_mem hm
        have h1 : nm seen n = -1 - (seen.idxOf n : Int) := by rw [nm_neg _ _ (by omega), h2]
        have h3 : adds (plV seen.length) (-1 - (seen.idxOf n : Int)) = plV seen.length := by rw [adds, if_pos (.inr (plV_mem.2 ⟨_, hi, rfl⟩))]
        rw [h1, h2, h3, nm_neg _ _ (by omega), h3, plV_idx hi, smo_again t seen]
      · have h2 : adds seen n = seen ++ [n] := by rw [adds, if_neg (by rintro (h | h); exact hn h; exact hm h)]
        have h1 : nm seen n = -1 - (seen.length : Int) := by rw [nm_neg _ _ (by omega), h2, idxOf_new hm]
        have h3 : adds (plV seen.length) (-1 - (seen.length : Int)) = plV (seen.length + 1) := by
          rw [adds, if_neg, plV]
          rintro (h | h)
          · omega
          · obtain ⟨j, hj, e⟩ := plV_mem.1 h; omega
        have h4 := smo_again t (seen ++ [n])
        rw [List.length_append] at h4
        rw [h1, h2, h3, nm_neg _ _ (by omega), h3, plV_idx (by omega)]
        exact congrArg _ h4

theorem len_le_of_nodup : ∀ (l m : List Int), l.Nodup → (∀ x ∈ l, x ∈ m) → l.length ≤ m.length
  | [], _, _, _ => by simp
  | a :: l, m, hn, hm => by
    rw [List.nodup_cons] at hn
    have h1 := hm a (by simp)
    have h2 := len_le_of_nodup l (m.erase a) hn.2 fun x hx => (List.mem_erase_of_ne (fun e => hn.1 (by subst e; exact hx))).2 (hm x (List.mem_cons_of_mem _ hx))
    rw [List.length_erase_of_mem h1] at h2
    have := List.length_pos_of_mem h1
    simp only [List.length_cons]; omega
theorem adds_low {seen : List Int} {n : Int} (h : ∀ x ∈ seen, -8 ≤ x ∧ x < 0) (hn : -8 ≤ n) : ∀ x ∈ adds seen n, -8 ≤ x ∧ x < 0 := by
  unfold adds
  split
  · exact h
  · rename_i h2
    intro x hx
    rcases List.mem_append.1 hx with hx | hx
    · exact h x hx
    · simp at hx; subst hx; omega
theorem low_len {seen : List Int} (h : ∀ x ∈ seen, -8 ≤ x ∧ x < 0) (hn : seen.Nodup) : seen.length ≤ 8 :=
  len_le_of_nodup seen [-1, -2, -3, -4, -5, -6, -7, -8] hn fun x hx => by have := h x hx; simp; omega

theorem smo_signs : ∀ (t seen : List Int), seen.Nodup → (∀ x ∈ seen, -8 ≤ x ∧ x < 0) → Signs t → Signs (smo seen t)
  | [], _, _, _, _ => fun x hx => by cases hx
  | n :: t, seen, hn, hl, hs => by
    have h1 := hs n (by simp)
    have hn' := adds_nodup hn n
    have hl' := adds_low hl h1.1
    intro x hx
    rw [smo] at hx
    rcases List.mem_cons.1 hx with rfl | hx
    · by_cases h : 0 ≤ n
      · rw [nm, if_pos h]; exact h1
      · rw [nm_neg _ _ (by omega)]
        have hm : n ∈ adds seen n := by
          unfold adds
          split
          · rename_i h2; exact h2.resolve_left h
          · simp
        have := List.idxOf_lt_length_of_mem hm
        have := low_len hl' hn'
        omega
    · exact smo_signs t _ hn' hl' (fun y hy => hs y (List.mem_cons_of_mem _ hy)) x hx
theorem ar_nm (seen : List Int) (n : Int) : ar (nm seen n) = ar n := by
  by_cases h : 0 ≤ n
  · rw [nm, if_pos h]
  · rw [nm_neg _ _ (by omega), ar_neg (by omega), ar_neg (by omega)]
theorem smo_need : ∀ (t seen : List Int) (m : Nat), need t m = some [] → need (smo seen t) m = some []
  | [], _, m, h => h
  | n :: t, seen, 0, h => by rw [need_zero] at h; cases h
  | n :: t, seen, m + 1, h => by
    rw [smo, need_cons_succ, ar_nm]
    rw [need_cons_succ] at h
    exact smo_need t _ _ h

theorem chk_smo {t : List Int} (h : chk t = 0) : chk (smo [] t) = 0 :=
  chk_of (by rw [smo_length]; exact len_of_chk h) (smo_signs t [] List.nodup_nil (fun x hx => by cases hx) (signs_of_chk h)) (smo_need t [] 1 (need_of_chk h))
theorem plain_again {t : List Int} (h : chk t = 0) : chk (plT t) = 0 ∧ plT (plT t) = plT t ∧ (plT t).length = t.length := by
  have h1 : plT t = smo [] t := by rw [plT, if_pos h]
  have h2 := chk_smo h
  refine ⟨by rw [h1]; exact h2, ?_, by rw [h1, smo_length]⟩
  rw [h1, plT, if_pos h2]
  exact smo_again t []

end Go.Proofs.Ytepddehodmljeaa
