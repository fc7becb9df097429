/- Terms as trees; walks of cloning, laying, putting and of growing trees. -/
import Derived.Lib.SliceRun
import Derived.Lib.AppendZerosOnto
import Derived.StillTailTactics
import Derived.Test.YtepddehodmljeaaG1
namespace Go.Proofs.Ytepddehodmljeaa

theorem need_append : ∀ (a : List Int) (m : Nat) (r b : List Int), need a m = some r → need (a ++ b) m = some (r ++ b)
  | a, 0, r, b, h => by rw [need_zero] at h ⊢; cases h; rfl
  | [], m + 1, r, b, h => by cases h
  | x :: a, m + 1, r, b, h => by
    rw [need_cons_succ] at h
    rw [List.cons_append, need_cons_succ]
    exact need_append a _ r b h

theorem ar_neg {x : Int} (h : x < 0) : ar x = 0 := by unfold ar; rw [if_pos (by omega)]

/-- A list of variables' terms each of which is one term. -/
theorem need_app {s : List (List Int)} : ∀ (t : List Int) (m : Nat) (r : List Int), (∀ x ∈ t, x < 0 → need (sb s x) 1 = some []) → need t m = some r → need (app s t) m = some (app s r)
  | t, 0, r, _, h => by rw [need_zero] at h ⊢; cases h; rfl
  | [], m + 1, r, _, h => by cases h
  | x :: t, m + 1, r, hs, h => by
    rw [need_cons_succ] at h
    have ih := need_app t (m + ar x) r (fun y hy => hs y (List.mem_cons_of_mem _ hy)) h
    have hc : app s (x :: t) = sb s x ++ app s t := by simp [app]
    rw [hc]
    by_cases hx : x < 0
    · rw [ar_neg hx, Nat.add_zero] at ih
      have h1 := need_append _ 1 _ (app s t) (hs x (by simp) hx)
      rw [need_succ, h1]
      simpa using ih
    · have : sb s x = [x] := by unfold sb; rw [if_neg hx]
      rw [this, List.cons_append, List.nil_append, need_cons_succ]
      exact ih

theorem need_of_chk {t : List Int} (h : chk t = 0) : need t 1 = some [] := by
  unfold chk at h
  split at h
  · simp at h
  · split at h
    · simp at h
    · split at h
      · assumption
      · simp at h
theorem chk_of {t : List Int} (hl : t.length ≤ 30) (hs : Signs t) (hn : need t 1 = some []) : chk t = 0 := by
  unfold chk
  rw [if_neg (by omega), if_neg, if_pos hn]
  rw [Bool.not_eq_true, List.any_eq_false]
  intro x hx
  have := hs x hx
  simp; omega

theorem sb_right {s : List (List Int)} (hs : RightS s) {x : Int} (h1 : -8 ≤ x) (h2 : x < 0) : chk (sb s x) = 0 := by
  unfold sb
  rw [if_pos h2]
  exact hs.2 _ (nthT_mem (by rw [hs.1]; omega))

theorem chk_app {s : List (List Int)} (hs : RightS s) {t : List Int} (ht : chk t = 0) (hl : (app s t).length ≤ 30) : chk (app s t) = 0 := by
  have hS := signs_of_chk ht
  refine chk_of hl ?_ ?_
  · intro y hy
    obtain ⟨x, hx, hy⟩ := List.mem_flatMap.1 hy
    by_cases h : x < 0
    · exact signs_of_chk (sb_right hs (hS x hx).1 h) y hy
    · rw [sb, if_neg h] at hy
      simp at hy; subst hy
      exact hS _ hx
  · have := need_app (s := s) t 1 [] (fun x hx h => need_of_chk (sb_right hs (hS x hx).1 h)) (need_of_chk ht)
    simpa [app] using this

theorem app_nil (u : List (List Int)) : app u [] = [] := rfl
theorem sb_aft (s u : List (List Int)) (n : Int) : sb (aft s u) n = app u (sb s n) ∨ (0 ≤ n ∧ sb (aft s u) n = [n] ∧ sb s n = [n]) := by
  by_cases h : n < 0
  · left
    rw [sb, if_pos h, sb, if_pos h]
    unfold aft
    by_cases hk : (-1 - n).toNat < s.length
    · rw [nthT_eq (by simpa using hk), nthT_eq hk, List.getElem_map]
    · simp [nthT, List.getD, List.getElem?_eq_none (Nat.not_lt.1 hk), app_nil]
  · right
    exact ⟨by omega, by rw [sb, if_neg h], by rw [sb, if_neg h]⟩
/-- First by s, then by u, is by both. -/
theorem app_app (s u : List (List Int)) (t : List Int) : app u (app s t) = app (aft s u) t := by
  induction t with
  | nil => rfl
  | cons n t ih =>
    have h1 : app s (n :: t) = sb s n ++ app s t := by simp [app]
    have h2 : app (aft s u) (n :: t) = sb (aft s u) n ++ app (aft s u) t := by simp [app]
    have h3 : ∀ a b, app u (a ++ b) = app u a ++ app u b := fun a b => by simp [app]
    rw [h1, h2, h3, ih]
    congr 1
    rcases sb_aft s u n with h | ⟨h0, h, h'⟩
    · exact h.symm
    · rw [h, h']; simp [app, sb, Int.not_lt.2 h0]

theorem right_aft {s u : List (List Int)} (hs : RightS s) (hu : RightS u) (hb : bigL (aft s u) = false) : RightS (aft s u) := by
  refine ⟨by simp [aft, hs.1], fun x hx => ?_⟩
  have hl : x.length ≤ 30 := by
    have := List.any_eq_false.1 hb x hx
    simp at this; exact this
  obtain ⟨t, ht, rfl⟩ := List.mem_map.1 hx
  exact chk_app hu (hs.2 t ht) hl

theorem applyE_zero {s : List (List Int)} {t : List Int} (h : applyE s t = 0) : chkS s = 0 ∧ chk t = 0 ∧ (app s t).length ≤ 30 := by
  by_cases h1 : chkS s = 0
  · by_cases h2 : chk t = 0
    · refine ⟨h1, h2, ?_⟩
      by_cases h3 : 30 < (app s t).length
      · rw [(apply_big h1 h2 h3).1] at h; simp at h
      · omega
    · rw [(apply_t h1 h2).1] at h; exact absurd h h2
  · rw [(apply_s h1).1] at h; exact absurd h h1
theorem afterE_zero {s u : List (List Int)} (h : afterE s u = 0) : chkS s = 0 ∧ chkS u = 0 ∧ bigL (aft s u) = false := by
  by_cases h1 : chkS s = 0
  · by_cases h2 : chkS u = 0
    · refine ⟨h1, h2, ?_⟩
      cases h3 : bigL (aft s u)
      · rfl
      · rw [(after_big h1 h2 h3).1] at h; simp at h
    · rw [(after_u h1 h2).1] at h; exact absurd h h2
  · rw [(after_s h1).1] at h; exact absurd h h1

theorem sub_true {s u : List (List Int)} {t : List Int} (he : applyE s t = 0) (ha : afterE s u = 0) :
    applyE u (applyT s t) = applyE (afterT s u) t ∧ applyT u (applyT s t) = applyT (afterT s u) t := by
  obtain ⟨h1, h2, h3⟩ := applyE_zero he
  obtain ⟨-, h4, h5⟩ := afterE_zero ha
  have e1 := (apply_ok h1 h2 h3).2
  have e2 := (after_ok h1 h4 h5).2
  rw [e1, e2]
  have h6 := chk_app (chkS_zero.1 h1) h2 h3
  have h7 := chkS_zero.2 (right_aft (chkS_zero.1 h1) (chkS_zero.1 h4) h5)
  have hE : applyE u (app s t) = applyE (aft s u) t := by
    unfold applyE
    rw [h4, h6, h7, h2, app_app]
  exact ⟨hE, by unfold applyT; rw [hE, app_app]⟩

theorem none_sb : ∀ k : Nat, k < 8 → nthT noneS k = [-1 - (k : Int)] := by decide
theorem none_app {t : List Int} (h : Signs t) : app noneS t = t := by
  induction t with
  | nil => rfl
  | cons x t ih =>
    have h1 : app noneS (x :: t) = sb noneS x ++ app noneS t := by simp [app]
    have hx := h x (by simp)
    rw [h1, ih fun y hy => h y (List.mem_cons_of_mem _ hy), sb]
    split
    · rw [none_sb _ (by omega), show -1 - (((-1 - x).toNat : Nat) : Int) = x by omega]; rfl
    · rfl
theorem none_right : chkS noneS = 0 := k5
theorem none_apply {t : List Int} (h : chk t = 0) : applyE noneS t = 0 ∧ applyT noneS t = t := by
  have hs := none_app (signs_of_chk h)
  have := apply_ok none_right h (by rw [hs]; exact len_of_chk h)
  rw [hs] at this
  exact this

/-- The first k plain variables. -/
def plV : Nat → List Int
  | 0 => []
  | k + 1 => plV k ++ [-1 - (k : Int)]
theorem plV_len : ∀ k, (plV k).length = k
  | 0 => rfl
  | k + 1 => by rw [plV, List.length_append, plV_len k]; rfl
theorem plV_mem {k : Nat} {x : Int} : x ∈ plV k ↔ ∃ i : Nat, i < k ∧ x = -1 - (i : Int) := by
  induction k with
  | zero => simp [plV]
  | succ k ih =>
    rw [plV, List.mem_append, ih]
    constructor
    · rintro (⟨i, hi, rfl⟩ | h)
      · exact ⟨i, by omega, rfl⟩
      · simp at h; exact ⟨k, by omega, h⟩
    · rintro ⟨i, hi, rfl⟩
      by_cases h : i = k
      · subst h; right; simp
      · left; exact ⟨i, by omega, rfl⟩
theorem plV_idx {i : Nat} : ∀ {k : Nat}, i < k → (plV k).idxOf (-1 - (i : Int)) = i
  | k + 1, h => by
    rw [plV]
    by_cases e : i = k
    · subst e
      rw [idxOf_new (fun hm => by obtain ⟨j, hj, e⟩ := plV_mem.1 hm; omega), plV_len]
    · rw [List.idxOf_append, if_pos (plV_mem.2 ⟨i, by omega, rfl⟩), plV_idx (by omega)]

theorem nm_neg (seen : List Int) (n : Int) (h : n < 0) : nm seen n = -1 - ((adds seen n).idxOf n : Int) := by rw [nm, if_neg (by omega)]
/-- Plain again: nothing changes. -/
theorem smo_again : ∀ (t seen : List Int), smo (plV seen.length) (smo seen t) = smo seen t
  | [], _ => rfl
  | n :: t, seen => by
    rw [smo, smo]
    by_cases hn : 0 ≤ n
    · have h1 : nm seen n = n := by rw [nm, if_pos hn]
      have h2 : adds seen n = seen := by rw [adds, if_pos (.inl hn)]
      have h3 : adds (plV seen.length) n = plV seen.length := by rw [adds, if_pos (.inl hn)]
      rw [h1, h2, h3, nm, if_pos hn, smo_again t seen]
    · by_cases hm : n ∈ seen
      · have h2 : adds seen n = seen := by rw [adds, if_pos (.inr hm)]
        have hi : seen.idxOf n < seen.length := List.idxOf_lt_length_of_mem hm
        have h1 : nm seen n = -1 - (seen.idxOf n : Int) := by rw [nm_neg _ _ (by omega), h2]
        have h3 : adds (plV seen.length) (-1 - (seen.idxOf n : Int)) = plV seen.length := by rw [adds, if_pos (.inr (plV_mem.2 ⟨_, hi, rfl⟩))]
        rw [h1, h2, h3, nm_neg _ _ (by omega), h3, plV_idx hi, smo_again t seen]
      · have h2 : adds seen n = seen ++ [n] := by rw [adds, if_neg (by rintro (h | h); exact hn h; exact hm h)]
        have h1 : nm seen n = -1 - (seen.length : Int) := by rw [nm_neg _ _ (by omega), h2, idxOf_new hm]
        have h3 : adds (plV seen.length) (-1 - (seen.length : Int)) = plV (seen.length + 1) := by
          rw [adds, if_neg, plV]
          rintro (h | h)
          · omega
          · obtain ⟨j, hj, e⟩ := plV_mem.1 h; omega
        have h4 := smo_again t (seen ++ [n])
        rw [List.length_append] at h4
        rw [h1, h2, h3, nm_neg _ _ (by omega), h3, plV_idx (by omega)]
        exact congrArg _ h4

theorem len_le_of_nodup : ∀ (l m : List Int), l.Nodup → (∀ x ∈ l, x ∈ m) → l.length ≤ m.length
  | [], _, _, _ => by simp
  | a :: l, m, hn, hm => by
    rw [List.nodup_cons] at hn
    have h1 := hm a (by simp)
    have h2 := len_le_of_nodup l (m.erase a) hn.2 fun x hx => (List.mem_erase_of_ne (fun e => hn.1 (by subst e; exact hx))).2 (hm x (List.mem_cons_of_mem _ hx))
    rw [List.length_erase_of_mem h1] at h2
    have := List.length_pos_of_mem h1
    simp only [List.length_cons]; omega
theorem adds_low {seen : List Int} {n : Int} (h : ∀ x ∈ seen, -8 ≤ x ∧ x < 0) (hn : -8 ≤ n) : ∀ x ∈ adds seen n, -8 ≤ x ∧ x < 0 := by
  unfold adds
  split
  · exact h
  · rename_i h2
    intro x hx
    rcases List.mem_append.1 hx with hx | hx
    · exact h x hx
    · simp at hx; subst hx; omega
theorem low_len {seen : List Int} (h : ∀ x ∈ seen, -8 ≤ x ∧ x < 0) (hn : seen.Nodup) : seen.length ≤ 8 :=
  len_le_of_nodup seen [-1, -2, -3, -4, -5, -6, -7, -8] hn fun x hx => by have := h x hx; simp; omega

theorem smo_signs : ∀ (t seen : List Int), seen.Nodup → (∀ x ∈ seen, -8 ≤ x ∧ x < 0) → Signs t → Signs (smo seen t)
  | [], _, _, _, _ => fun x hx => by cases hx
  | n :: t, seen, hn, hl, hs => by
    have h1 := hs n (by simp)
    have hn' := adds_nodup hn n
    have hl' := adds_low hl h1.1
    intro x hx
    rw [smo] at hx
    rcases List.mem_cons.1 hx with rfl | hx
    · by_cases h : 0 ≤ n
      · rw [nm, if_pos h]; exact h1
      · rw [nm_neg _ _ (by omega)]
        have hm : n ∈ adds seen n := by
          unfold adds
          split
          · rename_i h2; exact h2.resolve_left h
          · simp
        have := List.idxOf_lt_length_of_mem hm
        have := low_len hl' hn'
        omega
    · exact smo_signs t _ hn' hl' (fun y hy => hs y (List.mem_cons_of_mem _ hy)) x hx
theorem ar_nm (seen : List Int) (n : Int) : ar (nm seen n) = ar n := by
  by_cases h : 0 ≤ n
  · rw [nm, if_pos h]
  · rw [nm_neg _ _ (by omega), ar_neg (by omega), ar_neg (by omega)]
theorem smo_need : ∀ (t seen : List Int) (m : Nat), need t m = some [] → need (smo seen t) m = some []
  | [], _, m, h => h
  | n :: t, seen, 0, h => by rw [need_zero] at h; cases h
  | n :: t, seen, m + 1, h => by
    rw [smo, need_cons_succ, ar_nm]
    rw [need_cons_succ] at h
    exact smo_need t _ _ h

theorem chk_smo {t : List Int} (h : chk t = 0) : chk (smo [] t) = 0 :=
  chk_of (by rw [smo_length]; exact len_of_chk h) (smo_signs t [] List.nodup_nil (fun x hx => by cases hx) (signs_of_chk h)) (smo_need t [] 1 (need_of_chk h))
theorem plain_again {t : List Int} (h : chk t = 0) : chk (plT t) = 0 ∧ plT (plT t) = plT t ∧ (plT t).length = t.length := by
  have h1 : plT t = smo [] t := by rw [plT, if_pos h]
  have h2 := chk_smo h
  refine ⟨by rw [h1]; exact h2, ?_, by rw [h1, smo_length]⟩
  rw [h1, plT, if_pos h2]
  exact smo_again t []

end Go.Proofs.Ytepddehodmljeaa

namespace Go.Proofs.Ytepddehodmljeaa

theorem need_some_at : ∀ (t : List Int) (m : Nat), need t m = some [] → ∀ k, k < t.length → ∃ r, need (t.drop k) 1 = some r
  | [], _, _, k, hk => by simp at hk
  | x :: t, 0, h, _, _ => by rw [need_zero] at h; cases h
  | x :: t, m + 1, h, 0, _ => by
    rw [need_succ] at h
    cases h1 : need (x :: t) 1 with
    | none => rw [h1] at h; cases h
    | some r => exact ⟨r, by rw [List.drop_zero, h1]⟩
  | x :: t, m + 1, h, k + 1, hk => by
    rw [need_cons_succ] at h
    exact need_some_at t _ h k (by simpa using hk)

theorem need_split : ∀ (l : List Int) (m : Nat) (r : List Int), need l m = some r → ∃ p, l = p ++ r ∧ need p m = some []
  | l, 0, r, h => by rw [need_zero] at h; cases h; exact ⟨[], rfl, rfl⟩
  | [], m + 1, r, h => by cases h
  | x :: l, m + 1, r, h => by
    rw [need_cons_succ] at h
    obtain ⟨p, rfl, hp⟩ := need_split l _ r h
    exact ⟨x :: p, rfl, by rw [need_cons_succ]; exact hp⟩

/-- Where the part that begins at k ends. -/
def enT (t : List Int) (k : Nat) : Nat := (skp t k).toNat
/-- The part that begins at k. -/
def paT (t : List Int) (k : Nat) : List Int := (t.drop k).take (enT t k - k)

theorem part_at {t : List Int} (h : chk t = 0) {k : Nat} (hk : k < t.length) :
    skp t k = (enT t k : Int) ∧ k < enT t k ∧ enT t k ≤ t.length ∧ need (paT t k) 1 = some [] ∧ t = t.take k ++ (paT t k ++ t.drop (enT t k)) := by
  obtain ⟨r, hr⟩ := need_some_at t 1 (need_of_chk h) k hk
  have hs : skp t k = (t.length : Int) - r.length := by
    unfold skp
    rw [if_pos ⟨by omega, by omega⟩, Int.toNat_natCast, hr]
  obtain ⟨p, hp, hpn⟩ := need_split _ _ _ hr
  have hl : (t.drop k).length = p.length + r.length := by rw [hp]; simp
  simp only [List.length_drop] at hl
  have hpl : 1 ≤ p.length := by
    cases p with
    | nil => rw [need_nil_succ] at hpn; cases hpn
    | cons => simp
  have he : enT t k = k + p.length := by unfold enT; rw [hs]; omega
  have hpa : paT t k = p := by
    unfold paT
    rw [he, hp, show k + p.length - k = p.length by omega, List.take_left]
  have hdr : t.drop (enT t k) = r := by
    rw [he, ← List.drop_drop, hp, List.drop_left]
  refine ⟨by rw [hs, he]; omega, by omega, by omega, by rw [hpa]; exact hpn, ?_⟩
  rw [hpa, hdr, ← hp, List.take_append_drop]

theorem paT_len {t : List Int} (h : chk t = 0) {k : Nat} (hk : k < t.length) : (paT t k).length = enT t k - k := by
  have := part_at h hk
  unfold paT
  rw [List.length_take, List.length_drop]; omega
theorem paT_signs {t : List Int} (h : Signs t) (k : Nat) : Signs (paT t k) := fun x hx => h x (List.drop_subset _ _ (List.take_subset _ _ hx))
theorem chk_paT {t : List Int} (h : chk t = 0) {k : Nat} (hk : k < t.length) : chk (paT t k) = 0 := by
  have h1 := part_at h hk
  have h2 := paT_len h hk
  exact chk_of (by have := len_of_chk h; omega) (paT_signs (signs_of_chk h) k) h1.2.2.2.1

/-- A part replaced. -/
def puT (t : List Int) (k : Nat) (u : List Int) : List Int := t.take k ++ (u ++ t.drop (enT t k))

theorem need_swap : ∀ (a : List Int) (m : Nat) (p q b : List Int), need p 1 = some [] → need q 1 = some [] → need (a ++ (p ++ b)) m = some [] → need (a ++ (q ++ b)) m = some []
  | [], 0, p, q, b, hp, _, h => by
    rw [List.nil_append, need_zero] at h
    cases p with
    | nil => cases hp
    | cons => cases h
  | [], m + 1, p, q, b, hp, hq, h => by
    rw [List.nil_append] at h ⊢
    rw [need_succ, need_append p 1 [] b hp] at h
    rw [need_succ, need_append q 1 [] b hq]
    exact h
  | x :: a, 0, p, q, b, _, _, h => by rw [need_zero] at h; cases h
  | x :: a, m + 1, p, q, b, hp, hq, h => by
    rw [List.cons_append, need_cons_succ] at h ⊢
    exact need_swap a _ p q b hp hq h

theorem puT_signs {t u : List Int} (ht : Signs t) (hu : Signs u) (k : Nat) : Signs (puT t k u) := fun x hx => by
  rcases List.mem_append.1 hx with h | h
  · exact ht x (List.take_subset _ _ h)
  · rcases List.mem_append.1 h with h | h
    · exact hu x h
    · exact ht x (List.drop_subset _ _ h)
theorem puT_need {t u : List Int} (ht : chk t = 0) (hu : chk u = 0) {k : Nat} (hk : k < t.length) : need (puT t k u) 1 = some [] := by
  have h := part_at ht hk
  refine need_swap (t.take k) 1 (paT t k) u _ h.2.2.2.1 (need_of_chk hu) ?_
  rw [← h.2.2.2.2]; exact need_of_chk ht
theorem chk_puT {t u : List Int} (ht : chk t = 0) (hu : chk u = 0) {k : Nat} (hk : k < t.length) (hl : (puT t k u).length ≤ 30) : chk (puT t k u) = 0 :=
  chk_of hl (puT_signs (signs_of_chk ht) (signs_of_chk hu) k) (puT_need ht hu hk)

/-- What was put there is there. -/
theorem enT_puT {t u : List Int} (hu : chk u = 0) {k : Nat} (hk : k < t.length) :
    enT (puT t k u) k = k + u.length ∧ paT (puT t k u) k = u := by
  have hd : (puT t k u).drop k = u ++ t.drop (enT t k) := by
    unfold puT
    rw [List.drop_append, List.drop_of_length_le (by simp; omega), List.nil_append, List.length_take, show k - min k t.length = 0 by omega, List.drop_zero]
  have hlen : (puT t k u).length = k + (u.length + (t.drop (enT t k)).length) := by
    unfold puT; rw [List.length_append, List.length_append, List.length_take]; omega
  have hu1 : 1 ≤ u.length := List.length_pos_iff.2 (ne_of_chk hu)
  have hs : skp (puT t k u) k = ((k + u.length : Nat) : Int) := by
    unfold skp
    rw [if_pos ⟨by omega, by omega⟩, Int.toNat_natCast, hd, need_append u 1 [] _ (need_of_chk hu)]
    simp only [List.nil_append]
    omega
  have he : enT (puT t k u) k = k + u.length := by unfold enT; rw [hs, Int.toNat_natCast]
  refine ⟨he, ?_⟩
  unfold paT
  rw [he, hd, show k + u.length - k = u.length by omega, List.take_left]

/-- Put back what stood there: the term it was. -/
theorem puT_back {t u : List Int} (ht : chk t = 0) (hu : chk u = 0) {k : Nat} (hk : k < t.length) : puT (puT t k u) k (paT t k) = t := by
  have h := part_at ht hk
  have hd : (puT t k u).drop (k + u.length) = t.drop (enT t k) := by
    unfold puT
    rw [← List.append_assoc, List.drop_left' (by rw [List.length_append, List.length_take]; omega)]
  have htk : (puT t k u).take k = t.take k := by
    unfold puT
    rw [List.take_left' (by rw [List.length_take]; omega)]
  rw [puT, (enT_puT hu hk).1, hd, htk]
  exact h.2.2.2.2.symm

end Go.Proofs.Ytepddehodmljeaa

namespace Go.Proofs.Ytepddehodmljeaa

/-- A term as a tree. -/
inductive Tm where
  | leaf (s : Int)
  | un (s : Int) (a : Tm)
  | bin (s : Int) (a b : Tm)
  deriving DecidableEq

def Tm.sg : Tm → Int
  | .leaf s => s
  | .un s _ => s
  | .bin s _ _ => s
def Tm.flat : Tm → List Int
  | .leaf s => [s]
  | .un s a => s :: a.flat
  | .bin s a b => s :: (a.flat ++ b.flat)
def Tm.ok : Tm → Prop
  | .leaf s => ar s = 0
  | .un s a => ar s = 1 ∧ a.ok
  | .bin s a b => ar s = 2 ∧ a.ok ∧ b.ok

theorem need_flat : ∀ (x : Tm) (r : List Int), x.ok → need (x.flat ++ r) 1 = some r
  | .leaf s, r, h => by
    show need r (0 + ar s) = _
    rw [show ar s = 0 from h]; exact need_zero r
  | .un s a, r, h => by
    show need (a.flat ++ r) (0 + ar s) = _
    rw [h.1]; exact need_flat a r h.2
  | .bin s a b, r, h => by
    show need (a.flat ++ b.flat ++ r) (0 + ar s) = _
    rw [h.1, List.append_assoc, need_succ, need_flat a _ h.2.1]
    exact need_flat b r h.2.2

theorem exists_tm : ∀ (n : Nat) (l r : List Int), l.length ≤ n → need l 1 = some r → ∃ x : Tm, x.ok ∧ l = x.flat ++ r
  | _, [], _, _, h => by cases h
  | 0, s :: l, _, hn, _ => by simp at hn
  | n + 1, s :: l, r, hn, h => by
    rw [need_cons_succ, Nat.zero_add] at h
    simp only [List.length_cons] at hn
    have h3 := ar_le s
    rcases (by omega : ar s = 0 ∨ ar s = 1 ∨ ar s = 2) with e | e | e
    · rw [e, need_zero] at h
      cases h
      exact ⟨.leaf s, e, rfl⟩
    · rw [e] at h
      obtain ⟨a, ha, rfl⟩ := exists_tm n l r (by omega) h
      exact ⟨.un s a, ⟨e, ha⟩, rfl⟩
    · rw [e, need_succ] at h
      cases h1 : need l 1 with
      | none => rw [h1] at h; cases h
      | some q =>
        rw [h1] at h
        obtain ⟨a, ha, rfl⟩ := exists_tm n l q (by omega) h1
        obtain ⟨b, hb, rfl⟩ := exists_tm n q r (by simp at hn; omega) h
        exact ⟨.bin s a b, ⟨e, ha, hb⟩, by simp [Tm.flat]⟩

theorem flat_ne (x : Tm) : x.flat ≠ [] := by cases x <;> simp [Tm.flat]

/-- Two right trees that begin one list are one. -/
theorem flat_inj : ∀ (x y : Tm) (r q : List Int), x.ok → y.ok → x.flat ++ r = y.flat ++ q → x = y ∧ r = q
  | x, y, r, q, hx, hy, h => by
    have h1 := need_flat x r hx
    rw [h, need_flat y q hy] at h1
    have hrq : r = q := by cases h1; rfl
    subst hrq
    refine ⟨?_, rfl⟩
    have h2 := List.append_cancel_right h
    clear h h1
    induction x generalizing y with
    | leaf s =>
      cases y with
      | leaf s' => simp [Tm.flat] at h2; rw [h2]
      | un s' a' => simp [Tm.flat] at h2; exact absurd h2.2.symm (by simp [flat_ne])
      | bin s' a' b' => simp [Tm.flat, flat_ne] at h2
    | un s a ih =>
      cases y with
      | leaf s' => simp [Tm.flat, flat_ne] at h2
      | un s' a' => simp [Tm.flat] at h2; rw [h2.1, ih a' hx.2 hy.2 h2.2]
      | bin s' a' b' => simp [Tm.flat] at h2; have e1 := hx.1; have e2 := hy.1; rw [h2.1] at e1; omega
    | bin s a b iha ihb =>
      cases y with
      | leaf s' => simp [Tm.flat, flat_ne] at h2
      | un s' a' => simp [Tm.flat] at h2; have e1 := hx.1; have e2 := hy.1; rw [h2.1] at e1; omega
      | bin s' a' b' =>
        simp only [Tm.flat, List.cons.injEq] at h2
        have h3 := need_flat a b.flat hx.2.1
        rw [h2.2, need_flat a' b'.flat hy.2.1] at h3
        have h4 : b.flat = b'.flat := (Option.some.inj h3).symm
        have h5 := h2.2
        rw [h4] at h5
        rw [h2.1, iha a' hx.2.1 hy.2.1 (List.append_cancel_right h5), ihb b' hx.2.2 hy.2.2 h4]

end Go.Proofs.Ytepddehodmljeaa

namespace Go.Proofs.Ytepddehodmljeaa

def Tm.parts : Tm → List Tm
  | .leaf _ => []
  | .un _ a => [a]
  | .bin _ a b => [a, b]
def Tm.size : Tm → Nat
  | .leaf _ => 1
  | .un _ a => a.size + 1
  | .bin _ a b => a.size + b.size + 1
theorem size_flat : ∀ x : Tm, x.flat.length = x.size
  | .leaf _ => rfl
  | .un _ a => by simp [Tm.flat, Tm.size, size_flat a]
  | .bin _ a b => by simp [Tm.flat, Tm.size, size_flat a, size_flat b]
theorem size_pos (x : Tm) : 0 < x.size := by cases x <;> simp [Tm.size]
theorem size_part {x p : Tm} (h : p ∈ x.parts) : p.size < x.size := by
  cases x with
  | leaf s => simp [Tm.parts] at h
  | un s a => simp [Tm.parts] at h; subst h; simp [Tm.size]
  | bin s a b => simp [Tm.parts] at h; rcases h with rfl | rfl <;> simp [Tm.size] <;> omega
theorem ok_part {x p : Tm} (hx : x.ok) (h : p ∈ x.parts) : p.ok := by
  cases x with
  | leaf s => simp [Tm.parts] at h
  | un s a => simp [Tm.parts] at h; subst h; exact hx.2
  | bin s a b => simp [Tm.parts] at h; rcases h with rfl | rfl; exact hx.2.1; exact hx.2.2

theorem flat_eq {x y : Tm} (hx : x.ok) (hy : y.ok) (h : x.flat = y.flat) : x = y := (flat_inj x y [] [] hx hy (by rw [h])).1

/-- A sign with parts is a symbol. -/
theorem ar_pos {s : Int} (h : 0 < ar s) : 2 ≤ s := by
  unfold ar at h
  split at h
  · omega
  · omega

/-- The part that begins at a place. -/
def Tm.sub : Tm → Nat → Tm
  | x, 0 => x
  | .leaf s, _ + 1 => .leaf s
  | .un _ a, k + 1 => a.sub k
  | .bin _ a b, k + 1 => if k < a.size then a.sub k else b.sub (k - a.size)
/-- Another one there. -/
def Tm.put : Tm → Nat → Tm → Tm
  | _, 0, u => u
  | .leaf s, _ + 1, _ => .leaf s
  | .un s a, k + 1, u => .un s (a.put k u)
  | .bin s a b, k + 1, u => if k < a.size then .bin s (a.put k u) b else .bin s a (b.put (k - a.size) u)

theorem sub_zero (x : Tm) : x.sub 0 = x := by cases x <;> rfl
theorem put_zero (x u : Tm) : x.put 0 u = u := by cases x <;> rfl

theorem sub_split : ∀ (x : Tm) (k : Nat), k < x.size → ∃ pre r, pre.length = k ∧ x.flat = pre ++ ((x.sub k).flat ++ r) ∧ (∀ u, (x.put k u).flat = pre ++ (u.flat ++ r)) ∧ (x.ok → (x.sub k).ok) ∧ (x.ok → ∀ u : Tm, u.ok → (x.put k u).ok)
  | x, 0, _ => ⟨[], [], rfl, by simp [sub_zero], fun u => by simp [put_zero], by rw [sub_zero]; exact id, fun _ u hu => by rw [put_zero]; exact hu⟩
  | .leaf s, k + 1, h => by simp [Tm.size] at h
  | .un s a, k + 1, h => by
    obtain ⟨pre, r, h1, h2, h3, h4, h5⟩ := sub_split a k (by simp [Tm.size] at h; omega)
    refine ⟨s :: pre, r, by simp [h1], ?_, fun u => ?_, fun h => h4 h.2, fun h u hu => ⟨h.1, h5 h.2 u hu⟩⟩
    · show s :: a.flat = _
      rw [h2]; rfl
    · show s :: (a.put k u).flat = _
      rw [h3]; rfl
  | .bin s a b, k + 1, h => by
    by_cases hk : k < a.size
    · obtain ⟨pre, r, h1, h2, h3, h4, h5⟩ := sub_split a k hk
      have e1 : (Tm.bin s a b).sub (k + 1) = a.sub k := by show (if k < a.size then _ else _) = _; rw [if_pos hk]
      have e2 : ∀ u, (Tm.bin s a b).put (k + 1) u = .bin s (a.put k u) b := fun u => by show (if k < a.size then _ else _) = _; rw [if_pos hk]
      refine ⟨s :: pre, r ++ b.flat, by simp [h1], ?_, fun u => ?_, fun h => by rw [e1]; exact h4 h.2.1, fun h u hu => by rw [e2]; exact ⟨h.1, h5 h.2.1 u hu, h.2.2⟩⟩
      · rw [e1]
        show s :: (a.flat ++ b.flat) = _
        rw [h2]; simp
      · rw [e2]
        show s :: ((a.put k u).flat ++ b.flat) = _
        rw [h3]; simp
    · have hs : k - a.size < b.size := by simp [Tm.size] at h; omega
      obtain ⟨pre, r, h1, h2, h3, h4, h5⟩ := sub_split b (k - a.size) hs
      have e1 : (Tm.bin s a b).sub (k + 1) = b.sub (k - a.size) := by show (if k < a.size then _ else _) = _; rw [if_neg hk]
      have e2 : ∀ u, (Tm.bin s a b).put (k + 1) u = .bin s a (b.put (k - a.size) u) := fun u => by show (if k < a.size then _ else _) = _; rw [if_neg hk]
      refine ⟨s :: (a.flat ++ pre), r, by simp [h1, size_flat]; omega, ?_, fun u => ?_, fun h => by rw [e1]; exact h4 h.2.2, fun h u hu => by rw [e2]; exact ⟨h.1, h.2.1, h5 h.2.2 u hu⟩⟩
      · rw [e1]
        show s :: (a.flat ++ b.flat) = _
        rw [h2]; simp
      · rw [e2]
        show s :: (a.flat ++ (b.put (k - a.size) u).flat) = _
        rw [h3]; simp

theorem tm_at {x : Tm} (hx : x.ok) {k : Nat} (hk : k < x.size) :
    skp x.flat k = ((k + (x.sub k).size : Nat) : Int) ∧ enT x.flat k = k + (x.sub k).size ∧ paT x.flat k = (x.sub k).flat ∧ (∀ u : Tm, puT x.flat k u.flat = (x.put k u).flat) := by
  obtain ⟨pre, r, h1, h2, h3, h4, h5⟩ := sub_split x k hk
  have hd : x.flat.drop k = (x.sub k).flat ++ r := by rw [h2, List.drop_left' h1]
  have hl : x.size = k + ((x.sub k).size + r.length) := by
    have := congrArg List.length h2
    simp only [List.length_append, size_flat] at this
    omega
  have hs : skp x.flat k = ((k + (x.sub k).size : Nat) : Int) := by
    unfold skp
    rw [if_pos ⟨by omega, by rw [size_flat]; omega⟩, Int.toNat_natCast, hd, need_flat _ _ (h4 hx)]
    simp only [size_flat]; omega
  have he : enT x.flat k = k + (x.sub k).size := by unfold enT; rw [hs, Int.toNat_natCast]
  refine ⟨hs, he, ?_, fun u => ?_⟩
  · unfold paT
    rw [he, hd, show k + (x.sub k).size - k = (x.sub k).flat.length by rw [size_flat]; omega, List.take_left]
  · have hd2 : x.flat.drop (k + (x.sub k).size) = r := by
      rw [← List.drop_drop, hd, ← size_flat, List.drop_left]
    have ht : x.flat.take k = pre := by rw [h2, List.take_left' h1]
    unfold puT
    rw [he, hd2, ht, h3]

theorem sub_size {x : Tm} {k : Nat} (hk : k < x.size) : k + (x.sub k).size ≤ x.size := by
  obtain ⟨pre, r, h1, h2, -⟩ := sub_split x k hk
  have := congrArg List.length h2
  simp only [List.length_append, size_flat] at this
  omega
theorem put_size {x : Tm} {k : Nat} (hk : k < x.size) (u : Tm) : (x.put k u).size + (x.sub k).size = x.size + u.size := by
  obtain ⟨pre, r, h1, h2, h3, -⟩ := sub_split x k hk
  have e1 := congrArg List.length h2
  have e2 := congrArg List.length (h3 u)
  simp only [List.length_append, size_flat] at e1 e2
  omega
theorem sub_ok {x : Tm} (hx : x.ok) {k : Nat} (hk : k < x.size) : (x.sub k).ok := by
  obtain ⟨_, _, _, _, _, h, _⟩ := sub_split x k hk; exact h hx
theorem put_ok {x u : Tm} (hx : x.ok) (hu : u.ok) {k : Nat} (hk : k < x.size) : (x.put k u).ok := by
  obtain ⟨_, _, _, _, _, _, h⟩ := sub_split x k hk; exact h hx u hu
/-- The sign that stands at a place is the first one of the part there. -/
theorem sub_sg {x : Tm} {k : Nat} (hk : k < x.size) : nth x.flat k = (x.sub k).sg := by
  obtain ⟨pre, r, h1, h2, -⟩ := sub_split x k hk
  rw [h2, nth_append_right (by omega), h1, Nat.sub_self]
  cases x.sub k <;> simp [Tm.flat, Tm.sg, nth]
theorem sg_flat (x : Tm) : ∃ r, x.flat = x.sg :: r := by cases x <;> exact ⟨_, rfl⟩
theorem put_sub_same {x u : Tm} : ∀ {k : Nat}, k < x.size → (x.put k u).sub k = u := by
  induction x with
  | leaf s => intro k hk; simp [Tm.size] at hk; subst hk; simp [put_zero, sub_zero]
  | un s a ih =>
    intro k hk
    cases k with
    | zero => simp [put_zero, sub_zero]
    | succ k => exact ih (by simp [Tm.size] at hk; omega)
  | bin s a b iha ihb =>
    intro k hk
    cases k with
    | zero => simp [put_zero, sub_zero]
    | succ k =>
      by_cases h : k < a.size
      · have e : (Tm.bin s a b).put (k + 1) u = .bin s (a.put k u) b := by show (if k < a.size then _ else _) = _; rw [if_pos h]
        rw [e]
        have h1 := put_size h u
        have h2 := sub_size h
        have h3 := size_pos u
        show (if k < (a.put k u).size then _ else _) = _
        rw [if_pos (by omega)]
        exact iha h
      · have e : (Tm.bin s a b).put (k + 1) u = .bin s a (b.put (k - a.size) u) := by show (if k < a.size then _ else _) = _; rw [if_neg h]
        rw [e]
        show (if k < a.size then _ else _) = _
        rw [if_neg h]
        exact ihb (by simp [Tm.size] at hk; omega)

/-- What variables become. -/
def Tm.inst (σ : Int → Tm) : Tm → Tm
  | .leaf s => if s < 0 then σ s else .leaf s
  | .un s a => .un s (a.inst σ)
  | .bin s a b => .bin s (a.inst σ) (b.inst σ)

theorem inst_ok {σ : Int → Tm} (hσ : ∀ v, v < 0 → (σ v).ok) : ∀ {x : Tm}, x.ok → (x.inst σ).ok
  | .leaf s, h => by
    show (if s < 0 then σ s else .leaf s).ok
    split
    · exact hσ s (by assumption)
    · exact h
  | .un s a, h => ⟨h.1, inst_ok hσ h.2⟩
  | .bin s a b, h => ⟨h.1, inst_ok hσ h.2.1, inst_ok hσ h.2.2⟩

theorem inst_congr {σ τ : Int → Tm} : ∀ {x : Tm}, (∀ v ∈ x.flat, v < 0 → σ v = τ v) → x.inst σ = x.inst τ
  | .leaf s, h => by
    show (if s < 0 then σ s else .leaf s) = (if s < 0 then τ s else .leaf s)
    split
    · exact h s (by simp [Tm.flat]) (by assumption)
    · rfl
  | .un s a, h => by
    show Tm.un s (a.inst σ) = Tm.un s (a.inst τ)
    rw [inst_congr fun v hv => h v (by simp [Tm.flat, hv])]
  | .bin s a b, h => by
    show Tm.bin s (a.inst σ) (b.inst σ) = Tm.bin s (a.inst τ) (b.inst τ)
    rw [inst_congr fun v hv => h v (by simp [Tm.flat, hv]), inst_congr (x := b) fun v hv => h v (by simp [Tm.flat, hv])]
theorem inst_inst {σ τ : Int → Tm} : ∀ (x : Tm), (x.inst σ).inst τ = x.inst fun v => (σ v).inst τ
  | .leaf s => by
    show (if s < 0 then σ s else .leaf s).inst τ = if s < 0 then (σ s).inst τ else .leaf s
    split
    · rfl
    · rename_i h
      show (if s < 0 then τ s else .leaf s) = _
      rw [if_neg h]
  | .un s a => by
    show Tm.un s _ = Tm.un s _
    rw [inst_inst a]
  | .bin s a b => by
    show Tm.bin s _ _ = Tm.bin s _ _
    rw [inst_inst a, inst_inst b]
theorem inst_self : ∀ (x : Tm), x.ok → x.inst .leaf = x
  | .leaf s, _ => by show (if s < 0 then Tm.leaf s else .leaf s) = _; split <;> rfl
  | .un s a, h => by show Tm.un s _ = _; rw [inst_self a h.2]
  | .bin s a b, h => by show Tm.bin s _ _ = _; rw [inst_self a h.2.1, inst_self b h.2.2]

/-- Signs of a term that become terms: on lists. -/
theorem app_flat {s : List (List Int)} {σ : Int → Tm} : ∀ (x : Tm), x.ok → (∀ v ∈ x.flat, v < 0 → nthT s (-1 - v).toNat = (σ v).flat) → app s x.flat = (x.inst σ).flat
  | .leaf n, _, h => by
    show app s [n] = (if n < 0 then σ n else .leaf n).flat
    have : app s [n] = sb s n := by simp [app]
    rw [this, sb]
    split
    · exact h n (by simp [Tm.flat]) (by assumption)
    · rfl
  | .un n a, hx, h => by
    show app s (n :: a.flat) = n :: (a.inst σ).flat
    have hn : ¬ n < 0 := by
      have := hx.1; unfold ar at this; intro h; rw [if_pos (by omega)] at this; omega
    have : app s (n :: a.flat) = sb s n ++ app s a.flat := by simp [app]
    rw [this, app_flat a hx.2 (fun v hv => h v (by simp [Tm.flat, hv])), sb, if_neg hn]
    rfl
  | .bin n a b, hx, h => by
    show app s (n :: (a.flat ++ b.flat)) = n :: ((a.inst σ).flat ++ (b.inst σ).flat)
    have hn : ¬ n < 0 := by
      have := hx.1; unfold ar at this; intro h; rw [if_pos (by omega)] at this; omega
    have : app s (n :: (a.flat ++ b.flat)) = sb s n ++ (app s a.flat ++ app s b.flat) := by simp [app]
    rw [this, app_flat a hx.2.1 (fun v hv => h v (by simp [Tm.flat, hv])), app_flat b hx.2.2 (fun v hv => h v (by simp [Tm.flat, hv])), sb, if_neg hn]
    rfl

/-- A right list of signs as a tree. -/
def prs : Nat → List Int → Tm × List Int
  | 0, l => (.leaf 0, l)
  | _ + 1, [] => (.leaf 0, [])
  | n + 1, s :: l =>
    if ar s = 0 then (.leaf s, l)
    else if ar s = 1 then (.un s (prs n l).1, (prs n l).2)
    else (.bin s (prs n l).1 (prs n (prs n l).2).1, (prs n (prs n l).2).2)
theorem prs_flat : ∀ (n : Nat) (x : Tm) (r : List Int), x.ok → x.size ≤ n → prs n (x.flat ++ r) = (x, r)
  | 0, x, _, _, h => by have := size_pos x; omega
  | n + 1, .leaf s, r, hx, _ => by
    have h0 : ar s = 0 := hx
    show (if ar s = 0 then _ else _) = _
    rw [if_pos h0]; rfl
  | n + 1, .un s a, r, hx, h => by
    show (if ar s = 0 then _ else if ar s = 1 then (Tm.un s (prs n (a.flat ++ r)).1, (prs n (a.flat ++ r)).2) else _) = _
    rw [if_neg (by rw [hx.1]; decide), if_pos hx.1, prs_flat n a r hx.2 (by simp [Tm.size] at h; omega)]
  | n + 1, .bin s a b, r, hx, h => by
    have e : (Tm.bin s a b).flat ++ r = s :: (a.flat ++ (b.flat ++ r)) := by simp [Tm.flat]
    rw [e]
    show (if ar s = 0 then _ else if ar s = 1 then _ else (Tm.bin s (prs n (a.flat ++ (b.flat ++ r))).1 (prs n (prs n (a.flat ++ (b.flat ++ r))).2).1, (prs n (prs n (a.flat ++ (b.flat ++ r))).2).2)) = _
    rw [if_neg (by rw [hx.1]; decide), if_neg (by rw [hx.1]; decide), prs_flat n a _ hx.2.1 (by simp [Tm.size] at h; omega)]
    show (Tm.bin s a (prs n (b.flat ++ r)).1, (prs n (b.flat ++ r)).2) = _
    rw [prs_flat n b _ hx.2.2 (by simp [Tm.size] at h; omega)]
def tmOf (t : List Int) : Tm := (prs t.length t).1
theorem tmOf_flat {x : Tm} (hx : x.ok) : tmOf x.flat = x := by
  have := prs_flat x.flat.length x [] hx (by rw [size_flat]; exact Nat.le_refl _)
  rw [List.append_nil] at this
  unfold tmOf; rw [this]
theorem tm_need {t : List Int} (h : need t 1 = some []) : (tmOf t).ok ∧ (tmOf t).flat = t := by
  obtain ⟨x, hx, e⟩ := exists_tm t.length t [] (Nat.le_refl _) h
  rw [List.append_nil] at e
  subst e
  rw [tmOf_flat hx]
  exact ⟨hx, rfl⟩
theorem need_tm {x : Tm} (hx : x.ok) : need x.flat 1 = some [] := by
  have := need_flat x [] hx
  rwa [List.append_nil] at this
theorem tm_chk {t : List Int} (h : chk t = 0) : (tmOf t).ok ∧ (tmOf t).flat = t := tm_need (need_of_chk h)

theorem sub_sub : ∀ (x : Tm) (k j : Nat), k < x.size → j < (x.sub k).size → x.sub (k + j) = (x.sub k).sub j
  | x, 0, j, _, _ => by rw [Nat.zero_add, sub_zero]
  | .leaf s, k + 1, j, hk, _ => by simp [Tm.size] at hk
  | .un s x, k + 1, j, hk, hj => by
    have e : k + 1 + j = (k + j) + 1 := by omega
    rw [e]
    exact sub_sub x k j (by simp [Tm.size] at hk; omega) hj
  | .bin s x y, k + 1, j, hk, hj => by
    have e : k + 1 + j = (k + j) + 1 := by omega
    rw [e]
    by_cases hkx : k < x.size
    · have e1 : (Tm.bin s x y).sub (k + 1) = x.sub k := by show (if k < x.size then _ else _) = _; rw [if_pos hkx]
      rw [e1] at hj ⊢
      have h1 := sub_size hkx
      show (if k + j < x.size then x.sub (k + j) else _) = _
      rw [if_pos (by omega), sub_sub x k j hkx hj]
    · have e1 : (Tm.bin s x y).sub (k + 1) = y.sub (k - x.size) := by show (if k < x.size then _ else _) = _; rw [if_neg hkx]
      rw [e1] at hj ⊢
      show (if k + j < x.size then _ else y.sub (k + j - x.size)) = _
      rw [if_neg (by omega), show k + j - x.size = (k - x.size) + j by omega, sub_sub y _ j (by simp [Tm.size] at hk; omega) hj]

end Go.Proofs.Ytepddehodmljeaa

namespace Go.Proofs.Ytepddehodmljeaa

def headGt (rk : Int → Int) (s t : Int) (lex : Bool) : Bool := if s = t then lex else decide (rk t < rk s)

def inner (rk : Int → Int) (s : Int) (part lex : Tm → Bool) : Tm → Bool
  | .leaf t => part (.leaf t) || (decide (0 ≤ s) && decide (0 ≤ t) && headGt rk s t (lex (.leaf t)))
  | .un t y => part (.un t y) || (decide (0 ≤ s) && decide (0 ≤ t) && inner rk s part lex y && headGt rk s t (lex (.un t y)))
  | .bin t y z => part (.bin t y z) || (decide (0 ≤ s) && decide (0 ≤ t) && (inner rk s part lex y && inner rk s part lex z) && headGt rk s t (lex (.bin t y z)))

def lexU (g : Tm → Bool) : Tm → Bool
  | .un _ y => g y
  | _ => false
def lexB (x : Tm) (g g' : Tm → Bool) : Tm → Bool
  | .bin _ y y' => g y || (decide (x = y) && g' y')
  | _ => false

/-- Is a term above another one? -/
def gt (rk : Int → Int) : Tm → Tm → Bool
  | .leaf s => inner rk s (fun _ => false) (fun _ => false)
  | .un s x => inner rk s (fun b => decide (x = b) || gt rk x b) (lexU (gt rk x))
  | .bin s x x' => inner rk s (fun b => (decide (x = b) || gt rk x b) || (decide (x' = b) || gt rk x' b)) (lexB x (gt rk x) (gt rk x'))

def lexT (rk : Int → Int) : Tm → Tm → Prop
  | .un _ x, .un _ y => gt rk x y = true
  | .bin _ x x', .bin _ y y' => gt rk x y = true ∨ (x = y ∧ gt rk x' y' = true)
  | _, _ => False

variable {rk : Int → Int}

theorem gt_iff (a b : Tm) : gt rk a b = true ↔ (∃ p ∈ a.parts, p = b ∨ gt rk p b = true) ∨
    (0 ≤ a.sg ∧ 0 ≤ b.sg ∧ (∀ q ∈ b.parts, gt rk a q = true) ∧ ((a.sg = b.sg ∧ lexT rk a b) ∨ (a.sg ≠ b.sg ∧ rk b.sg < rk a.sg))) := by
  have hh : ∀ (s t : Int) (l : Bool), headGt rk s t l = true ↔ (s = t ∧ l = true) ∨ (s ≠ t ∧ rk t < rk s) := by
    intro s t l
    unfold headGt
    by_cases h : s = t <;> simp [h]
  cases a <;> cases b <;> simp [gt, inner, Tm.parts, Tm.sg, lexU, lexB, lexT, hh, and_assoc]

theorem gt_part {a p : Tm} (h : p ∈ a.parts) : gt rk a p = true := (gt_iff a p).2 (.inl ⟨p, h, .inl rfl⟩)

theorem gt_trans_n : ∀ (n : Nat) (a b c : Tm), a.size + b.size + c.size ≤ n → gt rk a b = true → gt rk b c = true → gt rk a c = true := by
  intro n
  induction n with
  | zero => intro a b c h; have := size_pos a; omega
  | succ n ih =>
    intro a b c hn h1 h2
    have h1' := (gt_iff a b).1 h1
    have h2' := (gt_iff b c).1 h2
    rcases h1' with ⟨p, hp, h⟩ | ⟨ha, hb, hq, hh⟩
    · have hs := size_part hp
      refine (gt_iff a c).2 (.inl ⟨p, hp, .inr ?_⟩)
      rcases h with rfl | h
      · exact h2
      · exact ih p b c (by omega) h h2
    · rcases h2' with ⟨q, hqb, h⟩ | ⟨-, hc, hr, hh2⟩
      · have hs := size_part hqb
        have h3 := hq q hqb
        rcases h with rfl | h
        · exact h3
        · exact ih a q c (by omega) h3 h
      · refine (gt_iff a c).2 (.inr ⟨ha, hc, fun r hrc => ih a b r (by have := size_part hrc; omega) h1 (hr r hrc), ?_⟩)
        rcases hh with ⟨e1, l1⟩ | ⟨e1, l1⟩ <;> rcases hh2 with ⟨e2, l2⟩ | ⟨e2, l2⟩
        · refine .inl ⟨e1.trans e2, ?_⟩
          clear hq hr ha hb hc e1 e2 h1 h2
          cases a with
          | leaf => exact l1.elim
          | un s x =>
            cases b with
            | leaf => exact l1.elim
            | bin => exact l1.elim
            | un s' y =>
              cases c with
              | leaf => exact l2.elim
              | bin => exact l2.elim
              | un s'' z => exact ih x y z (by simp [Tm.size] at hn; omega) l1 l2
          | bin s x x' =>
            cases b with
            | leaf => exact l1.elim
            | un => exact l1.elim
            | bin s' y y' =>
              cases c with
              | leaf => exact l2.elim
              | un => exact l2.elim
              | bin s'' z z' =>
                simp only [Tm.size] at hn
                rcases l1 with l1 | ⟨rfl, l1⟩ <;> rcases l2 with l2 | ⟨rfl, l2⟩
                · exact .inl (ih x y z (by omega) l1 l2)
                · exact .inl l1
                · exact .inl l2
                · exact .inr ⟨rfl, ih x' y' z' (by omega) l1 l2⟩
        · exact .inr ⟨by rw [e1]; exact e2, by rw [e1]; exact l2⟩
        · exact .inr ⟨by rw [← e2]; exact e1, by rw [← e2]; exact l1⟩
        · exact .inr ⟨by intro e; rw [e] at l1; omega, by omega⟩

theorem gt_trans {a b c : Tm} (h1 : gt rk a b = true) (h2 : gt rk b c = true) : gt rk a c = true := gt_trans_n _ a b c (Nat.le_refl _) h1 h2

theorem gt_irrefl_n : ∀ (n : Nat) (a : Tm), a.size ≤ n → ¬ gt rk a a = true := by
  intro n
  induction n with
  | zero => intro a h; have := size_pos a; omega
  | succ n ih =>
    intro a hn h
    rcases (gt_iff a a).1 h with ⟨p, hp, rfl | h⟩ | ⟨-, -, -, ⟨-, h⟩ | ⟨h, -⟩⟩
    · have := size_part hp; omega
    · exact ih p (by have := size_part hp; omega) (gt_trans h (gt_part hp))
    · cases a with
      | leaf => exact h
      | un s x => exact ih x (by simp [Tm.size] at hn; omega) h
      | bin s x x' =>
        simp only [Tm.size] at hn
        rcases h with h | ⟨-, h⟩
        · exact ih x (by omega) h
        · exact ih x' (by omega) h
    · exact h rfl
theorem gt_irrefl (a : Tm) : gt rk a a = false := by
  have := gt_irrefl_n (rk := rk) a.size a (Nat.le_refl _)
  simpa using this
theorem gt_asymm {a b : Tm} (h : gt rk a b = true) : gt rk b a = false := by
  cases h2 : gt rk b a
  · rfl
  · have := gt_trans h h2; rw [gt_irrefl] at this; cases this
theorem gt_ne {a b : Tm} (h : gt rk a b = true) : a ≠ b := by rintro rfl; rw [gt_irrefl] at h; cases h

theorem ok_sg {x : Tm} (h : x.ok) : ar x.sg = x.parts.length := by
  cases x with
  | leaf => exact h
  | un => exact h.1
  | bin => exact h.1
/-- Of two terms without variables that differ, one is above. -/
theorem gt_total_n (hrk : ∀ s t, 0 ≤ s → s < 6 → 0 ≤ t → t < 6 → rk s = rk t → s = t) : ∀ (n : Nat) (a b : Tm), a.size + b.size ≤ n → a.ok → b.ok → (∀ s ∈ a.flat, 0 ≤ s ∧ s < 6) → (∀ s ∈ b.flat, 0 ≤ s ∧ s < 6) → a ≠ b → gt rk a b = true ∨ gt rk b a = true := by
  intro n
  induction n with
  | zero => intro a b h; have := size_pos a; omega
  | succ n ih =>
    intro a b hn ha hb hsa hsb hne
    have hfl : ∀ {x p : Tm}, p ∈ x.parts → ∀ s ∈ p.flat, s ∈ x.flat := by
      intro x p hp s hs
      cases x with
      | leaf => simp [Tm.parts] at hp
      | un s a => simp [Tm.parts] at hp; subst hp; simp [Tm.flat, hs]
      | bin s a b => simp [Tm.parts] at hp; rcases hp with rfl | rfl <;> simp [Tm.flat, hs]
    have hsg : ∀ x : Tm, x.sg ∈ x.flat := fun x => by cases x <;> simp [Tm.sg, Tm.flat]
    by_cases h1 : ∃ p ∈ a.parts, p = b ∨ gt rk p b = true
    · exact .inl ((gt_iff a b).2 (.inl h1))
    by_cases h2 : ∃ p ∈ b.parts, p = a ∨ gt rk p a = true
    · exact .inr ((gt_iff b a).2 (.inl h2))
    have k1 : ∀ p ∈ a.parts, gt rk b p = true := by
      intro p hp
      have e : p ≠ b := fun e => h1 ⟨p, hp, .inl e⟩
      rcases ih p b (by have := size_part hp; omega) (ok_part ha hp) hb (fun s hs => hsa s (hfl hp s hs)) hsb e with h | h
      · exact absurd ⟨p, hp, .inr h⟩ h1
      · exact h
    have k2 : ∀ p ∈ b.parts, gt rk a p = true := by
      intro p hp
      have e : a ≠ p := fun e => h2 ⟨p, hp, .inl e.symm⟩
      rcases ih a p (by have := size_part hp; omega) ha (ok_part hb hp) hsa (fun s hs => hsb s (hfl hp s hs)) e with h | h
      · exact h
      · exact absurd ⟨p, hp, .inr h⟩ h2
    have s1 := hsa _ (hsg a)
    have s2 := hsb _ (hsg b)
    by_cases hs : a.sg = b.sg
    · have hlex : lexT rk a b ∨ lexT rk b a := by
        have e1 := ok_sg ha
        have e2 := ok_sg hb
        rw [hs, e2] at e1
        clear k1 k2 h1 h2
        cases a with
        | leaf s =>
          cases b with
          | leaf s' => exact absurd (congrArg Tm.leaf hs) hne
          | un => simp [Tm.parts] at e1
          | bin => simp [Tm.parts] at e1
        | un s x =>
          cases b with
          | leaf s' => simp [Tm.parts] at e1
          | bin => simp [Tm.parts] at e1
          | un s' y =>
            have hs' : s = s' := hs
            subst hs'
            have hxy : x ≠ y := fun e => hne (by rw [e])
            simp only [Tm.size] at hn
            exact ih x y (by omega) ha.2 hb.2 (fun s hs => hsa s (by simp [Tm.flat, hs])) (fun s hs => hsb s (by simp [Tm.flat, hs])) hxy
        | bin s x x' =>
          cases b with
          | leaf s' => simp [Tm.parts] at e1
          | un => simp [Tm.parts] at e1
          | bin s' y y' =>
            have hs' : s = s' := hs
            subst hs'
            simp only [Tm.size] at hn
            by_cases hxy : x = y
            · subst hxy
              have hxy' : x' ≠ y' := fun e => hne (by rw [e])
              rcases ih x' y' (by omega) ha.2.2 hb.2.2 (fun s hs => hsa s (by simp [Tm.flat, hs])) (fun s hs => hsb s (by simp [Tm.flat, hs])) hxy' with h | h
              · exact .inl (.inr ⟨rfl, h⟩)
              · exact .inr (.inr ⟨rfl, h⟩)
            · rcases ih x y (by omega) ha.2.1 hb.2.1 (fun s hs => hsa s (by simp [Tm.flat, hs])) (fun s hs => hsb s (by simp [Tm.flat, hs])) hxy with h | h
              · exact .inl (.inl h)
              · exact .inr (.inl h)
      rcases hlex with h | h
      · exact .inl ((gt_iff a b).2 (.inr ⟨s1.1, s2.1, k2, .inl ⟨hs, h⟩⟩))
      · exact .inr ((gt_iff b a).2 (.inr ⟨s2.1, s1.1, k1, .inl ⟨hs.symm, h⟩⟩))
    · have hr : rk a.sg ≠ rk b.sg := fun e => hs (hrk _ _ s1.1 s1.2 s2.1 s2.2 e)
      rcases Int.lt_or_gt_of_ne hr with h | h
      · exact .inr ((gt_iff b a).2 (.inr ⟨s2.1, s1.1, k1, .inr ⟨fun e => hs e.symm, h⟩⟩))
      · exact .inl ((gt_iff a b).2 (.inr ⟨s1.1, s2.1, k2, .inr ⟨hs, h⟩⟩))

theorem parts_inst (σ : Int → Tm) {x : Tm} (h : 0 ≤ x.sg) : (x.inst σ).parts = x.parts.map (Tm.inst σ) ∧ (x.inst σ).sg = x.sg := by
  cases x with
  | leaf s =>
    have : ¬ s < 0 := Int.not_lt.2 h
    have e : (Tm.leaf s).inst σ = .leaf s := by show (if s < 0 then _ else _) = _; rw [if_neg this]
    rw [e]; exact ⟨rfl, rfl⟩
  | un s a => exact ⟨rfl, rfl⟩
  | bin s a b => exact ⟨rfl, rfl⟩
theorem parts_inst_mem (σ : Int → Tm) {x p : Tm} (h : p ∈ x.parts) : p.inst σ ∈ (x.inst σ).parts := by
  cases x with
  | leaf s => simp [Tm.parts] at h
  | un s a => simp [Tm.parts] at h; subst h; simp [Tm.inst, Tm.parts]
  | bin s a b => simp [Tm.parts] at h; rcases h with rfl | rfl <;> simp [Tm.inst, Tm.parts]

/-- Who is above stays above, whatever variables become. -/
theorem gt_inst_n (σ : Int → Tm) : ∀ (n : Nat) (a b : Tm), a.size + b.size ≤ n → gt rk a b = true → gt rk (a.inst σ) (b.inst σ) = true := by
  intro n
  induction n with
  | zero => intro a b h; have := size_pos a; omega
  | succ n ih =>
    intro a b hn h
    rcases (gt_iff a b).1 h with ⟨p, hp, h⟩ | ⟨ha, hb, hq, hh⟩
    · refine (gt_iff _ _).2 (.inl ⟨_, parts_inst_mem σ hp, ?_⟩)
      rcases h with rfl | h
      · exact .inl rfl
      · exact .inr (ih p b (by have := size_part hp; omega) h)
    · have ea := parts_inst σ ha
      have eb := parts_inst σ hb
      refine (gt_iff _ _).2 (.inr ⟨by rw [ea.2]; exact ha, by rw [eb.2]; exact hb, fun q hq' => ?_, ?_⟩)
      · rw [eb.1] at hq'
        obtain ⟨q', h1, rfl⟩ := List.mem_map.1 hq'
        exact ih a q' (by have := size_part h1; omega) (hq q' h1)
      · rw [ea.2, eb.2]
        rcases hh with ⟨e, l⟩ | h
        · refine .inl ⟨e, ?_⟩
          cases a with
          | leaf => exact l.elim
          | un s x =>
            cases b with
            | leaf => exact l.elim
            | bin => exact l.elim
            | un s' y => simp only [Tm.size] at hn; exact ih x y (by omega) l
          | bin s x x' =>
            cases b with
            | leaf => exact l.elim
            | un => exact l.elim
            | bin s' y y' =>
              simp only [Tm.size] at hn
              rcases l with l | ⟨rfl, l⟩
              · exact .inl (ih x y (by omega) l)
              · exact .inr ⟨rfl, ih x' y' (by omega) l⟩
        · exact .inr h
theorem gt_inst (σ : Int → Tm) {a b : Tm} (h : gt rk a b = true) : gt rk (a.inst σ) (b.inst σ) = true := gt_inst_n σ _ a b (Nat.le_refl _) h

theorem gt_un {s : Int} {a b : Tm} (hs : 0 ≤ s) (h : gt rk a b = true) : gt rk (.un s a) (.un s b) = true :=
  (gt_iff _ _).2 (.inr ⟨hs, hs, fun q hq => by
    simp [Tm.parts] at hq; subst hq
    exact (gt_iff _ _).2 (.inl ⟨a, by simp [Tm.parts], .inr h⟩), .inl ⟨rfl, h⟩⟩)
theorem gt_left {s : Int} {a b c : Tm} (hs : 0 ≤ s) (h : gt rk a b = true) : gt rk (.bin s a c) (.bin s b c) = true :=
  (gt_iff _ _).2 (.inr ⟨hs, hs, fun q hq => by
    simp [Tm.parts] at hq
    rcases hq with rfl | rfl
    · exact (gt_iff _ _).2 (.inl ⟨a, by simp [Tm.parts], .inr h⟩)
    · exact gt_part (by simp [Tm.parts]), .inl ⟨rfl, .inl h⟩⟩)
theorem gt_right {s : Int} {a b c : Tm} (hs : 0 ≤ s) (h : gt rk a b = true) : gt rk (.bin s c a) (.bin s c b) = true :=
  (gt_iff _ _).2 (.inr ⟨hs, hs, fun q hq => by
    simp [Tm.parts] at hq
    rcases hq with rfl | rfl
    · exact gt_part (by simp [Tm.parts])
    · exact (gt_iff _ _).2 (.inl ⟨a, by simp [Tm.parts], .inr h⟩), .inl ⟨rfl, .inr ⟨rfl, h⟩⟩⟩)

/-- And wherever both stand. -/
theorem gt_put {a b : Tm} (h : gt rk a b = true) : ∀ (x : Tm) (k : Nat), x.ok → k < x.size → gt rk (x.put k a) (x.put k b) = true
  | x, 0, _, _ => by rw [put_zero, put_zero]; exact h
  | .leaf s, k + 1, _, hk => by simp [Tm.size] at hk
  | .un s x, k + 1, hx, hk => gt_un (by have := ar_pos (s := s) (by rw [hx.1]; decide); omega) (gt_put h x k hx.2 (by simp [Tm.size] at hk; omega))
  | .bin s x y, k + 1, hx, hk => by
    have hs : 0 ≤ s := by have := ar_pos (s := s) (by rw [hx.1]; decide); omega
    show gt rk (if k < x.size then _ else _) (if k < x.size then _ else _) = true
    by_cases hkx : k < x.size
    · rw [if_pos hkx, if_pos hkx]; exact gt_left hs (gt_put h x k hx.2.1 hkx)
    · rw [if_neg hkx, if_neg hkx]; exact gt_right hs (gt_put h y _ hx.2.2 (by simp [Tm.size] at hk; omega))

/-- Each is above its parts, however deep. -/
theorem gt_sub : ∀ (x : Tm) (k : Nat), 0 < k → k < x.size → gt rk x (x.sub k) = true
  | x, 0, h, _ => by omega
  | .leaf s, k + 1, _, hk => by simp [Tm.size] at hk
  | .un s x, k + 1, _, hk => by
    show gt rk _ (x.sub k) = true
    have h1 : gt rk (.un s x) x = true := gt_part (by simp [Tm.parts])
    cases k with
    | zero => rw [sub_zero]; exact h1
    | succ k => exact gt_trans h1 (gt_sub x (k + 1) (by omega) (by simp [Tm.size] at hk; omega))
  | .bin s x y, k + 1, _, hk => by
    show gt rk _ (if k < x.size then x.sub k else y.sub (k - x.size)) = true
    have h1 : gt rk (.bin s x y) x = true := gt_part (by simp [Tm.parts])
    have h2 : gt rk (.bin s x y) y = true := gt_part (by simp [Tm.parts])
    simp only [Tm.size] at hk
    split
    · rename_i h
      by_cases h0 : k = 0
      · subst h0; rw [sub_zero]; exact h1
      · exact gt_trans h1 (gt_sub x k (by omega) h)
    · by_cases h0 : k - x.size = 0
      · rw [h0, sub_zero]; exact h2
      · exact gt_trans h2 (gt_sub y _ (by omega) (by omega))

/-! ### No way down goes on without end -/
abbrev Dn (rk : Int → Int) : Tm → Tm → Prop := fun b a => gt rk a b = true

theorem acc_step {a : Tm} (hp : ∀ p ∈ a.parts, Acc (Dn rk) p) (hlow : ∀ b : Tm, rk b.sg < rk a.sg → (∀ q ∈ b.parts, Acc (Dn rk) q) → Acc (Dn rk) b)
    (hlex : ∀ b : Tm, a.sg = b.sg → lexT rk a b → (∀ q ∈ b.parts, Acc (Dn rk) q) → Acc (Dn rk) b) : Acc (Dn rk) a := by
  have main : ∀ (n : Nat) (b : Tm), b.size ≤ n → gt rk a b = true → Acc (Dn rk) b := by
    intro n
    induction n with
    | zero => intro b h; have := size_pos b; omega
    | succ n ih =>
      intro b hn h
      rcases (gt_iff a b).1 h with ⟨p, hpp, rfl | h⟩ | ⟨-, -, hq, hh⟩
      · exact hp p hpp
      · exact (hp p hpp).inv h
      · have hq' : ∀ q ∈ b.parts, Acc (Dn rk) q := fun q hqb => ih q (by have := size_part hqb; omega) (hq q hqb)
        rcases hh with ⟨e, l⟩ | ⟨-, l⟩
        · exact hlex b e l hq'
        · exact hlow b l hq'
  exact ⟨a, fun b h => main b.size b (Nat.le_refl _) h⟩

theorem acc_of_parts (h0 : ∀ s, 0 ≤ rk s) : ∀ (n : Nat) (a : Tm), (rk a.sg).toNat ≤ n → (∀ p ∈ a.parts, Acc (Dn rk) p) → Acc (Dn rk) a := by
  intro n
  induction n using Nat.strongRecOn with
  | ind n ih =>
    intro a hn hp
    have hlow : ∀ c : Tm, rk c.sg = rk a.sg → ∀ b : Tm, rk b.sg < rk c.sg → (∀ q ∈ b.parts, Acc (Dn rk) q) → Acc (Dn rk) b := by
      intro c hc b hb hq
      have h1 := h0 b.sg
      have h2 := h0 a.sg
      exact ih (rk b.sg).toNat (by omega) b (Nat.le_refl _) hq
    cases a with
    | leaf s => exact acc_step hp (hlow _ rfl) fun b _ l _ => l.elim
    | un s x =>
      have hx := hp x (by simp [Tm.parts])
      clear hp
      induction hx with
      | intro x hx1 ih2 =>
        refine acc_step (fun p hp => by simp [Tm.parts] at hp; subst hp; exact ⟨_, hx1⟩) (hlow _ rfl) fun b e l _ => ?_
        cases b with
        | leaf => exact l.elim
        | bin => exact l.elim
        | un s' y =>
          have e' : s = s' := e
          subst e'
          exact ih2 y l hn hlow
    | bin s x x' =>
      have hx := hp x (by simp [Tm.parts])
      have hx' := hp x' (by simp [Tm.parts])
      clear hp
      induction hx generalizing x' with
      | intro x hx1 ih2 =>
        induction hx' with
        | intro x' hx1' ih3 =>
          refine acc_step (fun p hp => by simp [Tm.parts] at hp; rcases hp with rfl | rfl; exact ⟨_, hx1⟩; exact ⟨_, hx1'⟩) (hlow _ rfl) fun b e l hq => ?_
          cases b with
          | leaf => exact l.elim
          | un => exact l.elim
          | bin s' y y' =>
            have e' : s = s' := e
            subst e'
            rcases l with l | ⟨rfl, l⟩
            · exact ih2 y l y' hn hlow (hq y' (by simp [Tm.parts]))
            · exact ih3 y' l hn hlow

theorem acc_all (h0 : ∀ s, 0 ≤ rk s) : ∀ a : Tm, Acc (Dn rk) a
  | .leaf s => acc_of_parts h0 _ _ (Nat.le_refl _) fun p hp => by simp [Tm.parts] at hp
  | .un s x => acc_of_parts h0 _ _ (Nat.le_refl _) fun p hp => by simp [Tm.parts] at hp; rw [hp]; exact acc_all h0 x
  | .bin s x y => acc_of_parts h0 _ _ (Nat.le_refl _) fun p hp => by
    simp [Tm.parts] at hp
    by_cases h : p = x
    · rw [h]; exact acc_all h0 x
    · rw [hp.resolve_left h]; exact acc_all h0 y
theorem gt_wf (h0 : ∀ s, 0 ≤ rk s) : WellFounded (Dn rk) := ⟨acc_all h0⟩

/-- As the code says it. -/
theorem gt_code (a b : Tm) : gt rk a b = (a.parts.any (fun p => decide (p = b) || gt rk p b) || (decide (0 ≤ a.sg) && decide (0 ≤ b.sg) && b.parts.all (fun q => gt rk a q) &&
    (if a.sg ≠ b.sg then decide (rk b.sg < rk a.sg) else match a, b with
      | .un _ x, .un _ y => decide (x ≠ y) && gt rk x y
      | .bin _ x x', .bin _ y y' => if x ≠ y then gt rk x y else decide (x' ≠ y') && gt rk x' y'
      | _, _ => false))) := by
  rw [Bool.eq_iff_iff, gt_iff]
  simp only [Bool.or_eq_true, Bool.and_eq_true, List.any_eq_true, List.all_eq_true, decide_eq_true_eq, and_assoc]
  refine or_congr Iff.rfl (and_congr Iff.rfl (and_congr Iff.rfl (and_congr Iff.rfl ?_)))
  by_cases hs : a.sg = b.sg
  · rw [if_neg (by simpa using hs)]
    simp only [hs, true_and, ne_eq, not_true_eq_false, false_and, or_false]
    cases a <;> cases b <;> simp only [lexT, Bool.and_eq_true, decide_eq_true_eq, Bool.false_eq_true]
    · exact ⟨fun h => ⟨gt_ne h, h⟩, fun h => h.2⟩
    · rename_i x x' _ y y'
      by_cases hx : x = y
      · subst hx
        rw [gt_irrefl]
        simp only [Bool.false_eq_true, true_and, false_or, not_true_eq_false, if_false, Bool.and_eq_true, decide_eq_true_eq]
        exact ⟨fun h => ⟨gt_ne h, h⟩, fun h => h.2⟩
      · simp [hx]
  · rw [if_pos hs]
    simp [hs]

end Go.Proofs.Ytepddehodmljeaa

namespace Go.Proofs.Ytepddehodmljeaa

/-- What variables become, in the order in which they were bound. -/
abbrev Bl := List (Int × List Int)
def lk : Bl → Int → Option (List Int)
  | [], _ => none
  | (k, x) :: l, v => if k = v then some x else lk l v

theorem lk_append (l m : Bl) (v : Int) : lk (l ++ m) v = match lk l v with | some x => some x | none => lk m v := by
  induction l with
  | nil => rfl
  | cons p l ih =>
    obtain ⟨k, x⟩ := p
    by_cases h : k = v
    · simp [lk, h]
    · simp [lk, h, ih]
theorem lk_old {l m : Bl} {v : Int} {x : List Int} (h : lk l v = some x) : lk (l ++ m) v = some x := by rw [lk_append, h]
theorem lk_new {l : Bl} {v : Int} {x : List Int} (h : lk l v = none) : lk (l ++ [(v, x)]) v = some x := by rw [lk_append, h]; simp [lk]
theorem lk_other {l : Bl} {v u : Int} {x : List Int} (h : u ≠ v) : lk (l ++ [(v, x)]) u = lk l u := by
  rw [lk_append]
  cases h1 : lk l u with
  | some y => rfl
  | none => simp [lk, Ne.symm h]
theorem lk_mem {l : Bl} {v : Int} {x : List Int} (h : lk l v = some x) : (v, x) ∈ l := by
  induction l with
  | nil => cases h
  | cons p l ih =>
    obtain ⟨k, y⟩ := p
    rw [lk] at h
    split at h
    · rename_i e; subst e; cases h; simp
    · exact List.mem_cons_of_mem _ (ih h)
theorem lk_none {l : Bl} {v : Int} (h : lk l v = none) : ∀ p ∈ l, p.1 ≠ v := by
  induction l with
  | nil => intro p hp; cases hp
  | cons q l ih =>
    obtain ⟨k, y⟩ := q
    rw [lk] at h
    split at h
    · cases h
    · rename_i e
      intro p hp
      rcases List.mem_cons.1 hp with rfl | hp
      · exact e
      · exact ih h p hp

/-- A variable and the term that it must become. -/
def bindV (bl : Bl) (v : Int) (x : List Int) : Option Bl :=
  match lk bl v with
  | some y => if y = x then some bl else none
  | none => some (bl ++ [(v, x)])

/-- Does the one fit the other? What variables become is noted. -/
def fitM : Tm → Tm → Bl → Option Bl
  | .leaf s, t, bl => if s < 0 then bindV bl s t.flat else if s = t.sg then some bl else none
  | .un s a, .un s' a', bl => if s = s' then fitM a a' bl else none
  | .bin s a c, .bin s' a' c', bl => if s = s' then (fitM a a' bl).bind fun b => fitM c c' b else none
  | _, _, _ => none

/-- Lists of terms, one by one. -/
def fitS : List Tm → List Tm → Bl → Option Bl
  | [], _, bl => some bl
  | _ :: _, [], bl => some bl
  | p :: ps, t :: ts, bl => (fitM p t bl).bind fun b => fitS ps ts b

theorem fitS_var {v : Int} (hv : v < 0) (t : Tm) (ps ts : List Tm) (bl : Bl) : fitS (.leaf v :: ps) (t :: ts) bl = (bindV bl v t.flat).bind fun b => fitS ps ts b := by
  show (fitM (.leaf v) t bl).bind _ = _
  have : fitM (.leaf v) t bl = bindV bl v t.flat := by
    cases t <;> exact if_pos hv
  rw [this]
theorem fitM_clash {p t : Tm} (h0 : 0 ≤ p.sg) (hp : p.ok) (ht : t.ok) (h : p.sg ≠ t.sg) (bl : Bl) : fitM p t bl = none := by
  cases p with
  | leaf s =>
    have h1 : ¬ s < 0 := Int.not_lt.2 h0
    have h2 : ¬ s = t.sg := h
    cases t <;> (show (if s < 0 then _ else if s = _ then _ else _) = _) <;> rw [if_neg h1, if_neg h2]
  | un s a =>
    cases t with
    | leaf => rfl
    | bin => rfl
    | un s' a' =>
      have h' : ¬ s = s' := h
      show (if s = s' then _ else _) = _
      rw [if_neg h']
  | bin s a c =>
    cases t with
    | leaf => rfl
    | un => rfl
    | bin s' a' c' =>
      have h' : ¬ s = s' := h
      show (if s = s' then _ else _) = _
      rw [if_neg h']
theorem fitS_sym {p t : Tm} (h0 : 0 ≤ p.sg) (hp : p.ok) (ht : t.ok) (h : p.sg = t.sg) (ps ts : List Tm) (bl : Bl) : fitS (p :: ps) (t :: ts) bl = fitS (p.parts ++ ps) (t.parts ++ ts) bl := by
  cases p with
  | leaf s =>
    have h1 : ¬ s < 0 := Int.not_lt.2 h0
    have hs : s = t.sg := h
    have e : fitM (.leaf s) t bl = some bl := by
      cases t <;> (show (if s < 0 then _ else if s = _ then _ else _) = _) <;> rw [if_neg h1, if_pos hs]
    show (fitM (.leaf s) t bl).bind _ = _
    rw [e]
    have ha : ar s = 0 := hp
    cases t with
    | leaf => rfl
    | un s' a' => have h2 := ht.1; have h3 : s = s' := hs; rw [← h3, ha] at h2; cases h2
    | bin s' a' c' => have h2 := ht.1; have h3 : s = s' := hs; rw [← h3, ha] at h2; cases h2
  | un s a =>
    have ha : ar s = 1 := hp.1
    cases t with
    | leaf s' => have h2 : ar s' = 0 := ht; have h3 : s = s' := h; rw [← h3, ha] at h2; cases h2
    | bin s' a' c' => have h2 := ht.1; have h3 : s = s' := h; rw [← h3, ha] at h2; cases h2
    | un s' a' =>
      have h' : s = s' := h
      show (if s = s' then fitM a a' bl else none).bind _ = _
      rw [if_pos h']; rfl
  | bin s a c =>
    have ha : ar s = 2 := hp.1
    cases t with
    | leaf s' => have h2 : ar s' = 0 := ht; have h3 : s = s' := h; rw [← h3, ha] at h2; cases h2
    | un s' a' => have h2 := ht.1; have h3 : s = s' := h; rw [← h3, ha] at h2; cases h2
    | bin s' a' c' =>
      have h' : s = s' := h
      show (if s = s' then (fitM a a' bl).bind fun b => fitM c c' b else none).bind _ = (fitM a a' bl).bind fun b => (fitM c c' b).bind fun b => fitS ps ts b
      rw [if_pos h', Option.bind_assoc]

/-- A way of what variables become that says what was noted. -/
def Agrees (σ : Int → Tm) (bl : Bl) : Prop := ∀ v x, lk bl v = some x → (σ v).flat = x

theorem bindV_some {bl bl' : Bl} {v : Int} {x : List Int} (h : bindV bl v x = some bl') : lk bl' v = some x ∧ (∀ u y, lk bl u = some y → lk bl' u = some y) ∧
    (∀ u y, lk bl' u = some y → lk bl u = some y ∨ (u = v ∧ y = x)) := by
  unfold bindV at h
  cases h1 : lk bl v with
  | some y =>
    rw [h1] at h
    simp only at h
    split at h
    · rename_i e; cases h; subst e; exact ⟨h1, fun _ _ h => h, fun _ _ h => .inl h⟩
    · cases h
  | none =>
    rw [h1] at h
    cases h
    refine ⟨lk_new h1, fun u y h => lk_old h, fun u y h => ?_⟩
    by_cases e : u = v
    · subst e; rw [lk_new h1] at h; cases h; exact .inr ⟨rfl, rfl⟩
    · rw [lk_other e] at h; exact .inl h

/-- Whoever agrees with what was noted makes the one the other; all variables are noted; only those, and only with parts. -/
theorem fitM_sound : ∀ (p t : Tm) (bl bl' : Bl), p.ok → t.ok → fitM p t bl = some bl' →
    (∀ u y, lk bl u = some y → lk bl' u = some y) ∧ (∀ v ∈ p.flat, v < 0 → ∃ x, lk bl' v = some x) ∧ (∀ σ : Int → Tm, (∀ v, v < 0 → (σ v).ok) → Agrees σ bl' → p.inst σ = t) ∧
    (∀ u y, lk bl' u = some y → lk bl u = some y ∨ (u ∈ p.flat ∧ u < 0 ∧ ∃ k, k < t.size ∧ y = (t.sub k).flat))
  | .leaf s, t, bl, bl', hp, ht, h => by
    by_cases hs : s < 0
    · have e : fitM (.leaf s) t bl = bindV bl s t.flat := by cases t <;> exact if_pos hs
      rw [e] at h
      obtain ⟨h1, h2, h3⟩ := bindV_some h
      refine ⟨h2, fun v hv _ => ?_, fun σ ho hσ => ?_, fun u y hu => ?_⟩
      · simp [Tm.flat] at hv; subst hv; exact ⟨_, h1⟩
      · have h4 := hσ s _ h1
        show (if s < 0 then σ s else .leaf s) = t
        rw [if_pos hs]
        exact flat_eq (ho s hs) ht h4
      · rcases h3 u y hu with h4 | ⟨rfl, rfl⟩
        · exact .inl h4
        · exact .inr ⟨by simp [Tm.flat], hs, 0, size_pos t, by rw [sub_zero]⟩
    · have e : fitM (.leaf s) t bl = if s = t.sg then some bl else none := by cases t <;> exact if_neg hs
      rw [e] at h
      split at h
      · rename_i e2
        cases h
        refine ⟨fun _ _ h => h, fun v hv h0 => by simp [Tm.flat] at hv; omega, fun σ _ _ => ?_, fun _ _ h => .inl h⟩
        show (if s < 0 then σ s else .leaf s) = t
        rw [if_neg hs]
        have ha : ar s = 0 := hp
        cases t with
        | leaf s' => exact congrArg _ e2
        | un s' a' => have h2 := ht.1; have h3 : s = s' := e2; rw [← h3, ha] at h2; cases h2
        | bin s' a' c' => have h2 := ht.1; have h3 : s = s' := e2; rw [← h3, ha] at h2; cases h2
      · cases h
  | .un s a, .leaf s', bl, bl', _, _, h => by cases h
  | .un s a, .bin s' a' c', bl, bl', _, _, h => by cases h
  | .bin s a c, .leaf s', bl, bl', _, _, h => by cases h
  | .bin s a c, .un s' a', bl, bl', _, _, h => by cases h
  | .un s a, .un s' a', bl, bl', hp, ht, h => by
    change (if s = s' then fitM a a' bl else none) = some bl' at h
    split at h
    · rename_i e
      subst e
      obtain ⟨h1, h2, h3, h4⟩ := fitM_sound a a' bl bl' hp.2 ht.2 h
      have hn : ¬ s < 0 := by have := ar_pos (s := s) (by rw [hp.1]; decide); omega
      refine ⟨h1, fun v hv h0 => ?_, fun σ ho hσ => ?_, fun u y hu => ?_⟩
      · simp [Tm.flat] at hv
        rcases hv with rfl | hv
        · exact absurd h0 hn
        · exact h2 v hv h0
      · show Tm.un s _ = _
        rw [h3 σ ho hσ]
      · rcases h4 u y hu with h5 | ⟨h5, h6, k, hk, h7⟩
        · exact .inl h5
        · exact .inr ⟨by simp [Tm.flat, h5], h6, k + 1, by simp [Tm.size]; omega, h7⟩
    · cases h
  | .bin s a c, .bin s' a' c', bl, bl', hp, ht, h => by
    change (if s = s' then (fitM a a' bl).bind fun b => fitM c c' b else none) = some bl' at h
    split at h
    · rename_i e
      subst e
      cases hm : fitM a a' bl with
      | none => rw [hm] at h; cases h
      | some bm =>
        rw [hm] at h
        have h : fitM c c' bm = some bl' := h
        obtain ⟨h1, h2, h3, h4⟩ := fitM_sound a a' bl bm hp.2.1 ht.2.1 hm
        obtain ⟨k1, k2, k3, k4⟩ := fitM_sound c c' bm bl' hp.2.2 ht.2.2 h
        have hn : ¬ s < 0 := by have := ar_pos (s := s) (by rw [hp.1]; decide); omega
        refine ⟨fun u y hu => k1 u y (h1 u y hu), fun v hv h0 => ?_, fun σ ho hσ => ?_, fun u y hu => ?_⟩
        · simp [Tm.flat] at hv
          rcases hv with rfl | hv | hv
          · exact absurd h0 hn
          · obtain ⟨x, hx⟩ := h2 v hv h0; exact ⟨x, k1 v x hx⟩
          · exact k2 v hv h0
        · show Tm.bin s _ _ = _
          rw [h3 σ ho fun v x hv => hσ v x (k1 v x hv), k3 σ ho hσ]
        · rcases k4 u y hu with h5 | ⟨h5, h6, k, hk, h7⟩
          · rcases h4 u y h5 with h5 | ⟨h5, h6, k, hk, h7⟩
            · exact .inl h5
            · refine .inr ⟨by simp [Tm.flat, h5], h6, k + 1, by simp [Tm.size]; omega, ?_⟩
              show y = (if k < a'.size then a'.sub k else c'.sub (k - a'.size)).flat
              rw [if_pos hk]; exact h7
          · refine .inr ⟨by simp [Tm.flat, h5], h6, a'.size + k + 1, by simp [Tm.size]; omega, ?_⟩
            show y = (if a'.size + k < a'.size then a'.sub _ else c'.sub (a'.size + k - a'.size)).flat
            rw [if_neg (by omega), Nat.add_sub_cancel_left]; exact h7
    · cases h

/-- Where some way makes the one the other, it fits. -/
theorem fitM_complete (σ : Int → Tm) : ∀ (p t : Tm) (bl : Bl), p.ok → p.inst σ = t → Agrees σ bl → ∃ bl', fitM p t bl = some bl' ∧ Agrees σ bl'
  | .leaf s, t, bl, hp, h, ha => by
    by_cases hs : s < 0
    · have e : fitM (.leaf s) t bl = bindV bl s t.flat := by cases t <;> exact if_pos hs
      have h' : (if s < 0 then σ s else .leaf s) = t := h
      rw [if_pos hs] at h'
      rw [e]
      unfold bindV
      cases h1 : lk bl s with
      | some y =>
        have := ha s y h1
        simp only
        rw [if_pos (by rw [← this, h'])]
        exact ⟨bl, rfl, ha⟩
      | none =>
        refine ⟨_, rfl, fun v x hv => ?_⟩
        by_cases e : v = s
        · subst e; rw [lk_new h1] at hv; cases hv; rw [h']
        · rw [lk_other e] at hv; exact ha v x hv
    · have h' : (if s < 0 then σ s else .leaf s) = t := h
      rw [if_neg hs] at h'
      subst h'
      refine ⟨bl, ?_, ha⟩
      show (if s < 0 then _ else if s = s then _ else _) = _
      rw [if_neg hs, if_pos rfl]
  | .un s a, t, bl, hp, h, ha => by
    subst h
    obtain ⟨bl', h1, h2⟩ := fitM_complete σ a (a.inst σ) bl hp.2 rfl ha
    refine ⟨bl', ?_, h2⟩
    show (if s = s then _ else _) = _
    rw [if_pos rfl]; exact h1
  | .bin s a c, t, bl, hp, h, ha => by
    subst h
    obtain ⟨bm, h1, h2⟩ := fitM_complete σ a (a.inst σ) bl hp.2.1 rfl ha
    obtain ⟨bl', h3, h4⟩ := fitM_complete σ c (c.inst σ) bm hp.2.2 rfl h2
    refine ⟨bl', ?_, h4⟩
    show (if s = s then (fitM a (a.inst σ) bl).bind _ else _) = _
    rw [if_pos rfl, h1]; exact h3

/-- What is handed out: all eight. -/
def outS (bl : Bl) : List (List Int) := (List.range 8).map fun k : Nat => (lk bl (-1 - (k : Int))).getD [-1 - (k : Int)]
theorem outS_len (bl : Bl) : (outS bl).length = 8 := by simp [outS]
theorem outS_nth (bl : Bl) {v : Int} (h1 : -8 ≤ v) (h2 : v < 0) : nthT (outS bl) (-1 - v).toNat = (lk bl v).getD [v] := by
  have hk : (-1 - v).toNat < (outS bl).length := by rw [outS_len]; omega
  rw [nthT_eq hk]
  simp only [outS, List.getElem_map, List.getElem_range]
  rw [show -1 - (((-1 - v).toNat : Nat) : Int) = v by omega]

/-- Fitting, of lists of signs: what comes, if anything. -/
def fitL (p t : List Int) : Option (List (List Int)) := (fitM (tmOf p) (tmOf t) []).map outS

end Go.Proofs.Ytepddehodmljeaa

namespace Go.Proofs.Ytepddehodmljeaa
open Go.RowKit Go.Maps

theorem small_of_signs {t : List Int} (h : Signs t) : Small t := fun x hx => by have := h x hx; omega

set_option maxRecDepth 100000 in
theorem Clone_calls (t : List Int) (v : Value) (w : World) (hne : t ≠ []) (htl : t.length ≤ 1000) (hv : IsInts Any w v t) :
    Calls Try.prog 116 #[v] w fun e w' => ∃ x, e = .returned x ∧ IsInts (Fr w.heap.size) w' x t ∧ Below w.heap.size w w' := by
  obtain ⟨i3, hi, hz, hsz, hby⟩ := info_parts Try.inf3
  have hv0 := Lib.hid hv
  obtain ⟨hlen, ⟨rfl, -⟩ | ⟨-, b, o, c, rfl, -, -, hlt, hc⟩⟩ := hv
  · exact absurd rfl hne
  clear hc
  have hO0 : Hid ((w.alloc (.cells #[] 3)).ownsRow w.heap.size 3 1 (.slice (some ⟨w.heap.size, 0, none⟩) 0 0) ([] : List Int).length (([] : List Int).map (Value.int .i64))) := World.ownsRow_made w #[] 0 (Nat.le_refl _) (by simp [maxLen]) (by simp)
  have hI0 : Hid (IsInts Any (w.alloc (.cells #[] 3)) (.slice (some ⟨b, o, none⟩) t.length c) t) := hv0.out.below (below_alloc _ _)
  have hnil : ∀ W, (binOp .eql 24 (.slice (some ⟨b, o, none⟩) t.length c) (.slice none 0 0)).run Try.prog W = .ok (.bool false) W := fun W => Lib.run_eql_slice_nil W _ _ _ _ _ _ _ Try.underlying24
  go_enter Try.func116, Try.ntmps116
  have tok1 : True := trivial
  go_wp2_with (at_builtin; have _t := tok1; refine app_ints _ _ 24 rfl rfl w.heap.size i3 Try.underlying24 hi hz hsz hby hO0.out hI0.out ?c1 ?c2 ?c3; rotate_left 2; intro v' w1 hown1 hb1 hg1 _; clear tok1; rw [List.nil_append] at hown1)
  case c1 => simp; omega
  case c2 => simp
  go_ret
  exact ⟨_, rfl, ints_of_own hown1 (by omega), (below_alloc w _).trans (hb1.mono (Nat.le_refl _))⟩

/-- What Part answers. -/
def partT (t : List Int) (k : Int) : List Int := if plc t k = 0 then paT t k.toNat else []
theorem plc_zero {t : List Int} {k : Int} (h : plc t k = 0) : chk t = 0 ∧ 0 ≤ k ∧ k < t.length := by
  unfold plc at h
  split at h
  · split at h
    · exact ⟨by assumption, by omega, by omega⟩
    · simp at h
  · contradiction

set_option maxRecDepth 100000 in
theorem Part_calls (t : List Int) (v : Value) (k : Int) (w : World) (hv : IsInts Any w v t) :
    Calls Try.prog 52 #[v, .int .i64 k] w fun e w' => ∃ x, e = .returned (.tuple #[x, .int .i64 (plc t k)]) ∧ IsInts (Fr w.heap.size) w' x (partT t k) ∧ Below w.heap.size w w' := by
  have h1 := Lib.hid (placed_calls t v k w hv)
  by_cases h : plc t k = 0
  · obtain ⟨h2, h3, h4⟩ := plc_zero h
    obtain ⟨n, rfl⟩ : ∃ n : Nat, k = n := ⟨k.toNat, by omega⟩
    have hp := part_at h2 (k := n) (by omega)
    have hA := Lib.hid (At_calls Any t (small_of_signs (signs_of_chk h2)) v n (enT t n) w hv hp.1 hp.2.1 hp.2.2.1)
    have hr : Hid (partT t n = paT t n) := by rw [Hid, partT, if_pos h, Int.toNat_natCast]
    have hne : Hid (paT t n ≠ []) := ne_of_chk (chk_paT h2 (by omega))
    have hle : Hid ((paT t n).length ≤ 1000) := by have := len_of_chk (chk_paT h2 (k := n) (by omega)); show _ ≤ _; omega
    have hh := Lib.hid h
    clear hv h h2 h3 h4 hp
    go_enter Try.func52, Try.ntmps52
    go_wp2_with fail
    refine h1.out.mono ?_
    rintro e w' ⟨rfl, rfl⟩
    rw [hh.out]
    go_wp2_with fail
    refine hA.out.mono ?_
    rintro e w' ⟨x, rfl, hx, rfl⟩
    go_wp2_with fail
    refine (Clone_calls (paT t n) x w hne.out hle.out hx).mono ?_
    rintro e w1 ⟨y, rfl, hy, hB⟩
    go_wp2_with fail
    go_ret2
    exact ⟨_, by rw [hh.out]; rfl, by rw [hr.out]; exact hy, hB⟩
  · have hr : Hid (partT t k = []) := by rw [Hid, partT, if_neg h]
    have h' : (plc t k != 0) = true := by simpa using h
    clear hv h
    go_enter Try.func52, Try.ntmps52
    go_wp2_with fail
    refine h1.out.mono ?_
    rintro e w' ⟨rfl, rfl⟩
    clear h1
    go_wp2_with fail
    go_ret2
    exact ⟨_, rfl, by rw [hr.out]; exact .nil _ _, .refl _ _⟩

end Go.Proofs.Ytepddehodmljeaa

namespace Go.Proofs.Ytepddehodmljeaa
open Go.RowKit Go.Maps

set_option maxRecDepth 100000 in
theorem Grow_calls (n : Nat) (hn : n ≤ 1000) (w : World) :
    Calls Try.prog 197 #[.slice none 0 0, .int .i64 n] w fun e w' => ∃ v, e = .returned v ∧ w'.ownsRow w.heap.size 3 1 v 0 [] ∧ Below w.heap.size w w' := by
  obtain ⟨i3, hi, hz, hsz, hby⟩ := info_parts Try.inf3
  have h1 : ¬ ((n : Int) < 0) := by omega
  by_cases h0 : n = 0
  · subst h0
    go_enter Try.func197, Try.ntmps197
    go_wp2_with fail
    go_ret
    exact ⟨_, rfl, World.ownsRow_nil _ _ _ _, .refl _ _⟩
  · have h2 : (0 : Int) < n := by omega
    have hnc : Builtin.nextslicecap (0 + n) 0 = 0 + n := nextslicecap_zero (by omega)
    have hrz : ∀ ty, (Builtin.append_ #[24, 3] ty #[.slice none 0 0, .int .i64 (n : Int)]).run Try.prog w =
        .ok (.slice (some ⟨w.heap.size, 0, none⟩) n (grownCap w n 0 3)) (w.drew.alloc (.cells (Builtin.zeroCells (Value.int .i64 0).cells n ++ Builtin.zeroCells (Value.int .i64 0).cells (grownCap w n 0 3 - n)) 3)) := by
      intro ty
      have := Lib.run_append_grow_zeros (P := Try.prog) w 24 3 ty 3 i3 (.int .i64 0) .i64 .i64 Try.underlying24 Try.underlying3 hi hz none 0 0 [] (run_firstCells_none w.drew i3.size 0 0 0) n (by omega) (by rw [hsz]; decide) (by omega) (by omega) (by rw [hby]; omega) (by rw [hnc, hby]; omega)
      simpa using this
    have hge := grownCap_ge w n 0 3
    have hle := grownCap_le_maxLen w n 0 3 (by simp only [maxLen]; omega)
    obtain ⟨G, hG⟩ : ∃ G, G = grownCap w n 0 3 := ⟨_, rfl⟩
    rw [← hG] at hrz hge hle
    clear hG hnc
    have hG63 : G ≤ 9223372036854775807 := by unfold maxLen at hle; omega
    have hO : Hid ((w.drew.alloc (.cells (Builtin.zeroCells (Value.int .i64 0).cells n ++ Builtin.zeroCells (Value.int .i64 0).cells (G - n)) 3)).ownsRow w.heap.size 3 1 (.slice (some ⟨w.heap.size, 0, none⟩) 0 G) 0 []) := by
      refine World.ownsRow_made w.drew _ _ (Nat.le_refl _) hle ?_
      simp [size_zeroCells, Value.cells]
      omega
    go_enter Try.func197, Try.ntmps197
    go_wp2_with (at_builtin; refine Lib.wpList_append_run _ rfl _ _ _ _ rfl _ _ rfl rfl _ _ (hrz _) ?_)
    go_ret
    exact ⟨_, rfl, hO.out, ext_alloc (a := w) (b := w.drewN 1) (below_drewN _ w 1) _⟩

end Go.Proofs.Ytepddehodmljeaa

namespace Go.Proofs.Ytepddehodmljeaa
open Go.RowKit Go.Maps

/-- The first k lists, one behind the other. -/
def fl (ts : List (List Int)) (k : Nat) : List Int := (ts.take k).flatten
theorem fl_succ {ts : List (List Int)} {k : Nat} (hk : k < ts.length) : fl ts (k + 1) = fl ts k ++ nthT ts k := by
  rw [fl, fl, nthT_eq hk, List.take_succ_eq_append_getElem hk, List.flatten_append]; simp

set_option maxRecDepth 100000 in
set_option maxHeartbeats 1000000 in
theorem Concat_calls (ts : List (List Int)) (v : Value) (w : World) (hne : ts ≠ []) (hll : ts.length ≤ 10) (htot : ∀ k, k ≤ ts.length → (fl ts k).length ≤ 1000) (hlen : ∀ k, k < ts.length → (nthT ts k).length ≤ 1000) (hv : IsTerms Any w v ts) :
    Calls Try.prog 176 #[v] w fun e w' => ∃ x, e = .returned x ∧ IsInts (Fr w.heap.size) w' x (fl ts ts.length) ∧ Below w.heap.size w w' := by
  obtain ⟨i3, hi, hz, hsz, hby⟩ := info_parts Try.inf3
  have hpos : 0 < ts.length := List.length_pos_iff.2 hne
  obtain ⟨b, o, c, -, rfl, -, -⟩ := row_cell hv hpos
  have hcells : Hid (∀ W, Below w.heap.size w W → ∀ j, j < ts.length → ∃ u, W.cell? ⟨b, o + j, none⟩ = some u ∧ IsInts Any W u (nthT ts j)) := by
    intro W hW j hj
    obtain ⟨b', o', c', u, e, h1, h2⟩ := row_cell (hv.below TermR.ok hW) hj
    cases e
    exact ⟨u, h1, h2⟩
  have hT := Lib.hid htot
  have hL := Lib.hid hlen
  clear hv htot hlen hne
  go_enter Try.func176, Try.ntmps176
  go_wp2_with fail
  go_loopw [3, 11] (fun s i wr => ∃ k : Nat, k ≤ ts.length ∧ i = .int .i64 k ∧ s = .int .i64 ((fl ts k).length : Nat) ∧ wr = w) (fun _ i _ => ts.length - (intOf i).toNat)
  case atStart => exact ⟨0, by omega, rfl, rfl, rfl⟩
  case round =>
    obtain ⟨k, hk, rfl, rfl, rfl⟩ := hrel
    by_cases hlt' : k < ts.length
    · obtain ⟨u, hcell, hu⟩ := hcells.out wr (.refl _ _) k hlt'
      obtain ⟨a, c', rfl⟩ := hu.isSlice
      have hs : Hid ((fl ts (k + 1)).length = (fl ts k).length + (nthT ts k).length) := by rw [Hid, fl_succ hlt', List.length_append]
      have hb1 := hT.out k hk
      have hb2 := hL.out k hlt'
      have hnn : ¬ (((fl ts k).length : Int) + ((nthT ts k).length : Int) < 0) := by omega
      have hik : (k : Int) < ts.length := by omega
      clear hu
      go_wp2_with fail
      go_roundw
      case rel => exact ⟨k + 1, by omega, by go_num, by rw [hs.out]; go_num, trivial⟩
      case measure => simp [intOf]; omega
    · obtain rfl : k = ts.length := by omega
      go_wp2_with fail
      refine (Grow_calls (fl ts ts.length).length (hT.out _ hk) wr).mono ?_
      rintro e w1 ⟨v1, rfl, hown, hB1⟩
      have hO1 : Hid (w1.ownsRow wr.heap.size 3 1 v1 (fl ts 0).length ((fl ts 0).map (Value.int .i64))) := hown
      have hB1' := Lib.hid hB1
      clear hown hB1
      obtain ⟨wo, rfl⟩ : ∃ wo : World, wo = wr := ⟨_, rfl⟩
      go_wp2_with fail
      go_loopw [6, 27] (fun out i wr => ∃ k : Nat, k ≤ ts.length ∧ i = .int .i64 k ∧ Hid (wr.ownsRow wo.heap.size 3 1 out (fl ts k).length ((fl ts k).map (Value.int .i64))) ∧ Hid (Below wo.heap.size wo wr)) (fun _ i _ => ts.length - (intOf i).toNat)
      case atStart => exact ⟨0, by omega, rfl, hO1.out, hB1'.out⟩
      case round =>
        clear hO1 hB1'
        obtain ⟨k, hk, rfl, hO, hB⟩ := hrel
        by_cases hlt' : k < ts.length
        · obtain ⟨u, hcell, hu⟩ := hcells.out wr hB.out k hlt'
          have hU := Lib.hid hu
          have hik : (k : Int) < ts.length := by omega
          clear hu
          go_wp2_with (at_builtin; refine app_ints _ _ 24 rfl rfl wo.heap.size i3 Try.underlying24 hi hz hsz hby hO.out hU.out ?c1 ?c2 ?c3; rotate_left 2; intro v' w2 hown2 hb2 hg2 _)
          case c1 => have := hT.out k hk; have := hL.out k hlt'; omega
          case c2 => exact hB.out.size
          go_roundw
          case rel => exact ⟨k + 1, by omega, by go_num, by rw [fl_succ hlt']; exact hown2, hB.out.trans hb2⟩
          case measure => simp [intOf]; omega
        · obtain rfl : k = ts.length := by omega
          go_wp2_with fail
          go_ret
          exact ⟨_, rfl, ints_of_own hO.out (by have := hT.out _ hk; omega), hB.out⟩

end Go.Proofs.Ytepddehodmljeaa

namespace Go.Proofs.Ytepddehodmljeaa
open Go.RowKit Go.Maps

theorem ints_take {w : World} {b o c k : Nat} {t : List Int} (h : IsInts Any w (.slice (some ⟨b, o, none⟩) t.length c) t) (hk : k ≤ t.length) : IsInts Any w (.slice (some ⟨b, o, none⟩) k c) (t.take k) := by
  have hl : (t.take k).length = k := by simp; omega
  obtain ⟨h1, ⟨rfl, -⟩ | ⟨hne, b', o', c', e, hcap, hS, hlt, hc⟩⟩ := h
  · obtain rfl : k = 0 := by simpa using hk
    exact ⟨by simp, .inl ⟨by simp, _, c, rfl, by simp⟩⟩
  · cases e
    refine ⟨by omega, ?_⟩
    by_cases h0 : k = 0
    · subst h0; exact .inl ⟨by simp, _, c, rfl, by simp⟩
    · exact .inr ⟨fun h => by rw [h] at hl; simp at hl; omega, b, o, c, by rw [hl], by omega, hS, hlt, fun j hj => by rw [nth_take (by omega)]; exact hc j (by omega)⟩
theorem ints_drop {w : World} {b o c k c2 : Nat} {t : List Int} (h : IsInts Any w (.slice (some ⟨b, o, none⟩) t.length c) t) (hk : k ≤ t.length) (hc2 : t.length - k ≤ c2) : IsInts Any w (.slice (some ⟨b, o + k, none⟩) (t.length - k) c2) (t.drop k) := by
  have hl : (t.drop k).length = t.length - k := by simp
  obtain ⟨h1, ⟨rfl, -⟩ | ⟨hne, b', o', c', e, hcap, hS, hlt, hc⟩⟩ := h
  · obtain rfl : k = 0 := by simpa using hk
    exact ⟨by simp, .inl ⟨by simp, _, c2, rfl, by simp⟩⟩
  · cases e
    refine ⟨by omega, ?_⟩
    by_cases h0 : t.length - k = 0
    · exact .inl ⟨List.eq_nil_of_length_eq_zero (by omega), _, c2, by rw [h0], by simp⟩
    · exact .inr ⟨fun h => by rw [h] at hl; simp at hl; omega, b, o + k, c2, by rw [hl], by omega, hS, hlt, fun j hj => by rw [nth_drop, Nat.add_assoc]; exact hc (k + j) (by omega)⟩

theorem three_rows {w : World} {a b c : Value} {x y z : List Int} (ha : IsInts Any w a x) (hb : IsInts Any w b y) (hc : IsInts Any w c z) :
    IsTerms Any (w.alloc (.cells #[a, b, c] 24)) (.slice (some ⟨w.heap.size, 0, none⟩) 3 3) [x, y, z] := by
  refine ⟨by simp, .inr ⟨by simp, w.heap.size, 0, 3, rfl, by simp, trivial, by simp, [a, b, c], ?_, fun j u hj => ?_⟩⟩
  · exact ⟨[a], [b, c], rfl, rfl, ⟨_, rfl, ha.below (below_alloc _ _)⟩, [b], [c], rfl, rfl, ⟨_, rfl, hb.below (below_alloc _ _)⟩, [c], [], rfl, rfl, ⟨_, rfl, hc.below (below_alloc _ _)⟩, rfl⟩
  · rw [World.cell?_alloc_at _ _ _ _ rfl]
    simpa using hj

set_option maxRecDepth 100000 in
set_option maxHeartbeats 400000 in
theorem Laid_calls (t u : List Int) (v x : Value) (k : Nat) (w : World) (ht : chk t = 0) (hlu : u.length ≤ 900) (hk : k < t.length) (hv : IsInts Any w v t) (hx : IsInts Any w x u) :
    Calls Try.prog 124 #[v, .int .i64 k, x] w fun e w' => ∃ y, e = .returned y ∧ IsInts (Fr w.heap.size) w' y (puT t k u) ∧ Below w.heap.size w w' := by
  have hp := part_at ht hk
  have hS : Hid (Calls Try.prog 115 #[v, .int .i64 k] (w.drewN 1) fun e w' => e = .returned (.int .i64 (skp t k)) ∧ w.drewN 1 = w') := Skip_calls t (small_of_signs (signs_of_chk ht)) v _ (hv.below (below_drewN _ w 1)) t.length k (by omega)
  rw [hp.1] at hS
  obtain ⟨b, o, c, e, hcap⟩ : ∃ b o c, v = .slice (some ⟨b, o, none⟩) t.length c ∧ t.length ≤ c := by
    obtain ⟨-, ⟨rfl, -⟩ | ⟨-, b, o, c, e, hcap, -⟩⟩ := hv
    · simp at hk
    · exact ⟨b, o, c, e, hcap⟩
  subst e
  obtain ⟨xa, xc, rfl⟩ := hx.isSlice
  have hN : Hid (enT t k = c → IsInts Any w (.slice (some ⟨b, o, none⟩) 0 0) (t.drop (enT t k))) := fun h => by
    have h1 := hp.2.2.1
    have h2 : t.drop (enT t k) = [] := List.drop_of_length_le (by omega)
    rw [h2]; exact ⟨by simp, .inl ⟨rfl, _, 0, rfl, by simp⟩⟩
  have hA := Lib.hid (ints_take hv (k := k) (by omega))
  have hD := Lib.hid (ints_drop hv (k := enT t k) (c2 := c - enT t k) (by omega) (by omega))
  have hX := Lib.hid hx
  have hfl : Hid (fl [t.take k, u, t.drop (enT t k)] 3 = puT t k u) := by rw [Hid, fl, puT]; simp
  have hlt := len_of_chk ht
  have hC : Hid (∀ a b c, IsInts Any (w.drewN 1) a (t.take k) → IsInts Any (w.drewN 1) b u → IsInts Any (w.drewN 1) c (t.drop (enT t k)) → Calls Try.prog 176 #[.slice (some ⟨(w.drewN 1).heap.size, 0, none⟩) 3 3] ((w.drewN 1).alloc (.cells #[a, b, c] 24)) fun e w' => ∃ x, e = .returned x ∧ IsInts (Fr ((w.drewN 1).alloc (.cells #[a, b, c] 24)).heap.size) w' x (puT t k u) ∧ Below ((w.drewN 1).alloc (.cells #[a, b, c] 24)).heap.size ((w.drewN 1).alloc (.cells #[a, b, c] 24)) w') := by
    intro a b c ha hb hc
    rw [← hfl.out]
    refine Concat_calls [t.take k, u, t.drop (enT t k)] _ _ (by simp) (by simp) (fun j hj => ?_) (fun j hj => ?_) (three_rows ha hb hc)
    · have : (fl [t.take k, u, t.drop (enT t k)] j).length ≤ t.length + u.length + t.length := by
        match j, hj with
        | 0, _ => simp [fl]
        | 1, _ => simp [fl]; omega
        | 2, _ => simp [fl]; omega
        | 3, _ => simp [fl]; omega
      omega
    · match j, hj with
      | 0, _ => simp [nthT]; omega
      | 1, _ => simp [nthT]; omega
      | 2, _ => simp [nthT]; omega
  have g1 : enT t k ≤ t.length := hp.2.2.1
  generalize hE : enT t k = n at *
  have g2 : (k : Int) ≤ c := by omega
  have g3 : k ≤ c := by omega
  have g4 : (n : Int) ≤ t.length := by omega
  have g5 : n ≤ c := by omega
  clear hp hv hx ht
  go_enter Try.func124, Try.ntmps124
  go_wp2_with fail
  go_still_tail 9, (by kernel_rfl)
  still_call (hS.out.mono fun e w' h => ⟨h.1, h.2.symm⟩)
  repeat still_step
  refine wpStill_nil ?_
  by_cases hnc : n = c
  · have hM := Lib.hid (hN.out hnc)
    clear hN
    subst hnc
    change wpList _ _ _ _ _ (w.drewN 1)
    go_wp2_with fail
    refine (hC.out _ _ _ (hA.out.below (below_drewN _ w 1)) (hX.out.below (below_drewN _ w 1)) (hM.out.below (below_drewN _ w 1))).mono ?_
    rintro e w2 ⟨y, rfl, hy, hB⟩
    go_wp2_with fail
    go_ret
    exact ⟨_, rfl, hy.mono (.weak fun b h => by
      have : w.heap.size + 1 ≤ b := by simpa [Fr] using h
      show w.heap.size ≤ b; omega), ext_trans (ext_alloc (a := w) (b := w.drewN 1) (below_drewN _ w 1) _) hB⟩
  · change wpList _ _ _ _ _ (w.drewN 1)
    go_wp2_with fail
    refine (hC.out _ _ _ (hA.out.below (below_drewN _ w 1)) (hX.out.below (below_drewN _ w 1)) (hD.out.below (below_drewN _ w 1))).mono ?_
    rintro e w2 ⟨y, rfl, hy, hB⟩
    go_wp2_with fail
    go_ret
    exact ⟨_, rfl, hy.mono (.weak fun b h => by
      have : w.heap.size + 1 ≤ b := by simpa [Fr] using h
      show w.heap.size ≤ b; omega), ext_trans (ext_alloc (a := w) (b := w.drewN 1) (below_drewN _ w 1) _) hB⟩

end Go.Proofs.Ytepddehodmljeaa

namespace Go.Proofs.Ytepddehodmljeaa
open Go.RowKit Go.Maps

/-- What Put answers. -/
def putE (t : List Int) (k : Int) (u : List Int) : Int := if chk2 t u ≠ 0 then chk2 t u else if plc t k ≠ 0 then plc t k else if 30 < (puT t k.toNat u).length then 2 else 0
def putT (t : List Int) (k : Int) (u : List Int) : List Int := if putE t k u = 0 then puT t k.toNat u else []

set_option maxRecDepth 100000 in
set_option maxHeartbeats 1000000 in
theorem Put_calls (t u : List Int) (v x : Value) (k : Int) (w : World) (hv : IsInts Any w v t) (hx : IsInts Any w x u) :
    Calls Try.prog 58 #[v, .int .i64 k, x] w fun e w' => ∃ y, e = .returned (.tuple #[y, .int .i64 (putE t k u)]) ∧ IsInts (Fr w.heap.size) w' y (putT t k u) ∧ Below w.heap.size w w' := by
  have h1 := Lib.hid (Both_calls t u v x w hv hx)
  have h2 := Lib.hid (placed_calls t v k w hv)
  by_cases hc : chk2 t u = 0
  · by_cases hp : plc t k = 0
    · obtain ⟨ht, hk0, hk⟩ := plc_zero hp
      obtain ⟨n, rfl⟩ : ∃ n : Nat, k = n := ⟨k.toNat, by omega⟩
      have hu : chk u = 0 := by rw [chk2, if_pos ht] at hc; exact hc
      have h3 := Lib.hid (Laid_calls t u v x n w ht (by have := len_of_chk hu; omega) (by omega) hv hx)
      have hc' := Lib.hid hc
      have hp' := Lib.hid hp
      by_cases hb : 30 < (puT t n u).length
      · have hE : putE t n u = 2 := by rw [putE, if_neg (by simpa using hc), if_neg (by simpa using hp), Int.toNat_natCast, if_pos hb]
        have hT : putT t n u = [] := by rw [putT, hE]; rfl
        rw [hE, hT]
        have hB := Lib.hid hb
        clear hv hx hc hp ht hk0 hk hu hb hE hT
        go_enter Try.func58, Try.ntmps58
        go_wp2_with fail
        refine h1.out.mono ?_
        rintro e w' ⟨rfl, rfl⟩
        rw [hc'.out]
        go_wp2_with fail
        refine h2.out.mono ?_
        rintro e w' ⟨rfl, rfl⟩
        rw [hp'.out]
        go_wp2_with fail
        refine h3.out.mono ?_
        rintro e w1 ⟨y, rfl, hy, hB1⟩
        go_wp2_with fail
        refine (Fits_big _ _ _ hy.any hB.out).mono ?_
        rintro e w' ⟨rfl, rfl⟩
        go_wp2_with fail
        go_ret2
        exact ⟨_, rfl, .nil _ _, hB1⟩
      · have hE : putE t n u = 0 := by rw [putE, if_neg (by simpa using hc), if_neg (by simpa using hp), Int.toNat_natCast, if_neg hb]
        have hT : putT t n u = puT t n u := by rw [putT, hE, if_pos rfl, Int.toNat_natCast]
        rw [hE, hT]
        have hB : Hid ((puT t n u).length ≤ 30) := by show _ ≤ _; omega
        clear hv hx hc hp ht hk0 hk hu hb hE hT
        go_enter Try.func58, Try.ntmps58
        go_wp2_with fail
        refine h1.out.mono ?_
        rintro e w' ⟨rfl, rfl⟩
        rw [hc'.out]
        go_wp2_with fail
        refine h2.out.mono ?_
        rintro e w' ⟨rfl, rfl⟩
        rw [hp'.out]
        go_wp2_with fail
        refine h3.out.mono ?_
        rintro e w1 ⟨y, rfl, hy, hB1⟩
        go_wp2_with fail
        refine (Fits_ok _ _ _ hy.any hB.out).mono ?_
        rintro e w' ⟨rfl, rfl⟩
        go_wp2_with fail
        go_ret2
        exact ⟨_, rfl, hy, hB1⟩
    · have hE : putE t k u = plc t k := by rw [putE, if_neg (by simpa using hc), if_pos hp]
      have hT : putT t k u = [] := by rw [putT, hE, if_neg hp]
      have h' : (plc t k != 0) = true := by simpa using hp
      have hc' := Lib.hid hc
      rw [hE, hT]
      clear hv hx hc hp hE hT
      go_enter Try.func58, Try.ntmps58
      go_wp2_with fail
      refine h1.out.mono ?_
      rintro e w' ⟨rfl, rfl⟩
      rw [hc'.out]
      go_wp2_with fail
      refine h2.out.mono ?_
      rintro e w' ⟨rfl, rfl⟩
      clear h1 h2
      go_wp2_with fail
      go_ret2
      exact ⟨_, rfl, .nil _ _, .refl _ _⟩
  · have hE : putE t k u = chk2 t u := by rw [putE, if_pos hc]
    have hT : putT t k u = [] := by rw [putT, hE, if_neg hc]
    have h' : (chk2 t u != 0) = true := by simpa using hc
    rw [hE, hT]
    clear hv hx hc hE hT h2
    go_enter Try.func58, Try.ntmps58
    go_wp2_with fail
    refine h1.out.mono ?_
    rintro e w' ⟨rfl, rfl⟩
    clear h1
    go_wp2_with fail
    go_ret2
    exact ⟨_, rfl, .nil _ _, .refl _ _⟩

end Go.Proofs.Ytepddehodmljeaa

namespace Go.Proofs.Ytepddehodmljeaa
open Go.RowKit Go.Maps

/-- A tree: a box of a sign and a slice of trees. -/
def IsTree (S : Blk) (w : World) : Tm → Value → Prop
  | .leaf s, v => ∃ B, v = .pointer (some ⟨B, 0, none⟩) ∧ S B ∧ B < w.heap.size ∧ w.cell? ⟨B, 0, none⟩ = some (.int .i64 s) ∧ w.cell? ⟨B, 1, none⟩ = some (.slice none 0 0)
  | .un s a, v => ∃ B g c u, v = .pointer (some ⟨B, 0, none⟩) ∧ S B ∧ B < w.heap.size ∧ w.cell? ⟨B, 0, none⟩ = some (.int .i64 s) ∧ w.cell? ⟨B, 1, none⟩ = some (.slice (some ⟨g, 0, none⟩) 1 c) ∧
      S g ∧ g < w.heap.size ∧ w.cell? ⟨g, 0, none⟩ = some u ∧ IsTree S w a u
  | .bin s a b, v => ∃ B g c u u', v = .pointer (some ⟨B, 0, none⟩) ∧ S B ∧ B < w.heap.size ∧ w.cell? ⟨B, 0, none⟩ = some (.int .i64 s) ∧ w.cell? ⟨B, 1, none⟩ = some (.slice (some ⟨g, 0, none⟩) 2 c) ∧
      S g ∧ g < w.heap.size ∧ w.cell? ⟨g, 0, none⟩ = some u ∧ w.cell? ⟨g, 1, none⟩ = some u' ∧ IsTree S w a u ∧ IsTree S w b u'

theorem sok_cell {S S' : Blk} {w w' : World} (h : Sok S S' w w') {b o : Nat} (hs : S b) (hb : b < w.heap.size) : w'.cell? ⟨b, o, none⟩ = w.cell? ⟨b, o, none⟩ :=
  World.cell?_of_block (w := w) (h.2 b hs hb).2

theorem IsTree.mono {S S' : Blk} {w w' : World} (hk : Sok S S' w w') : ∀ {x : Tm} {v : Value}, IsTree S w x v → IsTree S' w' x v
  | .leaf s, v, ⟨B, h1, h2, h3, h4, h5⟩ => ⟨B, h1, (hk.2 B h2 h3).1, Nat.lt_of_lt_of_le h3 hk.1, by rw [sok_cell hk h2 h3]; exact h4, by rw [sok_cell hk h2 h3]; exact h5⟩
  | .un s a, v, ⟨B, g, c, u, h1, h2, h3, h4, h5, h6, h7, h8, h9⟩ =>
    ⟨B, g, c, u, h1, (hk.2 B h2 h3).1, Nat.lt_of_lt_of_le h3 hk.1, by rw [sok_cell hk h2 h3]; exact h4, by rw [sok_cell hk h2 h3]; exact h5, (hk.2 g h6 h7).1, Nat.lt_of_lt_of_le h7 hk.1, by rw [sok_cell hk h6 h7]; exact h8, h9.mono hk⟩
  | .bin s a b, v, ⟨B, g, c, u, u', h1, h2, h3, h4, h5, h6, h7, h8, h9, h10, h11⟩ =>
    ⟨B, g, c, u, u', h1, (hk.2 B h2 h3).1, Nat.lt_of_lt_of_le h3 hk.1, by rw [sok_cell hk h2 h3]; exact h4, by rw [sok_cell hk h2 h3]; exact h5, (hk.2 g h6 h7).1, Nat.lt_of_lt_of_le h7 hk.1, by rw [sok_cell hk h6 h7]; exact h8, by rw [sok_cell hk h6 h7]; exact h9, h10.mono hk, h11.mono hk⟩

/-- One cell that holds a tree. -/
def TreeR : Rep Tm := fun S w us x => ∃ u, us = [u] ∧ IsTree S w x u
theorem TreeR.ok : Rep.Ok TreeR := fun _ _ _ _ _ _ ⟨u, h, k⟩ hk => ⟨u, h, k.mono hk⟩

theorem Try.inf155 : (Try.prog.info? 155).map (fun i => (i.zero, i.size, i.bytes)) = some (some (.pointer none), 1, 8) := by kernel_rfl
theorem Try.inf202 : (Try.prog.info? 202).map (fun i => (i.zero, i.size, i.bytes)) = some (some (.slice none 0 0), 1, 24) := by kernel_rfl

/-- A row of trees of the call's own, read. -/
theorem own_one {base : Nat} {S : Blk} {w : World} {v : Value} {a : Tm} (h : OwnRow base 155 1 TreeR S w v [a]) :
    ∃ g c u, v = .slice (some ⟨g, 0, none⟩) 1 c ∧ base ≤ g ∧ g < w.heap.size ∧ w.cell? ⟨g, 0, none⟩ = some u ∧ IsTree S w a u := by
  obtain ⟨g, c, cur, rfl, hb, hg, -⟩ := h.at (by simp)
  obtain ⟨⟨u, h1, u', h2, h3⟩, -⟩ := h.cell (k := 0) (by simp)
  simp at h2
  subst h2
  exact ⟨g, c, u, rfl, hb, lt_of_block hg, h1, h3.mono (.weak fun b h => h.1)⟩
theorem own_two {base : Nat} {S : Blk} {w : World} {v : Value} {a b : Tm} (h : OwnRow base 155 1 TreeR S w v [a, b]) :
    ∃ g c u u', v = .slice (some ⟨g, 0, none⟩) 2 c ∧ base ≤ g ∧ g < w.heap.size ∧ w.cell? ⟨g, 0, none⟩ = some u ∧ w.cell? ⟨g, 1, none⟩ = some u' ∧ IsTree S w a u ∧ IsTree S w b u' := by
  obtain ⟨g, c, cur, rfl, hb, hg, -⟩ := h.at (by simp)
  obtain ⟨⟨u, h1, u1, h2, h3⟩, -⟩ := h.cell (k := 0) (by simp)
  obtain ⟨⟨u', h4, u2, h5, h6⟩, -⟩ := h.cell (k := 1) (by simp)
  simp at h2 h5
  subst h2; subst h5
  exact ⟨g, c, u, u', rfl, hb, lt_of_block hg, h1, h4, h3.mono (.weak fun b h => h.1), h6.mono (.weak fun b h => h.1)⟩

end Go.Proofs.Ytepddehodmljeaa

namespace Go.Proofs.Ytepddehodmljeaa
open Go.RowKit Go.Maps

/-- Of S, and laid ahead of n. -/
def Low (S : Blk) (n : Nat) : Blk := fun b => S b ∧ b < n
theorem IsInts.low {S : Blk} {w : World} {v : Value} {t : List Int} (h : IsInts S w v t) : IsInts (Low S w.heap.size) w v t := h.mono ⟨Nat.le_refl _, fun _ hs hb => ⟨⟨hs, hb⟩, rfl⟩⟩

/-- What is behind the first sign. -/
theorem rest_one {S : Blk} {w : World} {b o : Nat} {s : Int} {r : List Int} (h : IsInts S w (.slice (some ⟨b, o, none⟩) (r.length + 1) 1) (s :: r)) : r = [] ∧ IsInts S w (.slice (some ⟨b, o, none⟩) r.length 0) r := by
  obtain ⟨hlen, ⟨h, -⟩ | ⟨-, b', o', c', e, hcap, -⟩⟩ := h
  · cases h
  cases e
  have : r = [] := List.eq_nil_of_length_eq_zero (by simp at hcap; simp [hcap])
  subst this
  exact ⟨rfl, by simp, .inl ⟨rfl, _, 0, rfl, by simp⟩⟩
theorem rest_more {S : Blk} {w : World} {b o c : Nat} {s : Int} {r : List Int} (h : IsInts S w (.slice (some ⟨b, o, none⟩) (r.length + 1) c) (s :: r)) : IsInts S w (.slice (some ⟨b, o + 1, none⟩) r.length (c - 1)) r := by
  obtain ⟨hlen, ⟨h, -⟩ | ⟨-, b', o', c', e, hcap, hS, hlt, hc⟩⟩ := h
  · cases h
  cases e
  simp only [List.length_cons] at hlen hcap
  refine ⟨by omega, ?_⟩
  by_cases hr : r = []
  · subst hr; exact .inl ⟨rfl, _, _, rfl, by simp⟩
  · exact .inr ⟨hr, b, o + 1, c - 1, rfl, by omega, hS, hlt, fun j hj => by
      have := hc (j + 1) (by simp; omega)
      rw [nth_cons_succ] at this
      rw [← this, Nat.add_assoc, Nat.add_comm 1 j]⟩

set_option maxRecDepth 100000 in
theorem grown_leaf (s : Int) (r : List Int) (hs : ar s = 0) (S : Blk) (v : Value) (w : World) (hv : IsInts S w v (s :: r)) :
    Calls Try.prog 174 #[v] w fun e w' => ∃ p q, e = .returned (.tuple #[p, q]) ∧ IsTree (Fr w.heap.size) w' (.leaf s) p ∧ IsInts (Low S w.heap.size) w' q r ∧ Below w.heap.size w w' := by
  have hv0 := hv
  obtain ⟨hlen, ⟨h, -⟩ | ⟨-, b, o, c, rfl, hcap, hS, hlt, hc⟩⟩ := hv
  · cases h
  have hcell : w.cell? ⟨b, o, none⟩ = some (.int .i64 s) := hc 0 (by simp)
  have hz : (ar s : Int) ≤ 0 := by rw [hs]; exact Int.le_refl _
  have h1c : (1 : Int) ≤ c := by simp at hcap; omega
  have h1n : 1 ≤ c := by simp at hcap; omega
  clear hc hs
  by_cases h1 : c = 1
  · subst h1
    obtain ⟨rfl, hr⟩ := rest_one hv0
    have hR := Lib.hid hr.low
    clear hv0 hr
    go_enter Try.func174, Try.ntmps174
    go_wp2_with fail
    refine wp_loop_rounds 1 ?_
    rw [rounds_succ]
    go_wp2_with (go_at_call 123; refine (rsize_calls _ _).mono ?_; rintro e w' ⟨rfl, rfl⟩)
    go_ret2
    exact ⟨_, _, rfl, ⟨w.heap.size, rfl, Nat.le_refl _, by simp, by simp [go_sem], by simp [go_sem]⟩, hR.out.below (below_alloc _ _), below_alloc _ _⟩
  · have hr := rest_more hv0
    have hR := Lib.hid hr.low
    clear hv0 hr
    have h2c : (1 : Int) < c := by omega
    have h2n : 1 < c := by omega
    go_enter Try.func174, Try.ntmps174
    go_wp2_with fail
    refine wp_loop_rounds 1 ?_
    rw [rounds_succ]
    go_wp2_with (go_at_call 123; refine (rsize_calls _ _).mono ?_; rintro e w' ⟨rfl, rfl⟩)
    go_ret2
    exact ⟨_, _, rfl, ⟨w.heap.size, rfl, Nat.le_refl _, by simp, by simp [go_sem], by simp [go_sem]⟩, hR.out.below (below_alloc _ _), below_alloc _ _⟩

/-- A box of a tree in the making: the sign, and the parts so far. -/
def MakeTree (w : World) (s : Int) (ps : List Tm) (W : World) : Prop :=
  ∃ v, W.ownsRow w.heap.size 204 1 (.slice (some ⟨w.heap.size, 0, none⟩) 2 2) 2 [.int .i64 s, v] ∧ OwnRow (w.heap.size + 1) 155 1 TreeR (Fr (w.heap.size + 1)) W v ps ∧ Below w.heap.size w W ∧ w.heap.size < W.heap.size

theorem MakeTree.start (w : World) (s : Int) : MakeTree w s [] (w.alloc (.cells #[.int .i64 s, .slice none 0 0] 204)) :=
  ⟨.slice none 0 0, ⟨rfl, .inr ⟨_, 2, #[.int .i64 s, .slice none 0 0], rfl, Nat.le_refl _, (Array.getElem?_push_size), Nat.le_refl _, by simp [maxLen], rfl, rfl⟩⟩, OwnRow.nil _ _ _ _, below_alloc _ _, by simp⟩
theorem MakeTree.below {w W W' : World} {s : Int} {ps : List Tm} (h : MakeTree w s ps W) (hb : Below W.heap.size W W') : MakeTree w s ps W' := by
  obtain ⟨v, h1, h2, h3, h4⟩ := h
  exact ⟨v, ownsRow_keep h1 fun k hk => hb.block k (h1.lt k hk).2, h2.below TreeR.ok hb, ext_trans h3 hb, Nat.lt_of_lt_of_le h4 hb.size⟩

theorem MakeTree.appended {w W1 W2 W3 : World} {s : Int} {ps : List Tm} {a : Tm} {v' : Value} (h3 : Below w.heap.size w W1)
    (h4 : w.heap.size < W1.heap.size) (hO : OwnRow (w.heap.size + 1) 155 1 TreeR (Fr (w.heap.size + 1)) W2 v' (ps ++ [a])) (hB : Below (w.heap.size + 1) W1 W2)
    (hR : W3.ownsRow w.heap.size 204 1 (.slice (some ⟨w.heap.size, 0, none⟩) 2 2) 2 [.int .i64 s, v']) (hG : W2.grownBy W3 (some w.heap.size)) : MakeTree w s (ps ++ [a]) W3 := by
  have hz := hB.size
  have hz3 := hG.size
  refine ⟨v', hR, ?_, ?_, by omega⟩
  · refine hO.mono TreeR.ok ⟨hG.size, fun b hb hl => ⟨hb, hG.block b hl fun e => ?_⟩⟩ fun k hk => hG.block k (hO.block k hk).2 fun e => ?_
    · cases e; have : w.heap.size + 1 ≤ w.heap.size := hb; omega
    · cases e; have := (hO.block _ hk).1; omega
  · exact (h3.trans (hB.mono (by omega))).trans ⟨hG.os, hG.tape, hG.output, hG.size, fun k hk => hG.block k (by omega) fun e => by cases e; omega⟩

theorem tree_ptr {S : Blk} {w : World} {x : Tm} {v : Value} (h : IsTree S w x v) : ∃ B, v = .pointer (some ⟨B, 0, none⟩) := by
  cases x with
  | leaf s => obtain ⟨B, h, _⟩ := h; exact ⟨B, h⟩
  | un s a => obtain ⟨B, _, _, _, h, _⟩ := h; exact ⟨B, h⟩
  | bin s a b => obtain ⟨B, _, _, _, _, h, _⟩ := h; exact ⟨B, h⟩
theorem OwnRow.slice {α : Type} {R : Rep α} {base : Nat} {e : TypeId} {sz : Nat} {S : Blk} {w : World} {v : Value} {xs : List α} (h : OwnRow base e sz R S w v xs) : ∃ a c, v = .slice a xs.length c := by
  obtain ⟨cs, he, h1, ⟨hx, h0⟩ | ⟨g, cap, cur, hv, _⟩⟩ := h
  · exact ⟨none, 0, by rw [h0]; exact hx⟩
  · exact ⟨_, cap, hv⟩

theorem MakeTree.cell {w W : World} {s : Int} {ps : List Tm} (h : MakeTree w s ps W) : W.cell? ⟨w.heap.size, 0, none⟩ = some (.int .i64 s) := by
  obtain ⟨v, h1, -⟩ := h
  rw [h1.cellAt 0 (by omega)]; rfl
theorem MakeTree.low {w W : World} {s : Int} {ps : List Tm} (h : MakeTree w s ps W) : Below w.heap.size w W := by
  obtain ⟨v, -, -, h, -⟩ := h; exact h
theorem MakeTree.un {w W : World} {s : Int} {a : Tm} (h : MakeTree w s [a] W) : IsTree (Fr w.heap.size) W (.un s a) (.pointer (some ⟨w.heap.size, 0, none⟩)) := by
  have hc := h.cell
  obtain ⟨v, h1, h2, h3, h4⟩ := h
  obtain ⟨g, c, u, rfl, hg, hgl, hcu, ht⟩ := own_one h2
  exact ⟨w.heap.size, g, c, u, rfl, Nat.le_refl _, h4, hc, by rw [h1.cellAt 1 (by omega)]; rfl, by show w.heap.size ≤ g; omega, hgl, hcu, ht.mono (.weak fun b hb => by have : w.heap.size + 1 ≤ b := hb; show w.heap.size ≤ b; omega)⟩
theorem MakeTree.bin {w W : World} {s : Int} {a b : Tm} (h : MakeTree w s [a, b] W) : IsTree (Fr w.heap.size) W (.bin s a b) (.pointer (some ⟨w.heap.size, 0, none⟩)) := by
  have hc := h.cell
  obtain ⟨v, h1, h2, h3, h4⟩ := h
  obtain ⟨g, c, u, u', rfl, hg, hgl, hcu, hcu', ht, ht'⟩ := own_two h2
  exact ⟨w.heap.size, g, c, u, u', rfl, Nat.le_refl _, h4, hc, by rw [h1.cellAt 1 (by omega)]; rfl, by show w.heap.size ≤ g; omega, hgl, hcu, hcu', ht.mono (.weak fun b hb => by have : w.heap.size + 1 ≤ b := hb; show w.heap.size ≤ b; omega), ht'.mono (.weak fun b hb => by have : w.heap.size + 1 ≤ b := hb; show w.heap.size ≤ b; omega)⟩

/-- The next part, as it came. -/
theorem MakeTree.room {w W W1 : World} {s : Int} {ps : List Tm} {a : Tm} {p : Value} {n : Nat} (hn : ps.length = n) (h : MakeTree w s ps W) (hp : IsTree (Fr W.heap.size) W1 a p) (hb : Below W.heap.size W W1) :
    ∃ B v, p = .pointer (some ⟨B, 0, none⟩) ∧ (∃ ao c, v = .slice ao n c) ∧ W1.ownsRow w.heap.size 204 1 (.slice (some ⟨w.heap.size, 0, none⟩) 2 2) 2 [.int .i64 s, v] ∧ OwnRow (w.heap.size + 1) 155 1 TreeR (Fr (w.heap.size + 1)) W1 v ps ∧
      TreeR (Both' (Fr (w.heap.size + 1)) (Off v)) W1 [p] a ∧ Below w.heap.size w W1 ∧ w.heap.size < W1.heap.size ∧
      W1.cell? ⟨w.heap.size, 0, none⟩ = some (.int .i64 s) ∧ W1.cell? ⟨w.heap.size, 1, none⟩ = some v := by
  have h' := h
  obtain ⟨v, h1, h2, h3, h4⟩ := h
  have hz := hb.size
  have k1 : W1.ownsRow w.heap.size 204 1 (.slice (some ⟨w.heap.size, 0, none⟩) 2 2) 2 [.int .i64 s, v] := ownsRow_keep h1 fun k hk => hb.block k (h1.lt k hk).2
  obtain ⟨B, hpB⟩ := tree_ptr hp
  refine ⟨B, v, hpB, by rw [← hn]; exact h2.slice, k1, h2.below TreeR.ok hb, ⟨p, rfl, hp.mono (.weak fun b hbb => ⟨?_, fun e => ?_⟩)⟩, ext_trans h3 hb, by omega, by rw [k1.cellAt 0 (by omega)]; rfl, by rw [k1.cellAt 1 (by omega)]; rfl⟩
  · have : W.heap.size ≤ b := hbb; show w.heap.size + 1 ≤ b; omega
  · have : W.heap.size ≤ b := hbb
    have := (h2.block b e).2; omega

set_option maxRecDepth 100000 in
set_option maxHeartbeats 200000 in
theorem grown_un (s : Int) (a : Tm) (r : List Int) (hs : ar s = 1) (S : Blk) (v : Value) (w : World) (hv : IsInts S w v (s :: (a.flat ++ r)))
    (ih : ∀ (S : Blk) (v : Value) (w : World), IsInts S w v (a.flat ++ r) → Calls Try.prog 174 #[v] w fun e w' => ∃ p q, e = .returned (.tuple #[p, q]) ∧ IsTree (Fr w.heap.size) w' a p ∧ IsInts (Low S w.heap.size) w' q r ∧ Below w.heap.size w w') :
    Calls Try.prog 174 #[v] w fun e w' => ∃ p q, e = .returned (.tuple #[p, q]) ∧ IsTree (Fr w.heap.size) w' (.un s a) p ∧ IsInts (Low S w.heap.size) w' q r ∧ Below w.heap.size w w' := by
  obtain ⟨i155, hi, hz, hsz, hby⟩ := info_parts Try.inf155
  obtain ⟨i202, hi2, hz2, hsz2, hby2⟩ := info_parts Try.inf202
  have hpos : 0 < (a.flat ++ r).length := by have := flat_ne a; cases h : a.flat; exact absurd h this; simp
  generalize a.flat ++ r = l at *
  have hv0 := hv
  obtain ⟨hlen, ⟨h, -⟩ | ⟨-, b, o, c, rfl, hcap, hS, hlt, hc⟩⟩ := hv
  · cases h
  have hcell : w.cell? ⟨b, o, none⟩ = some (.int .i64 s) := hc 0 (by simp)
  have h2n : 1 < c := by simp only [List.length_cons] at hcap; omega
  have h2c : (1 : Int) < c := by omega
  have hq := rest_more hv0
  have hQ := Lib.hid hq.low
  have hA1 := Lib.hid hs
  have hI := Lib.hid ih
  have hM0 := Lib.hid (MakeTree.start w s)
  clear hc hv0 hq hs ih hcap
  go_enter Try.func174, Try.ntmps174
  go_wp2_with fail
  refine wp_loop_rounds 2 ?_
  rw [rounds_succ]
  go_wp2_with (go_at_call 123; refine (rsize_calls _ _).mono ?_; rintro e w' ⟨rfl, rfl⟩; rw [hA1.out])
  have hcall := hI.out _ _ _ (hQ.out.below (below_alloc w (.cells #[.int .i64 s, .slice none 0 0] 204)))
  refine hcall.mono ?_
  rintro e w1 ⟨p, q, rfl, ht, hq1, hB1⟩
  obtain ⟨B, v1, rfl, ⟨ao, c1, rfl⟩, k1, k2, k3, k4, k5, k6, k7⟩ := hM0.out.room (n := 0) rfl ht hB1
  have K1 := Lib.hid k1
  have K2 := Lib.hid k2
  have K3 := Lib.hid k3
  have K4 := Lib.hid k4
  have HQ1 := Lib.hid hq1
  clear k1 k2 k3 k4 hq1 ht hM0
  go_wp2_with (first
    | (at_builtin; refine app_one TreeR.ok _ _ 202 rfl rfl (w.heap.size + 1) 155 i155 (.pointer none) 8 Try.underlying202 hi hz hsz hby rfl (by decide) K2.out (us := [.pointer (some ⟨B, 0, none⟩)]) (y := a) rfl rfl rfl ?c1 K3.out ?c2 (by decide) ?c3 ?_; rotate_left 3; intro v2 w2 hown2 hb2 hk2 _; obtain ⟨ao2, c2, rfl⟩ := hown2.slice)
    | ((with_reducible show wpList _ _ _ (Oper.mk none (Op.store _ _ _) _ _ _ _ :: _) _ _); refine store_own _ _ 202 rfl rfl rfl i202 hi2 hsz2 w.heap.size 204 w.heap.size 1 2 2 _ rfl (ownsRow_keep K1.out ?d1) ?d2 rfl ?_; rotate_left 2; intro w3 hR3 hG3 hz3))
  case c1 => intro u hu; simp at hu; subst hu; rfl
  case c2 => simp
  case c3 => omega
  case d1 => intro k hk; simp [Value.ownBlock] at hk; subst hk; exact hb2.block _ (Nat.lt_succ_self _)
  case d2 => omega
  have hM3 : Hid (MakeTree w s [a] w3) := MakeTree.appended K4.out k5 hown2 hb2 hR3 hG3
  have hc3 := hM3.out.cell
  have hQ3 : Hid (IsInts (Low S w.heap.size) w3 q r) := by
    refine HQ1.out.mono ⟨by have := hb2.size; omega, fun b hb hl => ⟨⟨hb.1.1, hb.1.2⟩, ?_⟩⟩
    have hbl : b < w.heap.size := hb.1.2
    rw [hG3.block b (by have := hb2.size; omega) (fun e => by cases e; omega), hb2.block b (by omega)]
  clear hown2 hR3 K1 K2 K3 k6 k7
  rw [rounds_succ]
  go_wp2_with (go_at_call 123; refine (rsize_calls _ _).mono ?_; rintro e w' ⟨rfl, rfl⟩; rw [hA1.out])
  go_ret2
  exact ⟨_, _, rfl, hM3.out.un, hQ3.out, hM3.out.low⟩

set_option maxRecDepth 100000 in
set_option maxHeartbeats 200000 in
theorem grown_bin (s : Int) (a a' : Tm) (r : List Int) (hs : ar s = 2) (S : Blk) (v : Value) (w : World) (hv : IsInts S w v (s :: (a.flat ++ (a'.flat ++ r))))
    (ih : ∀ (S : Blk) (v : Value) (w : World), IsInts S w v (a.flat ++ (a'.flat ++ r)) → Calls Try.prog 174 #[v] w fun e w' => ∃ p q, e = .returned (.tuple #[p, q]) ∧ IsTree (Fr w.heap.size) w' a p ∧ IsInts (Low S w.heap.size) w' q (a'.flat ++ r) ∧ Below w.heap.size w w')
    (ih' : ∀ (S : Blk) (v : Value) (w : World), IsInts S w v (a'.flat ++ r) → Calls Try.prog 174 #[v] w fun e w' => ∃ p q, e = .returned (.tuple #[p, q]) ∧ IsTree (Fr w.heap.size) w' a' p ∧ IsInts (Low S w.heap.size) w' q r ∧ Below w.heap.size w w') :
    Calls Try.prog 174 #[v] w fun e w' => ∃ p q, e = .returned (.tuple #[p, q]) ∧ IsTree (Fr w.heap.size) w' (.bin s a a') p ∧ IsInts (Low S w.heap.size) w' q r ∧ Below w.heap.size w w' := by
  obtain ⟨i155, hi, hz, hsz, hby⟩ := info_parts Try.inf155
  obtain ⟨i202, hi2, hz2, hsz2, hby2⟩ := info_parts Try.inf202
  have hpos : 0 < (a.flat ++ (a'.flat ++ r)).length := by have := flat_ne a; cases h : a.flat; exact absurd h this; simp
  generalize a'.flat ++ r = l' at *
  generalize a.flat ++ l' = l at *
  have hv0 := hv
  obtain ⟨hlen, ⟨h, -⟩ | ⟨-, b, o, c, rfl, hcap, hS, hlt, hc⟩⟩ := hv
  · cases h
  have hcell : w.cell? ⟨b, o, none⟩ = some (.int .i64 s) := hc 0 (by simp)
  have h2n : 1 < c := by simp only [List.length_cons] at hcap; omega
  have h2c : (1 : Int) < c := by omega
  have hq := rest_more hv0
  have hQ := Lib.hid hq.low
  have hA1 := Lib.hid hs
  have hI := Lib.hid ih
  have hI' := Lib.hid ih'
  have hM0 := Lib.hid (MakeTree.start w s)
  clear hc hv0 hq hs ih ih' hcap
  go_enter Try.func174, Try.ntmps174
  go_wp2_with fail
  refine wp_loop_rounds 3 ?_
  rw [rounds_succ]
  go_wp2_with (go_at_call 123; refine (rsize_calls _ _).mono ?_; rintro e w' ⟨rfl, rfl⟩; rw [hA1.out])
  have hcall := hI.out _ _ _ (hQ.out.below (below_alloc w (.cells #[.int .i64 s, .slice none 0 0] 204)))
  refine hcall.mono ?_
  rintro e w1 ⟨p, q, rfl, ht, hq1, hB1⟩
  obtain ⟨B, v1, rfl, ⟨ao, c1, rfl⟩, k1, k2, k3, k4, k5, k6, k7⟩ := hM0.out.room (n := 0) rfl ht hB1
  have K1 := Lib.hid k1
  have K2 := Lib.hid k2
  have K3 := Lib.hid k3
  have K4 := Lib.hid k4
  have HQ1 := Lib.hid hq1
  clear k1 k2 k3 k4 hq1 ht hM0
  go_wp2_with (first
    | (at_builtin; refine app_one TreeR.ok _ _ 202 rfl rfl (w.heap.size + 1) 155 i155 (.pointer none) 8 Try.underlying202 hi hz hsz hby rfl (by decide) K2.out (us := [.pointer (some ⟨B, 0, none⟩)]) (y := a) rfl rfl rfl ?c1 K3.out ?c2 (by decide) ?c3 ?_; rotate_left 3; intro v2 w2 hown2 hb2 hk2 _; obtain ⟨ao2, c2, rfl⟩ := hown2.slice)
    | ((with_reducible show wpList _ _ _ (Oper.mk none (Op.store _ _ _) _ _ _ _ :: _) _ _); refine store_own _ _ 202 rfl rfl rfl i202 hi2 hsz2 w.heap.size 204 w.heap.size 1 2 2 _ rfl (ownsRow_keep K1.out ?d1) ?d2 rfl ?_; rotate_left 2; intro w3 hR3 hG3 hz3))
  case c1 => intro u hu; simp at hu; subst hu; rfl
  case c2 => simp
  case c3 => omega
  case d1 => intro k hk; simp [Value.ownBlock] at hk; subst hk; exact hb2.block _ (Nat.lt_succ_self _)
  case d2 => omega
  have hM3 : Hid (MakeTree w s [a] w3) := MakeTree.appended K4.out k5 hown2 hb2 hR3 hG3
  have hc3 := hM3.out.cell
  have hQ3 : Hid (IsInts (Low S w.heap.size) w3 q l') := by
    refine HQ1.out.mono ⟨by have := hb2.size; omega, fun b hb hl => ⟨⟨hb.1.1, hb.1.2⟩, ?_⟩⟩
    have hbl : b < w.heap.size := hb.1.2
    rw [hG3.block b (by have := hb2.size; omega) (fun e => by cases e; omega), hb2.block b (by omega)]
  have hz3 : w.heap.size < w3.heap.size := by have := hb2.size; have := hG3.size; omega
  clear hown2 hR3 K1 K2 K3 k6 k7 hG3 hb2 hk2 hcall HQ1 K4
  rw [rounds_succ]
  go_wp2_with (go_at_call 123; refine (rsize_calls _ _).mono ?_; rintro e w' ⟨rfl, rfl⟩; rw [hA1.out])
  refine (hI'.out _ _ _ hQ3.out).mono ?_
  rintro e w4 ⟨p, q', rfl, ht, hq1, hB1⟩
  obtain ⟨B', v1, rfl, ⟨ao, c1, rfl⟩, k1, k2, k3, k4, k5, k6, k7⟩ := hM3.out.room (n := 1) rfl ht hB1
  have K1 := Lib.hid k1
  have K2 := Lib.hid k2
  have K3 := Lib.hid k3
  have K4 := Lib.hid k4
  have HQ1 := Lib.hid hq1
  clear k1 k2 k3 k4 hq1 ht hM3 hc3
  go_wp2_with (first
    | (at_builtin; refine app_one TreeR.ok _ _ 202 rfl rfl (w.heap.size + 1) 155 i155 (.pointer none) 8 Try.underlying202 hi hz hsz hby rfl (by decide) K2.out (us := [.pointer (some ⟨B', 0, none⟩)]) (y := a') rfl rfl rfl ?e1 K3.out ?e2 (by decide) ?e3 ?_; rotate_left 3; intro v5 w5 hown2 hb2 hk2 _; obtain ⟨ao5, c5, rfl⟩ := hown2.slice)
    | ((with_reducible show wpList _ _ _ (Oper.mk none (Op.store _ _ _) _ _ _ _ :: _) _ _); refine store_own _ _ 202 rfl rfl rfl i202 hi2 hsz2 w.heap.size 204 w.heap.size 1 2 2 _ rfl (ownsRow_keep K1.out ?f1) ?f2 rfl ?_; rotate_left 2; intro w6 hR3 hG3 hz6))
  case e1 => intro u hu; simp at hu; subst hu; rfl
  case e2 => simp
  case e3 => omega
  case f1 => intro k hk; simp [Value.ownBlock] at hk; subst hk; exact hb2.block _ (Nat.lt_succ_self _)
  case f2 => omega
  have hM6 : Hid (MakeTree w s [a, a'] w6) := MakeTree.appended K4.out k5 hown2 hb2 hR3 hG3
  have hc6 := hM6.out.cell
  have hQ6 : Hid (IsInts (Low S w.heap.size) w6 q' r) := by
    refine HQ1.out.mono ⟨by have := hb2.size; omega, fun b hb hl => ⟨⟨hb.1.1, hb.1.2⟩, ?_⟩⟩
    have hbl : b < w.heap.size := hb.1.2
    rw [hG3.block b (by have := hb2.size; omega) (fun e => by cases e; omega), hb2.block b (by omega)]
  clear hown2 hR3 K1 K2 K3 k6 k7
  rw [rounds_succ]
  go_wp2_with (go_at_call 123; refine (rsize_calls _ _).mono ?_; rintro e w' ⟨rfl, rfl⟩; rw [hA1.out])
  go_ret2
  exact ⟨_, _, rfl, hM6.out.bin, hQ6.out, hM6.out.low⟩

/-- The tree that begins at a place, and what is behind. -/
theorem grown_calls : ∀ (x : Tm) (r : List Int), x.ok → ∀ (S : Blk) (v : Value) (w : World), IsInts S w v (x.flat ++ r) →
    Calls Try.prog 174 #[v] w fun e w' => ∃ p q, e = .returned (.tuple #[p, q]) ∧ IsTree (Fr w.heap.size) w' x p ∧ IsInts (Low S w.heap.size) w' q r ∧ Below w.heap.size w w'
  | .leaf s, r, hx, S, v, w, hv => grown_leaf s r hx S v w hv
  | .un s a, r, hx, S, v, w, hv => grown_un s a r hx.1 S v w hv fun S v w h => grown_calls a r hx.2 S v w h
  | .bin s a a', r, hx, S, v, w, hv => grown_bin s a a' r hx.1 S v w (by simpa [Tm.flat] using hv) (fun S v w h => grown_calls a _ hx.2.1 S v w h) fun S v w h => grown_calls a' r hx.2.2 S v w h

end Go.Proofs.Ytepddehodmljeaa

namespace Go.Proofs.Ytepddehodmljeaa
open Go.RowKit Go.Maps

theorem treeOf_calls (x : Tm) (hx : x.ok) (v : Value) (w : World) (hv : IsInts Any w v x.flat) :
    Calls Try.prog 147 #[v] w fun e w' => ∃ p, e = .returned p ∧ IsTree (Fr w.heap.size) w' x p ∧ Below w.heap.size w w' := by
  have h := Lib.hid (grown_calls x [] hx Any v w (by rwa [List.append_nil]))
  obtain ⟨a, c, rfl⟩ := hv.isSlice
  clear hv hx
  go_enter Try.func147, Try.ntmps147
  go_wp2_with fail
  refine h.out.mono ?_
  rintro e w1 ⟨p, q, rfl, ht, -, hB⟩
  go_wp2_with fail
  go_ret
  exact ⟨_, rfl, ht, hB⟩

/-- A literal's row is the call's own. -/
theorem lit_own (w : World) (base : Nat) (xs : List Value) (e : TypeId) (hb : base ≤ w.heap.size) (hl : xs.length ≤ 1000000) :
    (w.alloc (.cells xs.toArray e)).ownsRow base e 1 (.slice (some ⟨w.heap.size, 0, none⟩) xs.length xs.length) xs.length xs :=
  ⟨by simp, .inr ⟨_, xs.length, xs.toArray, rfl, hb, Array.getElem?_push_size, Nat.le_refl _, by simp only [maxLen]; omega, by simp, by simp⟩⟩
theorem IsTree.below {S : Blk} {w w' : World} {x : Tm} {v : Value} (h : IsTree S w x v) (hb : Below w.heap.size w w') : IsTree S w' x v := h.mono (.of_below hb)
theorem IsTree.any {S : Blk} {w : World} {x : Tm} {v : Value} (h : IsTree S w x v) : IsTree Any w x v := h.mono .toAny

set_option maxRecDepth 100000 in
theorem flat_leaf (s : Int) (v : Value) (w : World) (hv : IsTree Any w (.leaf s) v) :
    Calls Try.prog 170 #[v] w fun e w' => ∃ u, e = .returned u ∧ IsInts (Fr w.heap.size) w' u (Tm.leaf s).flat ∧ Below w.heap.size w w' := by
  obtain ⟨B, rfl, -, hBl, hc0, hc1⟩ := hv
  go_enter Try.func170, Try.ntmps170
  go_wp2_with fail
  refine wp_loop_rounds 1 ?_
  rw [rounds_succ]
  go_wp2_with fail
  go_ret
  exact ⟨_, rfl, ints_lit w w.heap.size [s] 3 (Nat.le_refl _) (by simp), below_alloc _ _⟩

set_option maxRecDepth 100000 in
set_option maxHeartbeats 1000000 in
theorem flat_un (s : Int) (a : Tm) (v : Value) (w : World) (hv : IsTree Any w (.un s a) v) (hl : (Tm.un s a).flat.length ≤ 1000)
    (ih : ∀ (v : Value) (w : World), IsTree Any w a v → Calls Try.prog 170 #[v] w fun e w' => ∃ u, e = .returned u ∧ IsInts (Fr w.heap.size) w' u a.flat ∧ Below w.heap.size w w') :
    Calls Try.prog 170 #[v] w fun e w' => ∃ u, e = .returned u ∧ IsInts (Fr w.heap.size) w' u (Tm.un s a).flat ∧ Below w.heap.size w w' := by
  obtain ⟨i3, hi, hz, hsz, hby⟩ := info_parts Try.inf3
  obtain ⟨B, g, c, u, rfl, -, hBl, hc0, hc1, -, hgl, hcu, ht⟩ := hv
  have hfl : (Tm.un s a).flat = s :: a.flat := rfl
  rw [hfl] at hl ⊢
  clear hfl
  have hL : a.flat.length ≤ 1000 := by simp at hl; omega
  generalize a.flat = l at *
  have hO0 : Hid ((w.alloc (.cells #[.int .i64 s] 3)).ownsRow w.heap.size 3 1 (.slice (some ⟨w.heap.size, 0, none⟩) 1 1) [s].length ([s].map (Value.int .i64))) := lit_own w w.heap.size [.int .i64 s] 3 (Nat.le_refl _) (by simp)
  have hcall := Lib.hid (ih u (w.alloc (.cells #[.int .i64 s] 3)) (ht.below (below_alloc _ _)))
  clear ih ht hl
  go_enter Try.func170, Try.ntmps170
  go_wp2_with fail
  refine wp_loop_rounds 2 ?_
  rw [rounds_succ]
  go_wp2_with fail
  refine hcall.out.mono ?_
  rintro e w1 ⟨y, rfl, hy, hB1⟩
  obtain ⟨ya, yc, rfl⟩ := hy.isSlice
  have hY := Lib.hid hy.any
  have hO1 := Lib.hid (ownsRow_keep hO0.out fun k hk => hB1.block k (hO0.out.lt k hk).2)
  have hBw := Lib.hid (ext_trans (below_alloc w _) hB1)
  have hs1 := hB1.size
  simp only [World.size_alloc] at hs1
  clear hy hB1
  go_wp2_with (at_builtin; refine app_ints _ _ 24 rfl rfl w.heap.size i3 Try.underlying24 hi hz hsz hby hO1.out hY.out ?c1 ?c2 ?c3; rotate_left 2; intro v' w2 hown2 hb2 hg2 _)
  case c1 => simp; omega
  case c2 => omega
  have hBw2 := Lib.hid (hBw.out.trans hb2)
  have hc1' : w2.cell? ⟨B, 1, none⟩ = some (.slice (some ⟨g, 0, none⟩) 1 c) := (hBw2.out.cell (p := ⟨B, 1, none⟩) hBl).trans hc1
  have hO2 := Lib.hid hown2
  clear hown2 hb2 hg2 hc1 hc0 hcu hcall hO0 hO1 hY
  rw [rounds_succ]
  go_wp2_with fail
  go_ret
  exact ⟨_, rfl, ints_of_own hO2.out (by simp; omega), hBw2.out⟩

set_option maxRecDepth 100000 in
set_option maxHeartbeats 1000000 in
theorem flat_bin (s : Int) (a a' : Tm) (v : Value) (w : World) (hv : IsTree Any w (.bin s a a') v) (hl : (Tm.bin s a a').flat.length ≤ 1000)
    (ih : ∀ (v : Value) (w : World), IsTree Any w a v → Calls Try.prog 170 #[v] w fun e w' => ∃ u, e = .returned u ∧ IsInts (Fr w.heap.size) w' u a.flat ∧ Below w.heap.size w w')
    (ih' : ∀ (v : Value) (w : World), IsTree Any w a' v → Calls Try.prog 170 #[v] w fun e w' => ∃ u, e = .returned u ∧ IsInts (Fr w.heap.size) w' u a'.flat ∧ Below w.heap.size w w') :
    Calls Try.prog 170 #[v] w fun e w' => ∃ u, e = .returned u ∧ IsInts (Fr w.heap.size) w' u (Tm.bin s a a').flat ∧ Below w.heap.size w w' := by
  obtain ⟨i3, hi, hz, hsz, hby⟩ := info_parts Try.inf3
  obtain ⟨B, g, c, u, u', rfl, -, hBl, hc0, hc1, -, hgl, hcu, hcu', ht, ht'⟩ := hv
  have hfl : (Tm.bin s a a').flat = s :: (a.flat ++ a'.flat) := rfl
  rw [hfl] at hl ⊢
  clear hfl
  have hL : a.flat.length + a'.flat.length ≤ 1000 := by simp at hl; omega
  generalize a.flat = l at *
  generalize a'.flat = l' at *
  have hO0 : Hid ((w.alloc (.cells #[.int .i64 s] 3)).ownsRow w.heap.size 3 1 (.slice (some ⟨w.heap.size, 0, none⟩) 1 1) [s].length ([s].map (Value.int .i64))) := lit_own w w.heap.size [.int .i64 s] 3 (Nat.le_refl _) (by simp)
  have hcall := Lib.hid (ih u (w.alloc (.cells #[.int .i64 s] 3)) (ht.below (below_alloc _ _)))
  have hcall' := Lib.hid fun W (hb : Below w.heap.size w W) => ih' u' W (ht'.below hb)
  clear ih ih' ht ht' hl
  go_enter Try.func170, Try.ntmps170
  go_wp2_with fail
  refine wp_loop_rounds 3 ?_
  rw [rounds_succ]
  go_wp2_with fail
  refine hcall.out.mono ?_
  rintro e w1 ⟨y, rfl, hy, hB1⟩
  obtain ⟨ya, yc, rfl⟩ := hy.isSlice
  have hY := Lib.hid hy.any
  have hO1 := Lib.hid (ownsRow_keep hO0.out fun k hk => hB1.block k (hO0.out.lt k hk).2)
  have hBw := Lib.hid (ext_trans (below_alloc w _) hB1)
  have hs1 := hB1.size
  simp only [World.size_alloc] at hs1
  clear hy hB1
  go_wp2_with (at_builtin; refine app_ints _ _ 24 rfl rfl w.heap.size i3 Try.underlying24 hi hz hsz hby hO1.out hY.out ?c1 ?c2 ?c3; rotate_left 2; intro v' w2 hown2 hb2 hg2 _)
  case c1 => simp; omega
  case c2 => omega
  have hBw2 := Lib.hid (hBw.out.trans hb2)
  have hd1 : w2.cell? ⟨B, 1, none⟩ = some (.slice (some ⟨g, 0, none⟩) 2 c) := (hBw2.out.cell (p := ⟨B, 1, none⟩) hBl).trans hc1
  have hdu : w2.cell? ⟨g, 1, none⟩ = some u' := (hBw2.out.cell (p := ⟨g, 1, none⟩) hgl).trans hcu'
  have hO2 := Lib.hid hown2
  have hs2 := hBw2.out.size
  clear hown2 hb2 hg2 hc0 hcu hcall hO0 hO1 hY hBw hs1
  rw [rounds_succ]
  go_wp2_with fail
  refine (hcall'.out _ hBw2.out).mono ?_
  rintro e w3 ⟨y, rfl, hy, hB1⟩
  obtain ⟨ya3, yc3, rfl⟩ := hy.isSlice
  have hY := Lib.hid hy.any
  have hO3 := Lib.hid (ownsRow_keep hO2.out fun k hk => hB1.block k (hO2.out.lt k hk).2)
  have hBw3 := Lib.hid (ext_trans hBw2.out hB1)
  have hs3 := hB1.size
  clear hy hB1 hO2 hd1 hdu
  go_wp2_with (at_builtin; refine app_ints _ _ 24 rfl rfl w.heap.size i3 Try.underlying24 hi hz hsz hby hO3.out hY.out ?e1 ?e2 ?e3; rotate_left 2; intro v4 w4 hown4 hb4 hg4 _)
  case e1 => simp; omega
  case e2 => omega
  have hBw4 := Lib.hid (hBw3.out.trans hb4)
  have hd1 : w4.cell? ⟨B, 1, none⟩ = some (.slice (some ⟨g, 0, none⟩) 2 c) := (hBw4.out.cell (p := ⟨B, 1, none⟩) hBl).trans hc1
  have hO4 := Lib.hid hown4
  clear hown4 hb4 hg4 hc1 hcu' hcall' hO3 hY hBw3 hBw2
  rw [rounds_succ]
  go_wp2_with fail
  go_ret
  refine ⟨_, rfl, ?_, hBw4.out⟩
  have := ints_of_own hO4.out (by simp; omega)
  simpa using this

/-- A tree as a list of signs. -/
theorem flat_calls : ∀ (x : Tm) (v : Value) (w : World), x.flat.length ≤ 1000 → IsTree Any w x v → Calls Try.prog 170 #[v] w fun e w' => ∃ u, e = .returned u ∧ IsInts (Fr w.heap.size) w' u x.flat ∧ Below w.heap.size w w'
  | .leaf s, v, w, _, h => flat_leaf s v w h
  | .un s a, v, w, hl, h => flat_un s a v w h hl fun v w h => flat_calls a v w (by simp [Tm.flat] at hl; omega) h
  | .bin s a a', v, w, hl, h => flat_bin s a a' v w h hl (fun v w h => flat_calls a v w (by simp [Tm.flat] at hl; omega) h) fun v w h => flat_calls a' v w (by simp [Tm.flat] at hl; omega) h

end Go.Proofs.Ytepddehodmljeaa
