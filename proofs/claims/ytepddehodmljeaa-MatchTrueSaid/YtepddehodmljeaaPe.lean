/- Plain: parts of a right term: where they end, what they are. No walk. -/
import Derived.Test.YtepddehodmljeaaPd
namespace Go.Proofs.Ytepddehodmljeaa

theorem need_some_at : ∀ (t : List Int) (m : Nat), need t m = some [] → ∀ k, k < t.length → ∃ r, need (t.drop k) 1 = some r
  | [], _, _, k, hk => by simp at hk
  | x :: t, 0, h, _, _ => by rw [need_zero] at h; cases h
  | x :: t, m + 1, h, 0, _ => by
    rw [need_succ] at h
    cases h1 : need (x :: t) 1 with
    | none => rw [h1] at h; cases h
    | some r => exact ⟨r, by rw [List.drop_zero, h1]⟩
  | x :: t, m + 1, h, k + 1, hk => by
    rw [need_cons_succ] at h
    exact need_some_at t _ h k (by simpa using hk)

theorem need_split : ∀ (l : List Int) (m : Nat) (r : List Int), need l m = some r → ∃ p, l = p ++ r ∧ need p m = some []
  | l, 0, r, h => by rw [need_zero] at h; cases h; exact ⟨[], rfl, rfl⟩
  | [], m + 1, r, h => by cases h
  | x :: l, m + 1, r, h => by
    rw [need_cons_succ] at h
    obtain ⟨p, rfl, hp⟩ := need_split l _ r h
    exact ⟨x :: p, rfl, by rw [need_cons_succ]; exact hp⟩

/-- Where the part that begins at k ends. -/
def enT (t : List Int) (k : Nat) : Nat := (skp t k).toNat
/-- The part that begins at k. -/
def paT (t : List Int) (k : Nat) : List Int := (t.drop k).take (enT t k - k)

theorem part_at {t : List Int} (h : chk t = 0) {k : Nat} (hk : k < t.length) :
    skp t k = (enT t k : Int) ∧ k < enT t k ∧ enT t k ≤ t.length ∧ need (paT t k) 1 = some [] ∧ t = t.take k ++ (paT t k ++ t.drop (enT t k)) := by
  obtain ⟨r, hr⟩ := need_some_at t 1 (need_of_chk h) k hk
  have hs : skp t k = (t.length : Int) - r.length := by
    unfold skp
    rw [if_pos ⟨by omega, by omega⟩, Int.toNat_natCast, hr]
  obtain ⟨p, hp, hpn⟩ := need_split _ _ _ hr
  have hl : (t.drop k).length = p.length + r.length := by rw [hp]; simp
  simp only [List.length_drop] at hl
  have hpl : 1 ≤ p.length := by
    cases p with
    | nil => rw [need_nil_succ] at hpn; cases hpn
    | cons => simp
  have he : enT t k = k + p.length := by unfold enT; rw [hs]; omega
  have hpa : paT t k = p := by
    unfold paT
    rw [he, hp, show k + p.length - k = p.length by omega, List.take_left]
  have hdr : t.drop (enT t k) = r := by
    rw [he, ← List.drop_drop, hp, List.drop_left]
  refine ⟨by rw [hs, he]; omega, by omega, by omega, by rw [hpa]; exact hpn, ?_⟩
  rw [hpa, hdr, ← hp, List.take_append_drop]

theorem paT_len {t : List Int} (h : chk t = 0) {k : Nat} (hk : k < t.length) : (paT t k).length = enT t k - k := by
  have := part_at h hk
  unfold paT
  rw [List.length_take, List.length_drop]; omega
theorem paT_signs {t : List Int} (h : Signs t) (k : Nat) : Signs (paT t k) := fun x hx => h x (List.drop_subset _ _ (List.take_subset _ _ hx))
theorem chk_paT {t : List Int} (h : chk t = 0) {k : Nat} (hk : k < t.length) : chk (paT t k) = 0 := by
  have h1 := part_at h hk
  have h2 := paT_len h hk
  exact chk_of (by have := len_of_chk h; omega) (paT_signs (signs_of_chk h) k) h1.2.2.2.1

/-- A part replaced. -/
def puT (t : List Int) (k : Nat) (u : List Int) : List Int := t.take k ++ (u ++ t.drop (enT t k))

theorem need_swap : ∀ (a : List Int) (m : Nat) (p q b : List Int), need p 1 = some [] → need q 1 = some [] → need (a ++ (p ++ b)) m = some [] → need (a ++ (q ++ b)) m = some []
  | [], 0, p, q, b, hp, _, h => by
    rw [List.nil_append, need_zero] at h
    cases p with
    | nil => cases hp
    | cons => cases h
  | [], m + 1, p, q, b, hp, hq, h => by
    rw [List.nil_append] at h ⊢
    rw [need_succ, need_append p 1 [] b hp] at h
    rw [need_succ, need_append q 1 [] b hq]
    exact h
  | x :: a, 0, p, q, b, _, _, h => by rw [need_zero] at h; cases h
  | x :: a, m + 1, p, q, b, hp, hq, h => by
    rw [List.cons_append, need_cons_succ] at h ⊢
    exact need_swap a _ p q b hp hq h

theorem puT_signs {t u : List Int} (ht : Signs t) (hu : Signs u) (k : Nat) : Signs (puT t k u) := fun x hx => by
  rcases List.mem_append.1 hx with h | h
  · exact ht x (List.take_subset _ _ h)
  · rcases List.mem_append.1 h with h | h
    · exact hu x h
    · exact ht x (List.drop_subset _ _ h)
theorem puT_need {t u : List Int} (ht : chk t = 0) (hu : chk u = 0) {k : Nat} (hk : k < t.length) : need (puT t k u) 1 = some [] := by
  have h := part_at ht hk
  refine need_swap (t.take k) 1 (paT t k) u _ h.2.2.2.1 (need_of_chk hu) ?_
  rw [← h.2.2.2.2]; exact need_of_chk ht
theorem chk_puT {t u : List Int} (ht : chk t = 0) (hu : chk u = 0) {k : Nat} (hk : k < t.length) (hl : (puT t k u).length ≤ 30) : chk (puT t k u) = 0 :=
  chk_of hl (puT_signs (signs_of_chk ht) (signs_of_chk hu) k) (puT_need ht hu hk)

/-- What was put there is there. -/
theorem enT_puT {t u : List Int} (hu : chk u = 0) {k : Nat} (hk : k < t.length) :
    enT (puT t k u) k = k + u.length ∧ paT (puT t k u) k = u := by
  have hd : (puT t k u).drop k = u ++ t.drop (enT t k) := by
    unfold puT
    rw [List.drop_append, List.drop_of_length_le (by simp; omega), List.nil_append, List.length_take, show k - min k t.length = 0 by omega, List.drop_zero]
  have hlen : (puT t k u).length = k + (u.length + (t.drop (enT t k)).length) := by
    unfold puT; rw [List.length_append, List.length_append, List.length_take]; omega
  have hu1 : 1 ≤ u.length := List.length_pos_iff.2 (ne_of_chk hu)
  have hs : skp (puT t k u) k = ((k + u.length : Nat) : Int) := by
    unfold skp
    rw [if_pos ⟨by omega, by omega⟩, Int.toNat_natCast, hd, need_append u 1 [] _ (need_of_chk hu)]
    simp only [List.nil_append]
    omega
  have he : enT (puT t k u) k = k + u.length := by unfold enT; rw [hs, Int.toNat_natCast]
  refine ⟨he, ?_⟩
  unfold paT
  rw [he, hd, show k + u.length - k = u.length by omega, List.take_left]

/-- Put back what stood there: the term it was. -/
theorem puT_back {t u : List Int} (ht : chk t = 0) (hu : chk u = 0) {k : Nat} (hk : k < t.length) : puT (puT t k u) k (paT t k) = t := by
  have h := part_at ht hk
  have hd : (puT t k u).drop (k + u.length) = t.drop (enT t k) := by
    unfold puT
    rw [← List.append_assoc, List.drop_left' (by rw [List.length_append, List.length_take]; omega)]
  have htk : (puT t k u).take k = t.take k := by
    unfold puT
    rw [List.take_left' (by rw [List.length_take]; omega)]
  rw [puT, (enT_puT hu hk).1, hd, htk]
  exact h.2.2.2.2.symm

end Go.Proofs.Ytepddehodmljeaa
