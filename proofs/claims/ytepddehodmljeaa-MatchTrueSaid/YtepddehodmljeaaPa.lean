/- Plain basics: signs, terms as lists of signs, what is one term. No program in sight. -/
namespace Go.Proofs.Ytepddehodmljeaa

/-- The j-th number of a list (0 beyond it). Not reducible: a walk never looks into it. -/
def nth (t : List Int) (j : Nat) : Int := t.getD j 0

theorem nth_eq {t : List Int} {j : Nat} (h : j < t.length) : nth t j = t[j] := by
  simp [nth, List.getD, List.getElem?_eq_getElem h]
theorem nth_cons_zero (x : Int) (t : List Int) : nth (x :: t) 0 = x := rfl
theorem nth_cons_succ (x : Int) (t : List Int) (j : Nat) : nth (x :: t) (j + 1) = nth t j := by simp [nth, List.getD]
theorem nth_drop (t : List Int) (k j : Nat) : nth (t.drop k) j = nth t (k + j) := by simp [nth, List.getD, List.getElem?_drop]
theorem nth_take {t : List Int} {k j : Nat} (h : j < k) : nth (t.take k) j = nth t j := by simp [nth, List.getD, h]
theorem nth_mem {t : List Int} {j : Nat} (h : j < t.length) : nth t j ∈ t := by rw [nth_eq h]; exact List.getElem_mem h
theorem drop_nth {t : List Int} {k : Nat} (h : k < t.length) : t.drop k = nth t k :: t.drop (k + 1) := by
  rw [nth_eq h]; exact List.drop_eq_getElem_cons h
theorem take_nth {t : List Int} {k : Nat} (h : k < t.length) : t.take (k + 1) = t.take k ++ [nth t k] := by
  rw [nth_eq h, List.take_succ_eq_append_getElem h]
theorem nth_append_left {s t : List Int} {j : Nat} (h : j < s.length) : nth (s ++ t) j = nth s j := by
  simp [nth, List.getD, List.getElem?_append, h]
theorem nth_append_right {s t : List Int} {j : Nat} (h : s.length ≤ j) : nth (s ++ t) j = nth t (j - s.length) := by
  simp [nth, List.getD, List.getElem?_append, Nat.not_lt.2 h]
theorem ext_nth {s t : List Int} (hl : s.length = t.length) (h : ∀ j, j < s.length → nth s j = nth t j) : s = t := by
  apply List.ext_getElem hl
  intro i h1 h2
  have := h i h1
  rwa [nth_eq h1, nth_eq h2] at this

/-- How many parts a sign has. -/
def ar (s : Int) : Nat := if s < 2 then 0 else if s < 4 then 1 else 2
theorem ar_le (s : Int) : ar s ≤ 2 := by unfold ar; split <;> (try split) <;> omega

/-- What is left of a list when m terms have been read. -/
def need : List Int → Nat → Option (List Int)
  | l, 0 => some l
  | [], _ + 1 => none
  | s :: l, m + 1 => need l (m + ar s)

theorem need_zero (l : List Int) : need l 0 = some l := by cases l <;> rfl
theorem need_nil_succ (m : Nat) : need [] (m + 1) = none := rfl
theorem need_cons_succ (s : Int) (l : List Int) (m : Nat) : need (s :: l) (m + 1) = need l (m + ar s) := rfl

theorem need_add (l : List Int) : ∀ a b, need l (a + b) = (need l a).bind fun r => need r b := by
  induction l with
  | nil =>
    intro a b
    cases a with
    | zero => simp [need_zero]
    | succ a => rw [show a + 1 + b = (a + b) + 1 by omega]; rfl
  | cons s l ih =>
    intro a b
    cases a with
    | zero => simp [need_zero]
    | succ a =>
      rw [show a + 1 + b = (a + b) + 1 by omega, need_cons_succ, need_cons_succ, show a + b + ar s = (a + ar s) + b by omega, ih]
theorem need_succ (l : List Int) (m : Nat) : need l (m + 1) = (need l 1).bind fun r => need r m := by
  rw [Nat.add_comm]; exact need_add l 1 m

/-- What is left is a tail. -/
theorem need_tail (l : List Int) : ∀ m r, need l m = some r → ∃ p, l = p ++ r ∧ m ≤ p.length := by
  induction l with
  | nil =>
    intro m r h
    cases m with
    | zero => rw [need_zero] at h; cases h; exact ⟨[], rfl, by simp⟩
    | succ m => cases h
  | cons s l ih =>
    intro m r h
    cases m with
    | zero => rw [need_zero] at h; cases h; exact ⟨[], rfl, by simp⟩
    | succ m =>
      rw [need_cons_succ] at h
      obtain ⟨p, rfl, hp⟩ := ih _ _ h
      exact ⟨s :: p, rfl, by simp; omega⟩

theorem need_drop {t : List Int} {k m : Nat} {r : List Int} (h : need (t.drop k) m = some r) (hk : k ≤ t.length) :
    ∃ q, k + m ≤ q ∧ q ≤ t.length ∧ r = t.drop q := by
  obtain ⟨p, hp, hm⟩ := need_tail _ _ _ h
  have hl : (t.drop k).length = p.length + r.length := by rw [hp]; simp
  simp at hl
  refine ⟨k + p.length, by omega, by omega, ?_⟩
  rw [← List.drop_drop, hp]; simp

/-- term.Skip: where the next term would begin; -1: there is none. -/
def skp (t : List Int) (k : Int) : Int :=
  if 0 ≤ k ∧ k < t.length then
    match need (t.drop k.toNat) 1 with
    | some r => (t.length : Int) - r.length
    | none => -1
  else -1

/-- Errors: those of one term. -/
def chk (t : List Int) : Int :=
  if 30 < t.length then 2
  else if t.any (fun n => decide (n < -8) || decide (6 ≤ n)) then 3
  else if need t 1 = some [] then 0 else 1

end Go.Proofs.Ytepddehodmljeaa
