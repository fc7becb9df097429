/- Plain: terms as trees. No program in sight. -/
import Derived.Test.YtepddehodmljeaaPe
namespace Go.Proofs.Ytepddehodmljeaa

/-- A term as a tree. -/
inductive Tm where
  | leaf (s : Int)
  | un (s : Int) (a : Tm)
  | bin (s : Int) (a b : Tm)
  deriving DecidableEq

def Tm.sg : Tm → Int
  | .leaf s => s
  | .un s _ => s
  | .bin s _ _ => s
def Tm.flat : Tm → List Int
  | .leaf s => [s]
  | .un s a => s :: a.flat
  | .bin s a b => s :: (a.flat ++ b.flat)
def Tm.ok : Tm → Prop
  | .leaf s => ar s = 0
  | .un s a => ar s = 1 ∧ a.ok
  | .bin s a b => ar s = 2 ∧ a.ok ∧ b.ok

theorem need_flat : ∀ (x : Tm) (r : List Int), x.ok → need (x.flat ++ r) 1 = some r
  | .leaf s, r, h => by
    show need r (0 + ar s) = _
    rw [show ar s = 0 from h]; exact need_zero r
  | .un s a, r, h => by
    show need (a.flat ++ r) (0 + ar s) = _
    rw [h.1]; exact need_flat a r h.2
  | .bin s a b, r, h => by
    show need (a.flat ++ b.flat ++ r) (0 + ar s) = _
    rw [h.1, List.append_assoc, need_succ, need_flat a _ h.2.1]
    exact need_flat b r h.2.2

theorem exists_tm : ∀ (n : Nat) (l r : List Int), l.length ≤ n → need l 1 = some r → ∃ x : Tm, x.ok ∧ l = x.flat ++ r
  | _, [], _, _, h => by cases h
  | 0, s :: l, _, hn, _ => by simp at hn
  | n + 1, s :: l, r, hn, h => by
    rw [need_cons_succ, Nat.zero_add] at h
    simp only [List.length_cons] at hn
    have h3 := ar_le s
    rcases (by omega : ar s = 0 ∨ ar s = 1 ∨ ar s = 2) with e | e | e
    · rw [e, need_zero] at h
      cases h
      exact ⟨.leaf s, e, rfl⟩
    · rw [e] at h
      obtain ⟨a, ha, rfl⟩ := exists_tm n l r (by omega) h
      exact ⟨.un s a, ⟨e, ha⟩, rfl⟩
    · rw [e, need_succ] at h
      cases h1 : need l 1 with
      | none => rw [h1] at h; cases h
      | some q =>
        rw [h1] at h
        obtain ⟨a, ha, rfl⟩ := exists_tm n l q (by omega) h1
        obtain ⟨b, hb, rfl⟩ := exists_tm n q r (by simp at hn; omega) h
        exact ⟨.bin s a b, ⟨e, ha, hb⟩, by simp [Tm.flat]⟩

theorem flat_ne (x : Tm) : x.flat ≠ [] := by cases x <;> simp [Tm.flat]

/-- Two right trees that begin one list are one. -/
theorem flat_inj : ∀ (x y : Tm) (r q : List Int), x.ok → y.ok → x.flat ++ r = y.flat ++ q → x = y ∧ r = q
  | x, y, r, q, hx, hy, h => by
    have h1 := need_flat x r hx
    rw [h, need_flat y q hy] at h1
    have hrq : r = q := by cases h1; rfl
    subst hrq
    refine ⟨?_, rfl⟩
    have h2 := List.append_cancel_right h
    clear h h1
    induction x generalizing y with
    | leaf s =>
      cases y with
      | leaf s' => simp [Tm.flat] at h2; rw [h2]
      | un s' a' => simp [Tm.flat] at h2; exact absurd h2.2.symm (by simp [flat_ne])
      | bin s' a' b' => simp [Tm.flat, flat_ne] at h2
    | un s a ih =>
      cases y with
      | leaf s' => simp [Tm.flat, flat_ne] at h2
      | un s' a' => simp [Tm.flat] at h2; rw [h2.1, ih a' hx.2 hy.2 h2.2]
      | bin s' a' b' => simp [Tm.flat] at h2; have e1 := hx.1; have e2 := hy.1; rw [h2.1] at e1; omega
    | bin s a b iha ihb =>
      cases y with
      | leaf s' => simp [Tm.flat, flat_ne] at h2
      | un s' a' => simp [Tm.flat] at h2; have e1 := hx.1; have e2 := hy.1; rw [h2.1] at e1; omega
      | bin s' a' b' =>
        simp only [Tm.flat, List.cons.injEq] at h2
        have h3 := need_flat a b.flat hx.2.1
        rw [h2.2, need_flat a' b'.flat hy.2.1] at h3
        have h4 : b.flat = b'.flat := (Option.some.inj h3).symm
        have h5 := h2.2
        rw [h4] at h5
        rw [h2.1, iha a' hx.2.1 hy.2.1 (List.append_cancel_right h5), ihb b' hx.2.2 hy.2.2 h4]

end Go.Proofs.Ytepddehodmljeaa
