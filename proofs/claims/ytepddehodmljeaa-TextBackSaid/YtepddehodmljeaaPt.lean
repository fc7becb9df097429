/- Plain: terms as text: shown and read. -/
import Derived.Test.YtepddehodmljeaaG2
namespace Go.Proofs.Ytepddehodmljeaa

def ltrL : List UInt8 := [115, 114, 113, 112, 119, 122, 121, 120, 97, 98, 103, 104, 102, 107]
def ltr (s : Int) : UInt8 := ltrL.getD (s + 8).toNat 0
def sgnOf (c : UInt8) : Option Int := if ltrL.idxOf c < 14 then some ((ltrL.idxOf c : Int) - 8) else none
def Tm.txt : Tm → List UInt8
  | .leaf s => [ltr s]
  | .un s a => ltr s :: 40 :: (a.txt ++ [41])
  | .bin s a b => ltr s :: 40 :: (a.txt ++ 44 :: (b.txt ++ [41]))
def exB (c : UInt8) : List UInt8 → Option (List UInt8)
  | [] => none
  | x :: r => if x = c then some r else none
def rd : Nat → List UInt8 → List Int → Option (List UInt8 × List Int)
  | 0, _, _ => none
  | _ + 1, [], _ => none
  | f + 1, c :: r, t => (sgnOf c).bind fun n =>
    if t.length = 30 then none else
      if ar n = 0 then some (r, t ++ [n]) else
        (exB 40 r).bind fun r => (rd f r (t ++ [n])).bind fun p =>
          if ar n = 1 then (exB 41 p.1).bind fun r => some (r, p.2) else
            (exB 44 p.1).bind fun r => (rd f r p.2).bind fun p => (exB 41 p.1).bind fun r => some (r, p.2)

theorem sgn_ltr {s : Int} (h1 : -8 ≤ s) (h2 : s < 6) : sgnOf (ltr s) = some s := by
  have h : s = -8 ∨ s = -7 ∨ s = -6 ∨ s = -5 ∨ s = -4 ∨ s = -3 ∨ s = -2 ∨ s = -1 ∨ s = 0 ∨ s = 1 ∨ s = 2 ∨ s = 3 ∨ s = 4 ∨ s = 5 := by omega
  rcases h with rfl | rfl | rfl | rfl | rfl | rfl | rfl | rfl | rfl | rfl | rfl | rfl | rfl | rfl <;> decide
theorem ltr_sgn {c : UInt8} {s : Int} (h : sgnOf c = some s) : -8 ≤ s ∧ s < 6 ∧ ltr s = c := by
  unfold sgnOf at h
  split at h
  · rename_i h1
    cases h
    refine ⟨by omega, by omega, ?_⟩
    unfold ltr
    rw [show ((ltrL.idxOf c : Int) - 8 + 8).toNat = ltrL.idxOf c by omega]
    have h2 : ltrL.idxOf c < ltrL.length := h1
    rw [List.getD_eq_getElem?_getD, List.getElem?_eq_getElem h2]
    exact List.getElem_idxOf h2
  · cases h

theorem rd_txt : ∀ (a : Tm) (f : Nat) (r : List UInt8) (t : List Int), a.ok → (∀ s ∈ a.flat, -8 ≤ s ∧ s < 6) → t.length + a.size ≤ 30 → a.size ≤ f → rd f (a.txt ++ r) t = some (r, t ++ a.flat)
  | .leaf s, f, r, t, ha, hs, hl, hf => by
    obtain ⟨f, rfl⟩ : ∃ g, f = g + 1 := ⟨f - 1, by simp [Tm.size] at hf; omega⟩
    have h1 := hs s (by simp [Tm.flat])
    have h0 : ar s = 0 := ha
    have hl' : t.length ≠ 30 := by simp [Tm.size] at hl; omega
    simp [Tm.txt, rd, sgn_ltr h1.1 h1.2, h0, hl', Tm.flat]
  | .un s a, f, r, t, ha, hs, hl, hf => by
    obtain ⟨f, rfl⟩ : ∃ g, f = g + 1 := ⟨f - 1, by simp [Tm.size] at hf; omega⟩
    have h1 := hs s (by simp [Tm.flat])
    have h0 : ar s = 1 := ha.1
    have hl' : t.length ≠ 30 := by simp [Tm.size] at hl; omega
    have ih := rd_txt a f (41 :: r) (t ++ [s]) ha.2 (fun x hx => hs x (by simp [Tm.flat, hx])) (by simp [Tm.size] at hl ⊢; omega) (by simp [Tm.size] at hf; omega)
    simp [Tm.txt, rd, sgn_ltr h1.1 h1.2, h0, hl', Tm.flat, exB, ih]
  | .bin s a b, f, r, t, ha, hs, hl, hf => by
    obtain ⟨f, rfl⟩ : ∃ g, f = g + 1 := ⟨f - 1, by simp [Tm.size] at hf; omega⟩
    have h1 := hs s (by simp [Tm.flat])
    have h0 : ar s = 2 := ha.1
    have hl' : t.length ≠ 30 := by simp [Tm.size] at hl; omega
    have hza := size_flat a
    have ih := rd_txt a f (44 :: (b.txt ++ 41 :: r)) (t ++ [s]) ha.2.1 (fun x hx => hs x (by simp [Tm.flat, hx])) (by simp [Tm.size] at hl ⊢; omega) (by simp [Tm.size] at hf; omega)
    have ih2 := rd_txt b f (41 :: r) (t ++ [s] ++ a.flat) ha.2.2 (fun x hx => hs x (by simp [Tm.flat, hx])) (by simp [Tm.size] at hl ⊢; omega) (by simp [Tm.size] at hf; omega)
    simp [Tm.txt, rd, sgn_ltr h1.1 h1.2, h0, hl', Tm.flat, exB, ih]
    simp at ih2
    simp [ih2]

theorem exB_some {c : UInt8} {r r' : List UInt8} (h : exB c r = some r') : r = c :: r' := by
  cases r with
  | nil => simp [exB] at h
  | cons x r =>
    by_cases h1 : x = c
    · simp [exB, h1] at h; rw [h1, h]
    · simp [exB, h1] at h

theorem rd_back : ∀ (f : Nat) (s : List UInt8) (t : List Int) (r : List UInt8) (t' : List Int), t.length ≤ 30 → rd f s t = some (r, t') →
    ∃ a : Tm, a.ok ∧ (∀ x ∈ a.flat, -8 ≤ x ∧ x < 6) ∧ s = a.txt ++ r ∧ t' = t ++ a.flat ∧ t'.length ≤ 30
  | 0, _, _, _, _, _, h => by cases h
  | _ + 1, [], _, _, _, _, h => by cases h
  | f + 1, c :: s, t, r, t', hl, h => by
    unfold rd at h
    rw [Option.bind_eq_some_iff] at h
    obtain ⟨n, hn, h⟩ := h
    obtain ⟨g1, g2, g3⟩ := ltr_sgn hn
    split at h
    · cases h
    rename_i hl'
    split at h
    · rename_i h0
      cases h
      exact ⟨.leaf n, h0, by simp [Tm.flat, g1, g2], by simp [Tm.txt, g3], by simp [Tm.flat], by simp; omega⟩
    · rename_i h0
      rw [Option.bind_eq_some_iff] at h
      obtain ⟨r1, hr1, h⟩ := h
      rw [Option.bind_eq_some_iff] at h
      obtain ⟨⟨r2, t2⟩, hr2, h⟩ := h
      obtain ⟨a, ha, has, hat, hae, hal⟩ := rd_back f r1 (t ++ [n]) r2 t2 (by simp; omega) hr2
      have e1 := exB_some hr1
      split at h
      · rename_i h1
        rw [Option.bind_eq_some_iff] at h
        obtain ⟨r3, hr3, h⟩ := h
        cases h
        have e2 := exB_some hr3
        refine ⟨.un n a, ⟨h1, ha⟩, fun x hx => ?_, ?_, ?_, hal⟩
        · rcases List.mem_cons.1 hx with rfl | hx
          · exact ⟨g1, g2⟩
          · exact has x hx
        · simp at e2; simp [Tm.txt, g3, e1, hat, e2]
        · simp [Tm.flat, hae]
      · rename_i h1
        have h2 : ar n = 2 := by have := ar_le n; omega
        rw [Option.bind_eq_some_iff] at h
        obtain ⟨r3, hr3, h⟩ := h
        rw [Option.bind_eq_some_iff] at h
        obtain ⟨⟨r4, t4⟩, hr4, h⟩ := h
        rw [Option.bind_eq_some_iff] at h
        obtain ⟨r5, hr5, h⟩ := h
        cases h
        have e2 := exB_some hr3
        have e3 := exB_some hr5
        obtain ⟨b, hb, hbs, hbt, hbe, hbl⟩ := rd_back f r3 t2 r4 t4 hal hr4
        refine ⟨.bin n a b, ⟨h2, ha, hb⟩, fun x hx => ?_, ?_, ?_, hbl⟩
        · rcases List.mem_cons.1 hx with rfl | hx
          · exact ⟨g1, g2⟩
          · rcases List.mem_append.1 hx with hx | hx
            · exact has x hx
            · exact hbs x hx
        · simp at e2 e3; simp [Tm.txt, g3, e1, hat, e2, hbt, e3]
        · simp [Tm.flat, hae, hbe]

theorem filt_txt : ∀ a : Tm, (∀ x ∈ a.flat, -8 ≤ x ∧ x < 6) → a.txt.filterMap sgnOf = a.flat
  | .leaf s, h => by
    have h1 := h s (by simp [Tm.flat])
    simp [Tm.txt, Tm.flat, sgn_ltr h1.1 h1.2]
  | .un s a, h => by
    have h1 := h s (by simp [Tm.flat])
    have h2 := filt_txt a fun x hx => h x (by simp [Tm.flat, hx])
    simp [Tm.txt, Tm.flat, sgn_ltr h1.1 h1.2, h2, show sgnOf 40 = none by decide, show sgnOf 41 = none by decide]
  | .bin s a b, h => by
    have h1 := h s (by simp [Tm.flat])
    have h2 := filt_txt a fun x hx => h x (by simp [Tm.flat, hx])
    have h3 := filt_txt b fun x hx => h x (by simp [Tm.flat, hx])
    simp [Tm.txt, Tm.flat, sgn_ltr h1.1 h1.2, h2, h3, show sgnOf 40 = none by decide, show sgnOf 41 = none by decide, show sgnOf 44 = none by decide]

/-- What is read: a right term, and it is shown so. -/
theorem rd_right {f : Nat} {s : List UInt8} {t : List Int} (h : rd f s [] = some ([], t)) : chk t = 0 ∧ (tmOf t).txt = s ∧ s.filterMap sgnOf = t := by
  obtain ⟨a, ha, hs, e1, e2, hl⟩ := rd_back f s [] [] t (by simp) h
  rw [List.append_nil] at e1
  rw [List.nil_append] at e2
  subst e1 e2
  refine ⟨chk_of hl hs ?_, by rw [tmOf_flat ha], filt_txt a hs⟩
  have := need_flat a [] ha
  rwa [List.append_nil] at this
theorem rd_shown {t : List Int} (h : chk t = 0) {f : Nat} (hf : 30 ≤ f) : rd f (tmOf t).txt [] = some ([], t) := by
  obtain ⟨h1, h2⟩ := tm_chk h
  have hs := signs_of_chk h
  have hl := len_of_chk h
  have hz := size_flat (tmOf t)
  rw [h2] at hz
  have := rd_txt (tmOf t) f [] [] h1 (by rw [h2]; exact hs) (by simp; omega) (by omega)
  rw [List.append_nil, List.nil_append, h2] at this
  exact this
/-- The reference reads letters alone, and looks whether it is shown so: just what is read. -/
theorem rd_iff {f : Nat} (hf : 30 ≤ f) {s : List UInt8} {t : List Int} : rd f s [] = some ([], t) ↔ s.filterMap sgnOf = t ∧ chk t = 0 ∧ (tmOf t).txt = s := by
  constructor
  · intro h
    obtain ⟨h1, h2, h3⟩ := rd_right h
    exact ⟨h3, h1, h2⟩
  · rintro ⟨-, h1, h2⟩
    rw [← h2]
    exact rd_shown h1 hf

end Go.Proofs.Ytepddehodmljeaa
