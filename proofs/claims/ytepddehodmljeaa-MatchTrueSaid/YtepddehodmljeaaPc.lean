/- Plain: variables made plain. No program in sight. -/
import Derived.Test.YtepddehodmljeaaPb
namespace Go.Proofs.Ytepddehodmljeaa

/-- The variables seen so far, one more sign read. -/
def adds (seen : List Int) (n : Int) : List Int := if 0 ≤ n ∨ n ∈ seen then seen else seen ++ [n]
/-- What a sign becomes. -/
def nm (seen : List Int) (n : Int) : Int := if 0 ≤ n then n else -1 - ((adds seen n).idxOf n : Int)
def smo : List Int → List Int → List Int
  | _, [] => []
  | seen, n :: t => nm seen n :: smo (adds seen n) t
def seenA (seen t : List Int) : List Int := t.foldl adds seen

theorem seenA_take {seen t : List Int} {k : Nat} (hk : k < t.length) : seenA seen (t.take (k + 1)) = adds (seenA seen (t.take k)) (nth t k) := by
  rw [take_nth hk, seenA, List.foldl_append]; rfl

theorem smo_append (seen : List Int) (s t : List Int) : smo seen (s ++ t) = smo seen s ++ smo (seenA seen s) t := by
  induction s generalizing seen with
  | nil => rfl
  | cons n s ih => simp only [List.cons_append, smo, ih]; rfl
theorem smo_length (seen t : List Int) : (smo seen t).length = t.length := by
  induction t generalizing seen with
  | nil => rfl
  | cons n t ih => simp [smo, ih]

theorem joinF_smo (seen t : List Int) : ∀ k, k ≤ t.length → joinF (fun k => [nm (seenA seen (t.take k)) (nth t k)]) k = smo seen (t.take k)
  | 0, _ => rfl
  | k + 1, h => by rw [joinF, joinF_smo seen t k (by omega), take_nth (by omega), smo_append]; rfl

theorem adds_nodup {seen : List Int} (h : seen.Nodup) (n : Int) : (adds seen n).Nodup := by
  unfold adds
  split
  · exact h
  · rename_i hn
    rw [List.nodup_append]
    refine ⟨h, by simp, fun a ha b hb e => ?_⟩
    simp at hb
    subst hb; subst e
    exact hn (.inr ha)
theorem seenA_nodup {seen : List Int} (h : seen.Nodup) (t : List Int) : (seenA seen t).Nodup := by
  induction t generalizing seen with
  | nil => exact h
  | cons n t ih => exact ih (adds_nodup h n)
theorem adds_len (seen : List Int) (n : Int) : (adds seen n).length ≤ seen.length + 1 := by
  unfold adds; split <;> simp
theorem seenA_len (seen t : List Int) : (seenA seen t).length ≤ seen.length + t.length := by
  induction t generalizing seen with
  | nil => simp [seenA]
  | cons n t ih =>
    have h1 := ih (adds seen n)
    have h2 := adds_len seen n
    show (seenA (adds seen n) t).length ≤ _
    simp only [List.length_cons]; omega
theorem adds_neg {seen : List Int} (h : ∀ x ∈ seen, x < 0) (n : Int) : ∀ x ∈ adds seen n, x < 0 := by
  unfold adds
  split
  · exact h
  · rename_i hn
    intro x hx
    rcases List.mem_append.1 hx with hx | hx
    · exact h x hx
    · simp at hx; omega
theorem seenA_neg {seen : List Int} (h : ∀ x ∈ seen, x < 0) (t : List Int) : ∀ x ∈ seenA seen t, x < 0 := by
  induction t generalizing seen with
  | nil => exact h
  | cons n t ih => exact ih (adds_neg h n)
theorem idxOf_new {seen : List Int} {n : Int} (h : n ∉ seen) : (seen ++ [n]).idxOf n = seen.length := by
  induction seen with
  | nil => simp
  | cons a seen ih =>
    have h1 : a ≠ n := fun e => h (by simp [e])
    have h2 : n ∉ seen := fun e => h (List.mem_cons_of_mem _ e)
    have h3 : (a == n) = false := by simpa using h1
    rw [List.cons_append, List.idxOf_cons, ih h2, h3]; rfl

/-- The signs of a term, its variables plain. -/
def plainT (t : List Int) : List Int := smo [] t
end Go.Proofs.Ytepddehodmljeaa
