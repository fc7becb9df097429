/- Plain: what variables become. No program in sight. -/
import Derived.Test.YtepddehodmljeaaPa
namespace Go.Proofs.Ytepddehodmljeaa

/-- The j-th of a list. Not reducible. -/
def nthT (ts : List (List Int)) (j : Nat) : List Int := ts.getD j []
theorem nthT_eq {ts : List (List Int)} {j : Nat} (h : j < ts.length) : nthT ts j = ts[j] := by simp [nthT, List.getD, List.getElem?_eq_getElem h]
theorem nthT_mem {ts : List (List Int)} {j : Nat} (h : j < ts.length) : nthT ts j ∈ ts := by rw [nthT_eq h]; exact List.getElem_mem h
theorem extT {s t : List (List Int)} (hl : s.length = t.length) (h : ∀ j, j < s.length → nthT s j = nthT t j) : s = t := by
  apply List.ext_getElem hl
  intro i h1 h2
  have := h i h1
  rwa [nthT_eq h1, nthT_eq h2] at this

/-- What a sign becomes. -/
def sb (s : List (List Int)) (n : Int) : List Int := if n < 0 then nthT s (-1 - n).toNat else [n]
/-- What a term becomes. -/
def app (s : List (List Int)) (t : List Int) : List Int := t.flatMap (sb s)

/-- The first k signs, each become what f says. -/
def joinF (f : Nat → List Int) : Nat → List Int
  | 0 => []
  | k + 1 => joinF f k ++ f k

theorem joinF_flatMap (g : Int → List Int) (t : List Int) : ∀ k, k ≤ t.length → joinF (fun k => g (nth t k)) k = (t.take k).flatMap g
  | 0, _ => by simp [joinF]
  | k + 1, h => by rw [joinF, joinF_flatMap g t k (by omega), take_nth (by omega), List.flatMap_append]; simp
theorem joinF_all (g : Int → List Int) (t : List Int) : joinF (fun k => g (nth t k)) t.length = t.flatMap g := by
  rw [joinF_flatMap g t _ (Nat.le_refl _), List.take_length]

theorem flatMap_len (g : Int → List Int) (n : Nat) : ∀ (t : List Int), (∀ x ∈ t, (g x).length ≤ n) → (t.flatMap g).length ≤ t.length * n
  | [], _ => by simp
  | x :: t, h => by
    rw [List.flatMap_cons, List.length_append, List.length_cons, Nat.add_mul]
    have h1 := h x (by simp)
    have h2 := flatMap_len g n t (fun y hy => h y (List.mem_cons_of_mem _ hy))
    omega

end Go.Proofs.Ytepddehodmljeaa
