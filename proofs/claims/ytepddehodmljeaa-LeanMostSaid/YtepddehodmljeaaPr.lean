/- Plain: how many steps there are. -/
import Derived.Test.YtepddehodmljeaaPq
namespace Go.Proofs.Ytepddehodmljeaa

def sumN (f : Nat → Nat) : Nat → Nat
  | 0 => 0
  | n + 1 => sumN f n + f n
theorem sumN_zero : ∀ n, sumN (fun _ => 0) n = 0
  | 0 => rfl
  | n + 1 => by rw [sumN, sumN_zero n]
theorem sumN_add (f g : Nat → Nat) : ∀ n, sumN (fun i => f i + g i) n = sumN f n + sumN g n
  | 0 => rfl
  | n + 1 => by rw [sumN, sumN, sumN, sumN_add f g n]; omega
theorem sumN_swap (f : Nat → Nat → Nat) (n : Nat) : ∀ m, sumN (fun i => sumN (fun j => f i j) n) m = sumN (fun j => sumN (fun i => f i j) m) n
  | 0 => by
    show 0 = sumN (fun _ => 0) n
    rw [sumN_zero]
  | m + 1 => by
    show sumN (fun i => sumN (fun j => f i j) n) m + sumN (fun j => f m j) n = sumN (fun j => sumN (fun i => f i j) m + f m j) n
    rw [sumN_add, sumN_swap f n m]

/-- Does a rule fit there? -/
def fitN (l : Rus) (t : List Int) (k n : Nat) : Nat := if (fitL (nthR l n).1 (paT t k)).isSome then 1 else 0
theorem rowP_count (l : Rus) (t : List Int) (k : Nat) : ∀ n, (rowP l t k n).length = sumN (fun n => fitN l t k n) n
  | 0 => rfl
  | n + 1 => by
    rw [sumN, ← rowP_count l t k n]
    unfold fitN
    cases h : fitL (nthR l n).1 (paT t k) with
    | none => rw [rowP_none (by rw [stp, h]; rfl)]; rfl
    | some σ => rw [rowP_some (s := (n, k, puT t k (app σ (nthR l n).2))) (by rw [stp, h]; rfl), List.length_append]; rfl
theorem allP_count (l : Rus) (t : List Int) : ∀ k, (allP l t k).length = sumN (fun k => sumN (fun n => fitN l t k n) l.length) k
  | 0 => rfl
  | k + 1 => by rw [sumN, allP_succ, List.length_append, allP_count l t k, rowP_count]
theorem ovr_count (l : Rus) (t : List Int) (n : Nat) : ∀ k, (ovr t (nthR l n).1 k).length = sumN (fun k => fitN l t k n) k
  | 0 => rfl
  | k + 1 => by
    rw [sumN, ← ovr_count l t n k, ovr, List.length_append]
    unfold fitN
    split <;> rfl

/-- All places at which a rule's L fits: of the first n rules. -/
def cntN (l : Rus) (t : List Int) : Nat → Nat := sumN fun n => (ovr t (nthR l n).1 t.length).length
theorem cnt_all (l : Rus) (t : List Int) : cntN l t l.length = (allP l t t.length).length := by
  unfold cntN
  rw [allP_count, sumN_swap]
  congr 1
  funext n
  exact ovr_count l t n t.length
theorem cntN_le (l : Rus) (t : List Int) : ∀ n, cntN l t n ≤ n * t.length
  | 0 => by simp [cntN, sumN]
  | n + 1 => by
    have h1 := cntN_le l t n
    have h2 := ovr_len t (nthR l n).1 t.length
    have h3 : cntN l t (n + 1) = cntN l t n + (ovr t (nthR l n).1 t.length).length := rfl
    rw [h3, Nat.add_mul]; omega

end Go.Proofs.Ytepddehodmljeaa
