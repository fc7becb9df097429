/- Base: how values in memory read as lists; walks of checking, sizes, substitution (sub), and of its reference. -/
import Derived.WalkKit
import Derived.Lib.Hide
import Derived.Deep.QuietTactic
import Derived.BigQuiet
import Derived.Maps.OwnSet
import Derived.Maps.RangeWalk
import Derived.Test.YtepddehodmljeaaProg
namespace Go.Proofs.Ytepddehodmljeaa

/-- The j-th number of a list (0 beyond it). Not reducible: a walk never looks into it. -/
def nth (t : List Int) (j : Nat) : Int := t.getD j 0

theorem nth_eq {t : List Int} {j : Nat} (h : j < t.length) : nth t j = t[j] := by
  simp [nth, List.getD, List.getElem?_eq_getElem h]
theorem nth_cons_zero (x : Int) (t : List Int) : nth (x :: t) 0 = x := rfl
theorem nth_cons_succ (x : Int) (t : List Int) (j : Nat) : nth (x :: t) (j + 1) = nth t j := by simp [nth, List.getD]
theorem nth_drop (t : List Int) (k j : Nat) : nth (t.drop k) j = nth t (k + j) := by simp [nth, List.getD, List.getElem?_drop]
theorem nth_take {t : List Int} {k j : Nat} (h : j < k) : nth (t.take k) j = nth t j := by simp [nth, List.getD, h]
theorem nth_mem {t : List Int} {j : Nat} (h : j < t.length) : nth t j ∈ t := by rw [nth_eq h]; exact List.getElem_mem h
theorem drop_nth {t : List Int} {k : Nat} (h : k < t.length) : t.drop k = nth t k :: t.drop (k + 1) := by
  rw [nth_eq h]; exact List.drop_eq_getElem_cons h
theorem take_nth {t : List Int} {k : Nat} (h : k < t.length) : t.take (k + 1) = t.take k ++ [nth t k] := by
  rw [nth_eq h, List.take_succ_eq_append_getElem h]
theorem nth_append_left {s t : List Int} {j : Nat} (h : j < s.length) : nth (s ++ t) j = nth s j := by
  simp [nth, List.getD, List.getElem?_append, h]
theorem nth_append_right {s t : List Int} {j : Nat} (h : s.length ≤ j) : nth (s ++ t) j = nth t (j - s.length) := by
  simp [nth, List.getD, List.getElem?_append, Nat.not_lt.2 h]
theorem ext_nth {s t : List Int} (hl : s.length = t.length) (h : ∀ j, j < s.length → nth s j = nth t j) : s = t := by
  apply List.ext_getElem hl
  intro i h1 h2
  have := h i h1
  rwa [nth_eq h1, nth_eq h2] at this

/-- How many parts a sign has. -/
def ar (s : Int) : Nat := if s < 2 then 0 else if s < 4 then 1 else 2
theorem ar_le (s : Int) : ar s ≤ 2 := by unfold ar; split <;> (try split) <;> omega

/-- What is left of a list when m terms have been read. -/
def need : List Int → Nat → Option (List Int)
  | l, 0 => some l
  | [], _ + 1 => none
  | s :: l, m + 1 => need l (m + ar s)

theorem need_zero (l : List Int) : need l 0 = some l := by cases l <;> rfl
theorem need_nil_succ (m : Nat) : need [] (m + 1) = none := rfl
theorem need_cons_succ (s : Int) (l : List Int) (m : Nat) : need (s :: l) (m + 1) = need l (m + ar s) := rfl

theorem need_add (l : List Int) : ∀ a b, need l (a + b) = (need l a).bind fun r => need r b := by
  induction l with
  | nil =>
    intro a b
    cases a with
    | zero => simp [need_zero]
    | succ a => rw [show a + 1 + b = (a + b) + 1 by omega]; rfl
  | cons s l ih =>
    intro a b
    cases a with
    | zero => simp [need_zero]
    | succ a =>
      rw [show a + 1 + b = (a + b) + 1 by omega, need_cons_succ, need_cons_succ, show a + b + ar s = (a + ar s) + b by omega, ih]
theorem need_succ (l : List Int) (m : Nat) : need l (m + 1) = (need l 1).bind fun r => need r m := by
  rw [Nat.add_comm]; exact need_add l 1 m

/-- What is left is a tail. -/
theorem need_tail (l : List Int) : ∀ m r, need l m = some r → ∃ p, l = p ++ r ∧ m ≤ p.length := by
  induction l with
  | nil =>
    intro m r h
    cases m with
    | zero => rw [need_zero] at h; cases h; exact ⟨[], rfl, by simp⟩
    | succ m => cases h
  | cons s l ih =>
    intro m r h
    cases m with
    | zero => rw [need_zero] at h; cases h; exact ⟨[], rfl, by simp⟩
    | succ m =>
      rw [need_cons_succ] at h
      obtain ⟨p, rfl, hp⟩ := ih _ _ h
      exact ⟨s :: p, rfl, by simp; omega⟩

theorem need_drop {t : List Int} {k m : Nat} {r : List Int} (h : need (t.drop k) m = some r) (hk : k ≤ t.length) :
    ∃ q, k + m ≤ q ∧ q ≤ t.length ∧ r = t.drop q := by
  obtain ⟨p, hp, hm⟩ := need_tail _ _ _ h
  have hl : (t.drop k).length = p.length + r.length := by rw [hp]; simp
  simp at hl
  refine ⟨k + p.length, by omega, by omega, ?_⟩
  rw [← List.drop_drop, hp]; simp

/-- term.Skip: where the next term would begin; -1: there is none. -/
def skp (t : List Int) (k : Int) : Int :=
  if 0 ≤ k ∧ k < t.length then
    match need (t.drop k.toNat) 1 with
    | some r => (t.length : Int) - r.length
    | none => -1
  else -1

/-- Errors: those of one term. -/
def chk (t : List Int) : Int :=
  if 30 < t.length then 2
  else if t.any (fun n => decide (n < -8) || decide (6 ≤ n)) then 3
  else if need t 1 = some [] then 0 else 1

end Go.Proofs.Ytepddehodmljeaa

namespace Go.Proofs.Ytepddehodmljeaa

/-- The j-th of a list. Not reducible. -/
def nthT (ts : List (List Int)) (j : Nat) : List Int := ts.getD j []
theorem nthT_eq {ts : List (List Int)} {j : Nat} (h : j < ts.length) : nthT ts j = ts[j] := by simp [nthT, List.getD, List.getElem?_eq_getElem h]
theorem nthT_mem {ts : List (List Int)} {j : Nat} (h : j < ts.length) : nthT ts j ∈ ts := by rw [nthT_eq h]; exact List.getElem_mem h
theorem extT {s t : List (List Int)} (hl : s.length = t.length) (h : ∀ j, j < s.length → nthT s j = nthT t j) : s = t := by
  apply List.ext_getElem hl
  intro i h1 h2
  have := h i h1
  rwa [nthT_eq h1, nthT_eq h2] at this

/-- What a sign becomes. -/
def sb (s : List (List Int)) (n : Int) : List Int := if n < 0 then nthT s (-1 - n).toNat else [n]
/-- What a term becomes. -/
def app (s : List (List Int)) (t : List Int) : List Int := t.flatMap (sb s)

/-- The first k signs, each become what f says. -/
def joinF (f : Nat → List Int) : Nat → List Int
  | 0 => []
  | k + 1 => joinF f k ++ f k

theorem joinF_flatMap (g : Int → List Int) (t : List Int) : ∀ k, k ≤ t.length → joinF (fun k => g (nth t k)) k = (t.take k).flatMap g
  | 0, _ => by simp [joinF]
  | k + 1, h => by rw [joinF, joinF_flatMap g t k (by omega), take_nth (by omega), List.flatMap_append]; simp
theorem joinF_all (g : Int → List Int) (t : List Int) : joinF (fun k => g (nth t k)) t.length = t.flatMap g := by
  rw [joinF_flatMap g t _ (Nat.le_refl _), List.take_length]

theorem flatMap_len (g : Int → List Int) (n : Nat) : ∀ (t : List Int), (∀ x ∈ t, (g x).length ≤ n) → (t.flatMap g).length ≤ t.length * n
  | [], _ => by simp
  | x :: t, h => by
    rw [List.flatMap_cons, List.length_append, List.length_cons, Nat.add_mul]
    have h1 := h x (by simp)
    have h2 := flatMap_len g n t (fun y hy => h y (List.mem_cons_of_mem _ hy))
    omega

end Go.Proofs.Ytepddehodmljeaa

namespace Go.Proofs.Ytepddehodmljeaa

/-- The variables seen so far, one more sign read. -/
def adds (seen : List Int) (n : Int) : List Int := if 0 ≤ n ∨ n ∈ seen then seen else seen ++ [n]
/-- What a sign becomes. -/
def nm (seen : List Int) (n : Int) : Int := if 0 ≤ n then n else -1 - ((adds seen n).idxOf n : Int)
def smo : List Int → List Int → List Int
  | _, [] => []
  | seen, n :: t => nm seen n :: smo (adds seen n) t
def seenA (seen t : List Int) : List Int := t.foldl adds seen

theorem seenA_take {seen t : List Int} {k : Nat} (hk : k < t.length) : seenA seen (t.take (k + 1)) = adds (seenA seen (t.take k)) (nth t k) := by
  rw [take_nth hk, seenA, List.foldl_append]; rfl

theorem smo_append (seen : List Int) (s t : List Int) : smo seen (s ++ t) = smo seen s ++ smo (seenA seen s) t := by
  induction s generalizing seen with
  | nil => rfl
  | cons n s ih => simp only [List.cons_append, smo, ih]; rfl
theorem smo_length (seen t : List Int) : (smo seen t).length = t.length := by
  induction t generalizing seen with
  | nil => rfl
  | cons n t ih => simp [smo, ih]

theorem joinF_smo (seen t : List Int) : ∀ k, k ≤ t.length → joinF (fun k => [nm (seenA seen (t.take k)) (nth t k)]) k = smo seen (t.take k)
  | 0, _ => rfl
  | k + 1, h => by rw [joinF, joinF_smo seen t k (by omega), take_nth (by omega), smo_append]; rfl

theorem adds_nodup {seen : List Int} (h : seen.Nodup) (n : Int) : (adds seen n).Nodup := by
  unfold adds
  split
  · exact h
  · rename_i hn
    rw [List.nodup_append]
    refine ⟨h, by simp, fun a ha b hb e => ?_⟩
    simp at hb
    subst hb; subst e
    exact hn (.inr ha)
theorem seenA_nodup {seen : List Int} (h : seen.Nodup) (t : List Int) : (seenA seen t).Nodup := by
  induction t generalizing seen with
  | nil => exact h
  | cons n t ih => exact ih (adds_nodup h n)
theorem adds_len (seen : List Int) (n : Int) : (adds seen n).length ≤ seen.length + 1 := by
  unfold adds; split <;> simp
theorem seenA_len (seen t : List Int) : (seenA seen t).length ≤ seen.length + t.length := by
  induction t generalizing seen with
  | nil => simp [seenA]
  | cons n t ih =>
    have h1 := ih (adds seen n)
    have h2 := adds_len seen n
    show (seenA (adds seen n) t).length ≤ _
    simp only [List.length_cons]; omega
theorem adds_neg {seen : List Int} (h : ∀ x ∈ seen, x < 0) (n : Int) : ∀ x ∈ adds seen n, x < 0 := by
  unfold adds
  split
  · exact h
  · rename_i hn
    intro x hx
    rcases List.mem_append.1 hx with hx | hx
    · exact h x hx
    · simp at hx; omega
theorem seenA_neg {seen : List Int} (h : ∀ x ∈ seen, x < 0) (t : List Int) : ∀ x ∈ seenA seen t, x < 0 := by
  induction t generalizing seen with
  | nil => exact h
  | cons n t ih => exact ih (adds_neg h n)
theorem idxOf_new {seen : List Int} {n : Int} (h : n ∉ seen) : (seen ++ [n]).idxOf n = seen.length := by
  induction seen with
  | nil => simp
  | cons a seen ih =>
    have h1 : a ≠ n := fun e => h (by simp [e])
    have h2 : n ∉ seen := fun e => h (List.mem_cons_of_mem _ e)
    have h3 : (a == n) = false := by simpa using h1
    rw [List.cons_append, List.idxOf_cons, ih h2, h3]; rfl

/-- The signs of a term, its variables plain. -/
def plainT (t : List Int) : List Int := smo [] t
end Go.Proofs.Ytepddehodmljeaa

namespace Go.Proofs.Ytepddehodmljeaa
open Go.RowKit

/-! ### Sets of blocks -/
abbrev Blk := Nat → Prop
def Any : Blk := fun _ => True
/-- Blocks from n on. -/
def Fr (n : Nat) : Blk := fun b => n ≤ b
/-- All blocks but that of a slice's own. -/
def Off (v : Value) : Blk := fun b => v.ownBlock ≠ some b
def Both' (S T : Blk) : Blk := fun b => S b ∧ T b

/-- What lies in S lies in S' too, and has not turned. -/
def Sok (S S' : Blk) (w w' : World) : Prop := w.heap.size ≤ w'.heap.size ∧ ∀ b, S b → b < w.heap.size → S' b ∧ w'.heap[b]? = w.heap[b]?

theorem Sok.of_below {S : Blk} {w w' : World} (h : Below w.heap.size w w') : Sok S S w w' := ⟨h.size, fun b hs hb => ⟨hs, h.block b hb⟩⟩
theorem Sok.any {S : Blk} {w w' : World} (h : Below w.heap.size w w') : Sok S Any w w' := ⟨h.size, fun b _ hb => ⟨trivial, h.block b hb⟩⟩
theorem Sok.weak {S S' : Blk} {w : World} (h : ∀ b, S b → S' b) : Sok S S' w w := ⟨Nat.le_refl _, fun b hs _ => ⟨h b hs, rfl⟩⟩
theorem Sok.toAny {S : Blk} {w : World} : Sok S Any w w := Sok.weak fun _ _ => trivial
theorem Sok.trans {S S' S'' : Blk} {a b c : World} (h : Sok S S' a b) (k : Sok S' S'' b c) : Sok S S'' a c :=
  ⟨Nat.le_trans h.1 k.1, fun i hs hi => ⟨(k.2 i (h.2 i hs hi).1 (Nat.lt_of_lt_of_le hi h.1)).1, ((k.2 i (h.2 i hs hi).1 (Nat.lt_of_lt_of_le hi h.1)).2).trans (h.2 i hs hi).2⟩⟩

/-- A slice of ints, in blocks of S. -/
def IsInts (S : Blk) (w : World) (v : Value) (t : List Int) : Prop :=
  t.length ≤ 9223372036854775807 ∧
  ((t = [] ∧ ∃ a c, v = .slice a 0 c ∧ (a = none → c = 0)) ∨
   (t ≠ [] ∧ ∃ b o c, v = .slice (some ⟨b, o, none⟩) t.length c ∧ t.length ≤ c ∧ S b ∧ b < w.heap.size ∧ ∀ j, j < t.length → w.cell? ⟨b, o + j, none⟩ = some (.int .i64 (nth t j))))

theorem IsInts.mono {S S' : Blk} {w w' : World} {v : Value} {t : List Int} (h : IsInts S w v t) (hk : Sok S S' w w') : IsInts S' w' v t := by
  obtain ⟨hl, h | ⟨hne, b, o, c, rfl, hcap, hs, hlt, hc⟩⟩ := h
  · exact ⟨hl, .inl h⟩
  · exact ⟨hl, .inr ⟨hne, b, o, c, rfl, hcap, (hk.2 b hs hlt).1, Nat.lt_of_lt_of_le hlt hk.1, fun j hj => (World.cell?_of_block (w := w) (hk.2 b hs hlt).2).trans (hc j hj)⟩⟩
theorem IsInts.below {S : Blk} {w w' : World} {v : Value} {t : List Int} (h : IsInts S w v t) (hb : Below w.heap.size w w') : IsInts S w' v t := h.mono (.of_below hb)
theorem IsInts.any {S : Blk} {w : World} {v : Value} {t : List Int} (h : IsInts S w v t) : IsInts Any w v t := h.mono .toAny
theorem IsInts.isSlice {S : Blk} {w : World} {v : Value} {t : List Int} (h : IsInts S w v t) : ∃ a c, v = .slice a t.length c := by
  obtain ⟨hl, ⟨rfl, a, c, rfl, _⟩ | ⟨hne, b, o, c, rfl, _⟩⟩ := h
  · exact ⟨a, c, rfl⟩
  · exact ⟨_, c, rfl⟩
theorem IsInts.nil (S : Blk) (w : World) : IsInts S w (.slice none 0 0) [] := ⟨by simp, .inl ⟨rfl, none, 0, rfl, fun _ => rfl⟩⟩
theorem IsInts.oneCell {S : Blk} {w : World} {v : Value} {t : List Int} (h : IsInts S w v t) : v.oneCell' = true := by
  obtain ⟨a, c, rfl⟩ := h.isSlice; rfl

/-! ### Rows of things that take sz cells each -/
abbrev Rep (α : Type) := Blk → World → List Value → α → Prop
/-- What reads as x goes on reading so while its blocks do not turn. -/
def Rep.Ok {α : Type} (R : Rep α) : Prop := ∀ S S' w w' us x, R S w us x → Sok S S' w w' → R S' w' us x

def Elems {α : Type} (sz : Nat) (R : Rep α) (S : Blk) (w : World) : List Value → List α → Prop
  | cs, [] => cs = []
  | cs, x :: xs => ∃ us cs', us.length = sz ∧ cs = us ++ cs' ∧ R S w us x ∧ Elems sz R S w cs' xs

variable {α : Type} {sz : Nat} {R : Rep α}

theorem Elems.length {S : Blk} {w : World} : ∀ {cs : List Value} {xs : List α}, Elems sz R S w cs xs → cs.length = xs.length * sz
  | cs, [], h => by rw [show cs = [] from h]; simp
  | cs, x :: xs, ⟨us, cs', hl, he, _, h⟩ => by rw [he, List.length_append, hl, h.length]; simp [Nat.add_mul, Nat.add_comm]
theorem Elems.mono (hR : R.Ok) {S S' : Blk} {w w' : World} (hk : Sok S S' w w') : ∀ {cs : List Value} {xs : List α}, Elems sz R S w cs xs → Elems sz R S' w' cs xs
  | _, [], h => h
  | _, _ :: _, ⟨us, cs', hl, he, hr, h⟩ => ⟨us, cs', hl, he, hR _ _ _ _ _ _ hr hk, h.mono hR hk⟩
theorem Elems.append {S : Blk} {w : World} : ∀ {cs ds : List Value} {xs ys : List α}, Elems sz R S w cs xs → Elems sz R S w ds ys → Elems sz R S w (cs ++ ds) (xs ++ ys)
  | cs, ds, [], ys, h, k => by rw [show cs = [] from h]; exact k
  | _, _, _ :: _, _, ⟨us, cs', hl, he, hr, h⟩, k => ⟨us, cs' ++ _, hl, by rw [he, List.append_assoc], hr, h.append k⟩
theorem Elems.one {S : Blk} {w : World} {us : List Value} {x : α} (hl : us.length = sz) (h : R S w us x) : Elems sz R S w us [x] := ⟨us, [], hl, by simp, h, rfl⟩
theorem Elems.get {S : Blk} {w : World} : ∀ {cs : List Value} {xs : List α}, Elems sz R S w cs xs → ∀ j (h : j < xs.length),
    ∃ us, us.length = sz ∧ (∀ i, i < sz → cs[j * sz + i]? = us[i]?) ∧ R S w us xs[j]
  | _, [], _, j, h => by simp at h
  | _, x :: xs, ⟨us, cs', hl, he, hr, h⟩, 0, _ => ⟨us, hl, fun i hi => by rw [he, Nat.zero_mul, Nat.zero_add, List.getElem?_append_left (by omega)], hr⟩
  | _, x :: xs, ⟨us, cs', hl, he, hr, h⟩, j + 1, hj => by
    obtain ⟨vs, h1, h2, h3⟩ := h.get j (by simpa using hj)
    refine ⟨vs, h1, fun i hi => ?_, h3⟩
    rw [he, List.getElem?_append_right (by rw [hl, Nat.add_mul]; omega), ← h2 i hi, hl]
    congr 1
    rw [Nat.add_mul]; omega
theorem Elems.drop {S : Blk} {w : World} : ∀ {cs : List Value} {xs : List α}, Elems sz R S w cs xs → ∀ k, Elems sz R S w (cs.drop (k * sz)) (xs.drop k)
  | cs, [], h, k => by rw [show cs = [] from h]; simp [Elems]
  | _, x :: xs, h, 0 => by simpa using h
  | _, x :: xs, ⟨us, cs', hl, he, _, h⟩, k + 1 => by
    have := h.drop k
    rw [he, List.drop_succ_cons, show (k + 1) * sz = us.length + k * sz by rw [hl, Nat.add_mul]; omega, List.drop_append, List.drop_eq_nil_of_le (by omega)]
    simpa using this
theorem Elems.take {S : Blk} {w : World} : ∀ {cs : List Value} {xs : List α}, Elems sz R S w cs xs → ∀ k, Elems sz R S w (cs.take (k * sz)) (xs.take k)
  | cs, [], h, k => by rw [show cs = [] from h]; simp [Elems]
  | _, x :: xs, h, 0 => by simp [Elems]
  | _, x :: xs, ⟨us, cs', hl, he, hr, h⟩, k + 1 => by
    refine ⟨us, cs'.take (k * sz), hl, ?_, hr, h.take k⟩
    rw [he, show (k + 1) * sz = us.length + k * sz by rw [hl, Nat.add_mul]; omega, List.take_append, List.take_of_length_le (by omega)]
    simp

/-- A slice whose elements read as xs. -/
def IsRow (sz : Nat) (R : Rep α) (S : Blk) (w : World) (v : Value) (xs : List α) : Prop :=
  xs.length ≤ 9223372036854775807 ∧
  ((xs = [] ∧ ∃ a c, v = .slice a 0 c ∧ (a = none → c = 0)) ∨
   (xs ≠ [] ∧ ∃ b o c, v = .slice (some ⟨b, o, none⟩) xs.length c ∧ xs.length ≤ c ∧ S b ∧ b < w.heap.size ∧ ∃ cs, Elems sz R S w cs xs ∧ ∀ j u, cs[j]? = some u → w.cell? ⟨b, o + j, none⟩ = some u))

theorem IsRow.mono (hR : R.Ok) {S S' : Blk} {w w' : World} {v : Value} {xs : List α} (h : IsRow sz R S w v xs) (hk : Sok S S' w w') : IsRow sz R S' w' v xs := by
  obtain ⟨hl, h | ⟨hne, b, o, c, rfl, hcap, hs, hlt, cs, he, hc⟩⟩ := h
  · exact ⟨hl, .inl h⟩
  · exact ⟨hl, .inr ⟨hne, b, o, c, rfl, hcap, (hk.2 b hs hlt).1, Nat.lt_of_lt_of_le hlt hk.1, cs, he.mono hR hk, fun j u hj => (World.cell?_of_block (w := w) (hk.2 b hs hlt).2).trans (hc j u hj)⟩⟩
theorem IsRow.below (hR : R.Ok) {S : Blk} {w w' : World} {v : Value} {xs : List α} (h : IsRow sz R S w v xs) (hb : Below w.heap.size w w') : IsRow sz R S w' v xs := h.mono hR (.of_below hb)
theorem IsRow.isSlice {S : Blk} {w : World} {v : Value} {xs : List α} (h : IsRow sz R S w v xs) : ∃ a c, v = .slice a xs.length c := by
  obtain ⟨hl, ⟨rfl, a, c, rfl, _⟩ | ⟨hne, b, o, c, rfl, _⟩⟩ := h
  · exact ⟨a, c, rfl⟩
  · exact ⟨_, c, rfl⟩
theorem IsRow.nil (S : Blk) (w : World) : IsRow sz R S w (.slice none 0 0) [] := ⟨by simp, .inl ⟨rfl, none, 0, rfl, fun _ => rfl⟩⟩

/-! ### A slice of the call's own, that is appended to -/
/-- Cells of one word each. -/
def Ones (cs : List Value) : Prop := ∀ u ∈ cs, u.oneCell' = true

def OwnRow (base : Nat) (e : TypeId) (sz : Nat) (R : Rep α) (S : Blk) (w : World) (v : Value) (xs : List α) : Prop :=
  ∃ cs, Elems sz R (Both' S (Off v)) w cs xs ∧ w.ownsRow base e sz v xs.length cs

theorem OwnRow.nil (base : Nat) (e : TypeId) (S : Blk) (w : World) : OwnRow base e sz R S w (.slice none 0 0) [] := ⟨[], rfl, World.ownsRow_nil _ _ _ _⟩

theorem OwnRow.block {base : Nat} {e : TypeId} {S : Blk} {w : World} {v : Value} {xs : List α} (h : OwnRow base e sz R S w v xs) : ∀ k, v.ownBlock = some k → base ≤ k ∧ k < w.heap.size := by
  obtain ⟨cs, _, ho⟩ := h; exact ho.lt

/-- What has not turned but beside it. -/
theorem OwnRow.mono (hR : R.Ok) {base : Nat} {e : TypeId} {S S' : Blk} {w w' : World} {v : Value} {xs : List α} (h : OwnRow base e sz R S w v xs) (hk : Sok S S' w w')
    (ho : ∀ k, v.ownBlock = some k → w'.heap[k]? = w.heap[k]?) : OwnRow base e sz R S' w' v xs := by
  obtain ⟨cs, he, h1, h2⟩ := h
  refine ⟨cs, he.mono hR ⟨hk.1, fun b hb hl => ⟨⟨(hk.2 b hb.1 hl).1, hb.2⟩, (hk.2 b hb.1 hl).2⟩⟩, h1, ?_⟩
  rcases h2 with h2 | ⟨g, cap, cur, hv, hb, hg, hr⟩
  · exact .inl h2
  · exact .inr ⟨g, cap, cur, hv, hb, by rw [ho g (by rw [hv]; rfl)]; exact hg, hr⟩

theorem OwnRow.below (hR : R.Ok) {base : Nat} {e : TypeId} {S : Blk} {w w' : World} {v : Value} {xs : List α} (h : OwnRow base e sz R S w v xs) (hb : Below w.heap.size w w') : OwnRow base e sz R S w' v xs :=
  h.mono hR (.of_below hb) fun k hk => hb.block k (h.block k hk).2

/-- Told as a row that is read. -/
theorem OwnRow.isRow (hR : R.Ok) {base : Nat} {e : TypeId} {S T : Blk} {w : World} {v : Value} {xs : List α} (h : OwnRow base e sz R S w v xs) (hS : ∀ b, S b → T b) (hT : ∀ b, base ≤ b → T b)
    (hl : xs.length ≤ 9223372036854775807) : IsRow sz R T w v xs := by
  obtain ⟨cs, he, h1, h2⟩ := h
  refine ⟨hl, ?_⟩
  rcases h2 with ⟨rfl, h0⟩ | ⟨g, cap, cur, rfl, hb, hg, hcap, hm, hsz, htake⟩
  · exact .inl ⟨List.eq_nil_of_length_eq_zero h0, none, 0, by rfl, fun _ => rfl⟩
  · by_cases hx : xs = []
    · subst hx; exact .inl ⟨rfl, _, cap, rfl, by simp⟩
    · refine .inr ⟨hx, g, 0, cap, rfl, hcap, hT g hb, lt_of_block hg, cs, he.mono hR (.weak fun b h => hS b h.1), fun j u hj => ?_⟩
      rw [Nat.zero_add]
      have : (⟨g, j, none⟩ : Addr) = (⟨g, 0, none⟩ : Addr).add j := by simp [Addr.add_lit]
      rw [this]
      exact World.ownsRow.cells (w := w) (base := base) (e := e) (size := sz) (v := .slice (some ⟨g, 0, none⟩) xs.length cap) (n := xs.length) ⟨h1, .inr ⟨g, cap, cur, rfl, hb, hg, hcap, hm, hsz, htake⟩⟩ rfl j u hj

section append
variable {P : Program} (w : World)

/-- 'append(v, x...)', v of the call's own, x whatever slice: what comes is v's own block grown, or a new one. -/
theorem run_app (base : Nat) (t ty e : TypeId) (i : TypeInfo) (z : Value) (size bytes : Nat) (ht : P.underlying t = some (.slice e)) (hi : P.info? e = some i) (hz : i.zero = some z)
    (hsize : i.size = size) (hby : i.bytes = bytes) (hzs : z.cells.size = size) (hsz : 0 < size)
    (v : Value) (n : Nat) (xs : List Value) (hown : w.ownsRow base e size v n xs)
    (ao : Option Addr) (m c : Nat) (news : List Value) (hnone : ao = none → m = 0 ∧ c = 0) (hl : news.length = m * size) (hnews : ∀ a, ao = some a → ∀ j u, news[j]? = some u → w.cell? (a.add j) = some u) (h1 : Ones news)
    (h63 : n + m ≤ maxLen) (hbytes : (n + m) * bytes ≤ 140737488355328) (hbase : base ≤ w.heap.size) :
    ∃ v' w', (Builtin.append_ #[t, t] ty #[v, .slice ao m c]).run P w = .ok v' w' ∧ w'.ownsRow base e size v' (n + m) (xs ++ news) ∧ w.grownBy w' v.ownBlock ∧
      (∀ b, v'.ownBlock = some b → v.ownBlock = some b ∨ w.heap.size ≤ b) := by
  cases ao with
  | none =>
    obtain ⟨rfl, rfl⟩ := hnone rfl
    have : news = [] := List.eq_nil_of_length_eq_zero (by simpa using hl)
    subst this
    refine ⟨v, w, run_append_owned_none w base t ty e i size ht hi v n xs hown, by simpa using hown, ⟨rfl, rfl, rfl, Nat.le_refl _, fun _ _ _ => rfl⟩, fun b hb => .inl hb⟩
  | some a =>
    have hnews := hnews a rfl
    have hown0 := hown
    rcases hown.2 with ⟨rfl, rfl⟩ | ⟨g, cap, cur, rfl, hbg, hg, hnc, hcm, hcs, htake⟩
    · have hx : xs = [] := List.eq_nil_of_length_eq_zero (by simpa using hown.1)
      subst hx
      obtain ⟨v', w', hr, h2, h3, h4⟩ := run_append_own (P := P) w w.heap.size t ty e i z size bytes ht hi hz hsize hby hzs hsz (.slice none 0 0) 0 [] (World.ownsRow_nil _ _ _ _) a m c news hl hnews h1 h63 hbytes (Nat.le_refl _)
      refine ⟨v', w', hr, ?_, h3, fun b hb => .inr (h2.lt b hb).1⟩
      refine ⟨h2.1, ?_⟩
      rcases h2.2 with h | ⟨g, cap, cur, hv, hb, hr⟩
      · exact .inl h
      · exact .inr ⟨g, cap, cur, hv, Nat.le_trans hbase hb, hr⟩
    · by_cases hroom : n + m ≤ cap
      · obtain ⟨w', hrun, r1, r2⟩ := run_append_fits (P := P) w base t ty e i size ht hi hsize g n cap xs hown0 a m c news hl hnews h1 hroom
        exact ⟨_, w', hrun, r1, r2, fun b hb => .inl hb⟩
      · have holds : ∀ j u, xs[j]? = some u → w.cell? ((⟨g, 0, none⟩ : Addr).add j) = some u := hown0.cells (g := g) rfl
        subst hsize; subst hby
        have hsmall : n + m ≤ 9223372036854775807 := by simp only [maxLen] at h63; omega
        have hr := run_append_grow (P := P) w t ty e i z ht hi hz ⟨g, 0, none⟩ n cap xs hown0.1 holds a m c news hl hnews (by omega) (by omega) (growslice_fits (by omega) hbytes)
        obtain ⟨v', w', hr', h2, h3, h4⟩ := run_append_own (P := P) w base t ty e i z i.size i.bytes ht hi hz rfl rfl hzs hsz _ n xs hown0 a m c news hl hnews h1 h63 hbytes hbase
        rw [hr] at hr'
        injection hr' with e1 e2
        exact ⟨v', w', by rw [hr, e1, e2], h2, h3, fun b hb => .inr (by rw [← e1] at hb; simp [Value.ownBlock] at hb; omega)⟩

theorem wpList_app {ops : Array Oper} {rest : List Oper} {o : Oper} {a : Act} {Q : Exit → Act → World → Prop} (hgd : o.guard = none) (s x : Operand) (t : TypeId)
    (ho : o.op = .call { callee := .builtin .append, args := #[s, x], argTypes := #[t, t] })
    (base : Nat) (e : TypeId) (i : TypeInfo) (z : Value) (size bytes : Nat) (ht : P.underlying t = some (.slice e)) (hi : P.info? e = some i) (hz : i.zero = some z)
    (hsize : i.size = size) (hby : i.bytes = bytes) (hzs : z.cells.size = size) (hsz : 0 < size)
    (v : Value) (n : Nat) (xs : List Value) (hs : a.eval s = v) (hown : w.ownsRow base e size v n xs)
    (ao : Option Addr) (m c : Nat) (news : List Value) (hx : a.eval x = .slice ao m c) (hnone : ao = none → m = 0 ∧ c = 0) (hl : news.length = m * size) (hnews : ∀ a, ao = some a → ∀ j u, news[j]? = some u → w.cell? (a.add j) = some u) (h1 : Ones news)
    (h63 : n + m ≤ maxLen) (hbytes : (n + m) * bytes ≤ 140737488355328) (hbase : base ≤ w.heap.size)
    (h : ∀ v' w', w'.ownsRow base e size v' (n + m) (xs ++ news) → w.grownBy w' v.ownBlock → (∀ b, v'.ownBlock = some b → v.ownBlock = some b ∨ w.heap.size ≤ b) → wpList P ops Q rest (a.put o.dst v') w') : wpList P ops Q (o :: rest) a w :=
  wpList_plain hgd fun K hK => by
    obtain ⟨v', w', hr, h2, h3, h4⟩ := run_app (P := P) w base t o.type e i z size bytes ht hi hz hsize hby hzs hsz v n xs hown ao m c news hnone hl hnews h1 h63 hbytes hbase
    unfold Oper.wp execOp
    simp only [ho, resolve, invoke, builtin, Sem.run_bind, Sem.run_pure, Result.andThen_ok, List.map_toArray, List.map_cons, List.map_nil, hs, hx, hr]
    exact hK _ _ (h v' w' h2 h3 h4)
end append

theorem below_of_grown {base : Nat} {w w' : World} {row : Option Nat} (hg : w.grownBy w' row) (hb : base ≤ w.heap.size) (hr : ∀ k, row = some k → base ≤ k) : Below base w w' :=
  (Below.refl base w).grown hg hb hr

/-- 'append(v, x...)' of ints. -/
theorem app_ints {P : Program} {w : World} {ops : Array Oper} {rest : List Oper} {o : Oper} {a : Act} {Q : Exit → Act → World → Prop} (s x : Operand) (t : TypeId) (hgd : o.guard = none)
    (ho : o.op = .call { callee := .builtin .append, args := #[s, x], argTypes := #[t, t] })
    (base : Nat) (i : TypeInfo) (ht : P.underlying t = some (.slice 3)) (hi : P.info? 3 = some i) (hz : i.zero = some (.int .i64 0)) (hsize : i.size = 1) (hby : i.bytes = 8)
    {xs ys : List Int} (hown : w.ownsRow base 3 1 (a.eval s) xs.length (xs.map (Value.int .i64))) {S : Blk} (hx : IsInts S w (a.eval x) ys)
    (hlen : xs.length + ys.length ≤ 1000000) (hbase : base ≤ w.heap.size)
    (h : ∀ v' w', w'.ownsRow base 3 1 v' (xs ++ ys).length ((xs ++ ys).map (Value.int .i64)) → Below base w w' → w.grownBy w' (a.eval s).ownBlock →
      (∀ b, v'.ownBlock = some b → (a.eval s).ownBlock = some b ∨ w.heap.size ≤ b) → wpList P ops Q rest (a.put o.dst v') w') : wpList P ops Q (o :: rest) a w := by
  obtain ⟨-, ⟨rfl, ao, c, hv, hnone⟩ | ⟨hne, b, off, c, hv, _, _, hlt, hc⟩⟩ := hx
  · refine wpList_app w hgd s x t ho base 3 i (.int .i64 0) 1 8 ht hi hz hsize hby rfl (by decide) _ _ _ rfl hown ao 0 c [] hv (fun h => ⟨rfl, hnone h⟩) rfl (fun _ _ _ _ hj => by simp at hj) (fun _ hu => by simp at hu) (by simp only [maxLen]; omega) (by omega) hbase fun v' w' h2 h3 h4 => ?_
    exact h v' w' (by simpa using h2) (below_of_grown h3 hbase fun k hk => (hown.lt k hk).1) h3 h4
  · refine wpList_app w hgd s x t ho base 3 i (.int .i64 0) 1 8 ht hi hz hsize hby rfl (by decide) _ _ _ rfl hown (some ⟨b, off, none⟩) ys.length c (ys.map (Value.int .i64)) hv (fun h => by cases h) (by simp) (fun ad hd j u hj => ?_) (fun u hu => ?_) (by simp only [maxLen]; omega) (by omega) hbase fun v' w' h2 h3 h4 => ?_
    · cases hd
      rw [List.getElem?_map] at hj
      cases hy : ys[j]? with
      | none => rw [hy] at hj; cases hj
      | some y =>
        rw [hy] at hj
        obtain ⟨hjl, rfl⟩ := List.getElem?_eq_some_iff.1 hy
        have := hc j hjl
        simp only [Option.map_some, Option.some.injEq] at hj
        rw [← hj, ← nth_eq hjl, ← this]
        simp [Addr.add_lit]
    · obtain ⟨y, _, rfl⟩ := List.mem_map.1 hu; rfl
    · refine h v' w' (by simpa using h2) (below_of_grown h3 hbase fun k hk => (hown.lt k hk).1) h3 h4

theorem ints_of_own {base : Nat} {w : World} {v : Value} {xs : List Int} (hown : w.ownsRow base 3 1 v xs.length (xs.map (Value.int .i64))) (hl : xs.length ≤ 9223372036854775807) : IsInts (Fr base) w v xs := by
  refine ⟨hl, ?_⟩
  have hown0 := hown
  rcases hown.2 with ⟨rfl, h0⟩ | ⟨g, cap, cur, rfl, hb, hg, hcap, _⟩
  · exact .inl ⟨List.eq_nil_of_length_eq_zero h0, none, 0, rfl, fun _ => rfl⟩
  · by_cases hx : xs = []
    · subst hx; exact .inl ⟨rfl, _, cap, rfl, by simp⟩
    · refine .inr ⟨hx, g, 0, cap, rfl, hcap, hb, lt_of_block hg, fun j hj => ?_⟩
      rw [Nat.zero_add, hown0.cellAt j (by omega), List.getElem?_map, List.getElem?_eq_getElem hj, nth_eq hj]; rfl

/-- 'append(v, x...)' of whatever elements. -/
theorem app_row (hR : R.Ok) {P : Program} {w : World} {ops : Array Oper} {rest : List Oper} {o : Oper} {a : Act} {Q : Exit → Act → World → Prop} (s x : Operand) (t : TypeId) (hgd : o.guard = none)
    (ho : o.op = .call { callee := .builtin .append, args := #[s, x], argTypes := #[t, t] })
    (base : Nat) (e : TypeId) (i : TypeInfo) (z : Value) (bytes : Nat) (ht : P.underlying t = some (.slice e)) (hi : P.info? e = some i) (hz : i.zero = some z) (hsize : i.size = sz) (hby : i.bytes = bytes) (hzs : z.cells.size = sz) (hsz : 0 < sz)
    {S : Blk} {xs : List α} (hown : OwnRow base e sz R S w (a.eval s) xs)
    {ao : Option Addr} {m c : Nat} {news : List Value} {ys : List α} (hx : a.eval x = .slice ao m c) (hm : m = ys.length) (hnone : ao = none → m = 0 ∧ c = 0) (hnews : ∀ a, ao = some a → ∀ j u, news[j]? = some u → w.cell? (a.add j) = some u) (h1 : Ones news)
    (hel : Elems sz R (Both' S (Off (a.eval s))) w news ys)
    (hlen : (xs.length + ys.length) * bytes ≤ 100000000) (hb0 : 0 < bytes) (hbase : base ≤ w.heap.size)
    (h : ∀ v' w', OwnRow base e sz R S w' v' (xs ++ ys) → Below base w w' → w.grownBy w' (a.eval s).ownBlock →
      (∀ b, v'.ownBlock = some b → (a.eval s).ownBlock = some b ∨ w.heap.size ≤ b) → wpList P ops Q rest (a.put o.dst v') w') : wpList P ops Q (o :: rest) a w := by
  subst hm
  obtain ⟨cs, he, hr⟩ := hown
  have hlen' : xs.length + ys.length ≤ 100000000 := Nat.le_trans (Nat.le_mul_of_pos_right _ hb0) hlen
  refine wpList_app w hgd s x t ho base e i z sz bytes ht hi hz hsize hby hzs hsz _ _ _ rfl hr ao ys.length c news hx hnone hel.length hnews h1 (by simp only [maxLen]; omega) (by omega) hbase fun v' w' h2 h3 h4 => ?_
  refine h v' w' ⟨cs ++ news, (he.append hel).mono hR ⟨h3.size, fun b hb hl => ⟨⟨hb.1, fun hv => ?_⟩, h3.block b hl (fun hk => hb.2 hk.symm)⟩⟩, by simpa using h2⟩ (below_of_grown h3 hbase fun k hk => (hr.lt k hk).1) h3 h4
  rcases h4 b hv with h5 | h5
  · exact hb.2 h5
  · omega

theorem bcell {W w1 : World} (hb : Below W.heap.size W w1) : (∀ b o, b < W.heap.size → w1.cell? ⟨b, o, none⟩ = W.cell? ⟨b, o, none⟩) ∧ (∀ b o, b < W.heap.size → w1.frozen? ⟨b, o, none⟩ = W.frozen? ⟨b, o, none⟩) :=
  ⟨fun b o h => hb.cell (p := ⟨b, o, none⟩) h, fun b o h => hb.frozen (p := ⟨b, o, none⟩) h⟩

theorem ret_int {k : IntKind} {a b : Int} (h : a = b) : Ending.returned (.int k a) = .returned (.int k b) := by rw [h]
theorem ret_bool {a b : Bool} (h : a = b) : Ending.returned (.bool a) = .returned (.bool b) := by rw [h]

/-- A new slice of ints, as a literal lays it. -/
theorem ints_lit (w : World) (base : Nat) (xs : List Int) (e : TypeId) (hb : base ≤ w.heap.size) (hl : xs.length ≤ 9223372036854775807) :
    IsInts (Fr base) (w.alloc (.cells (xs.map (Value.int .i64)).toArray e)) (.slice (some ⟨w.heap.size, 0, none⟩) xs.length xs.length) xs := by
  refine ⟨hl, ?_⟩
  by_cases hx : xs = []
  · subst hx; exact .inl ⟨rfl, _, 0, rfl, by simp⟩
  · refine .inr ⟨hx, w.heap.size, 0, _, rfl, Nat.le_refl _, hb, by simp, fun j hj => ?_⟩
    rw [World.cell?_alloc_at _ _ _ _ rfl]
    simp [nth_eq hj, hj]

theorem below_alloc (w : World) (o : Obj) : Below w.heap.size w (w.alloc o) := (Below.refl _ _).alloc (Nat.le_refl _) o

/-! ### Lists of terms -/
def TermR : Rep (List Int) := fun S w us t => ∃ u, us = [u] ∧ IsInts S w u t
theorem TermR.ok : Rep.Ok TermR := fun _ _ _ _ _ _ ⟨u, h, k⟩ hk => ⟨u, h, k.mono hk⟩
abbrev IsTerms (S : Blk) (w : World) (v : Value) (ts : List (List Int)) : Prop := IsRow 1 TermR S w v ts

/-- The cells of a list of terms. -/
theorem terms_cell {S : Blk} {w : World} {b o : Nat} {ts : List (List Int)} {cs : List Value} (he : Elems 1 TermR S w cs ts) (hc : ∀ j u, cs[j]? = some u → w.cell? ⟨b, o + j, none⟩ = some u) {j : Nat} (hj : j < ts.length) :
    ∃ u, w.cell? ⟨b, o + j, none⟩ = some u ∧ IsInts S w u (nthT ts j) := by
  obtain ⟨us, hl, hget, u, rfl, hu⟩ := he.get j hj
  have := hget 0 (by omega)
  simp at this
  exact ⟨u, hc j u this, by rw [nthT_eq hj]; exact hu⟩

/-- A function with a body is entered. -/
def Enters (g : Nat) : Prop := ∀ (args : Array Value) (w : World), (callFunc g args).run Try.prog w = .ok (.enter g args) w

theorem enters_fn {g : FuncId} {fn : Func} {c : Code} (hf : Try.prog.funcs[g]? = some fn) (hname : (fn.name == "runtime.NumGoroutine") = false) (hb : fn.body = some c) : Enters g := fun args w => by
  have h1 : fn.name ≠ "runtime.NumGoroutine" := by simpa using hname
  simp [callFunc, hf, h1, hb]

/-! ### Types of this program -/
theorem Try.inf3 : (Try.prog.info? 3).map (fun i => (i.zero, i.size, i.bytes)) = some (some (.int .i64 0), 1, 8) := by kernel_rfl
theorem Try.inf24 : (Try.prog.info? 24).map (fun i => (i.zero, i.size, i.bytes)) = some (some (.slice none 0 0), 1, 24) := by kernel_rfl

end Go.Proofs.Ytepddehodmljeaa

namespace Go.Proofs.Ytepddehodmljeaa
open Go.RowKit

theorem within_calls (n lo hi : Int) (w : World) :
    Calls Try.prog 122 #[.int .i64 n, .int .i64 lo, .int .i64 hi] w fun e w' => e = .returned (.bool (decide (lo ≤ n) && decide (n ≤ hi))) ∧ w = w' := by
  go_enter Try.func122, Try.ntmps122
  go_wp2
  all_goals (go_ret; simp_all; try omega)

theorem rsize_calls (n : Int) (w : World) :
    Calls Try.prog 123 #[.int .i64 n] w fun e w' => e = .returned (.int .i64 (ar n)) ∧ w = w' := by
  go_enter Try.func123, Try.ntmps123
  go_wp2
  all_goals (go_ret; refine ⟨ret_int ?_, rfl⟩; unfold ar; (repeat' split) <;> simp <;> omega)

theorem chk1_calls (n : Int) (w : World) :
    Calls Try.prog 121 #[.int .i64 n] w fun e w' => e = .returned (.bool (decide (n < -8) || decide (6 ≤ n))) ∧ w = w' := by
  go_enter Try.func121, Try.ntmps121
  go_wp2
  all_goals (go_ret; simp_all)

theorem tdiv2 (n : Int) : n.tdiv 2 = if 0 ≤ n then n / 2 else -((-n) / 2) := by
  split
  · rename_i h; exact Int.tdiv_eq_ediv_of_nonneg h
  · rename_i h
    have : n = -(-n) := by omega
    rw [this, Int.neg_tdiv, Int.tdiv_eq_ediv_of_nonneg (by omega)]; simp

theorem Size_calls (n : Int) (h1 : -9223372036854775807 ≤ n) (h2 : n ≤ 9223372036854775807) (w : World) :
    Calls Try.prog 173 #[.int .i64 n] w fun e w' => e = .returned (.int .i64 (ar n)) ∧ w = w' := by
  go_enter Try.func173, Try.ntmps173
  go_wp2
  all_goals (go_ret; refine ⟨ret_int ?_, rfl⟩; unfold ar; simp only [tdiv2] at *; (repeat' split at *) <;> simp <;> omega)

/-- Every sign of a list within the bounds of Go's ints, by far. -/
def Small (t : List Int) : Prop := ∀ x ∈ t, -9223372036854775807 ≤ x ∧ x ≤ 9223372036854775807

theorem skp_out {t : List Int} {k : Int} (h : ¬ (0 ≤ k ∧ k < t.length)) : skp t k = -1 := by unfold skp; rw [if_neg h]

theorem Skip_out (t : List Int) (v : Value) (w : World) (hv : IsInts Any w v t) (k : Int) (h : ¬ (0 ≤ k ∧ k < t.length)) :
    Calls Try.prog 115 #[v, .int .i64 k] w fun e w' => e = .returned (.int .i64 (skp t k)) ∧ w = w' := by
  rw [skp_out h]
  obtain ⟨hlen, ⟨rfl, a, c, rfl, -⟩ | ⟨hne, b, o, c, rfl, -, -, hlt, hc⟩⟩ := hv
  · by_cases hk : k < 0
    · go_enter Try.func115, Try.ntmps115
      go_wp2
      go_ret
      exact ⟨rfl, rfl⟩
    · go_enter Try.func115, Try.ntmps115
      go_wp2
      go_ret
      exact ⟨rfl, rfl⟩
  · by_cases hk : k < 0
    · go_enter Try.func115, Try.ntmps115
      go_wp2
      go_ret
      exact ⟨rfl, rfl⟩
    · have : (t.length : Int) ≤ k := by omega
      go_enter Try.func115, Try.ntmps115
      go_wp2
      go_ret
      exact ⟨rfl, rfl⟩

/-- Behind j parts of the term that begins at q. -/
def SkRel (t : List Int) (q j : Nat) (z : Int) : Prop :=
  (z = -1 ∧ need (t.drop (q + 1)) (ar (nth t q)) = none) ∨
  (∃ p : Nat, z = p ∧ q + 1 ≤ p ∧ p ≤ t.length ∧ need (t.drop (q + 1)) (ar (nth t q)) = need (t.drop p) (ar (nth t q) - j))

theorem skp_in {t : List Int} {q : Nat} (hq : q < t.length) : skp t q = match need (t.drop (q + 1)) (ar (nth t q)) with | some r => (t.length : Int) - r.length | none => -1 := by
  unfold skp
  rw [if_pos (by omega), Int.toNat_natCast, drop_nth hq, need_cons_succ, Nat.zero_add]

theorem SkRel.start {t : List Int} {q : Nat} (hq : q < t.length) : SkRel t q 0 (q + 1) := .inr ⟨q + 1, by simp, by omega, hq, by simp⟩

theorem SkRel.step {t : List Int} {q j : Nat} {z : Int} (hj : j < ar (nth t q)) (h : SkRel t q j z) : SkRel t q (j + 1) (skp t z) := by
  obtain ⟨rfl, h⟩ | ⟨p, rfl, h1, h2, h⟩ := h
  · exact .inl ⟨skp_out (by omega), h⟩
  · rw [show ar (nth t q) - j = (ar (nth t q) - (j + 1)) + 1 by omega, need_succ] at h
    by_cases hp : p < t.length
    · cases hn : need (t.drop p) 1 with
      | none => exact .inl ⟨by unfold skp; rw [if_pos (by omega), Int.toNat_natCast, hn], by rw [h, hn]; rfl⟩
      | some r =>
        obtain ⟨p', h3, h4, rfl⟩ := need_drop hn (by omega)
        refine .inr ⟨p', ?_, by omega, h4, by rw [h, hn]; rfl⟩
        unfold skp
        rw [if_pos (by omega), Int.toNat_natCast, hn]
        simp; omega
    · have e : t.drop p = [] := List.drop_eq_nil_of_le (by omega)
      rw [e] at h
      exact .inl ⟨skp_out (by omega), by rw [h]; rfl⟩

theorem SkRel.done {t : List Int} {q : Nat} {z : Int} (hq : q < t.length) (h : SkRel t q (ar (nth t q)) z) : skp t q = z := by
  rw [skp_in hq]
  obtain ⟨rfl, h⟩ | ⟨p, rfl, h1, h2, h⟩ := h
  · rw [h]
  · rw [h, Nat.sub_self, need_zero]; simp; omega

theorem SkRel.grows {t : List Int} {q j : Nat} {z : Int} (h : SkRel t q j z) : z = -1 ∨ (q < z ∧ z ≤ t.length) := by
  obtain ⟨rfl, -⟩ | ⟨p, rfl, h1, h2, -⟩ := h
  · exact .inl rfl
  · exact .inr (by omega)

theorem Skip_calls (t : List Int) (hs : Small t) (v : Value) (w : World) (hv : IsInts Any w v t) :
    ∀ (m : Nat) (k : Int), t.length ≤ k.toNat + m → Calls Try.prog 115 #[v, .int .i64 k] w fun e w' => e = .returned (.int .i64 (skp t k)) ∧ w = w' := by
  intro m
  induction m with
  | zero => intro k hk; exact Skip_out t v w hv k (by omega)
  | succ m ih =>
    intro k hk
    by_cases hin : 0 ≤ k ∧ k < t.length
    · obtain ⟨q, rfl⟩ : ∃ q : Nat, k = q := ⟨k.toNat, by omega⟩
      have hq : q < t.length := by omega
      have hv0 := hv
      obtain ⟨hlen, ⟨rfl, a, c, rfl, -⟩ | ⟨hne, b, o, c, rfl, -, -, hlt, hc⟩⟩ := hv
      · simp at hq
      have hcell := hc q hq
      have hsm := hs (nth t q) (nth_mem hq)
      have hcall : ∀ j z, SkRel t q j z → Calls Try.prog 115 #[.slice (some ⟨b, o, none⟩) t.length c, .int .i64 z] w fun e w' => e = .returned (.int .i64 (skp t z)) ∧ w = w' := by
        intro j z hz
        rcases hz.grows with rfl | hz
        · exact Skip_out t _ w hv0 _ (by omega)
        · exact ih z (by omega)
      clear ih hs hne hc hv0 hk hlt
      have hle := ar_le (nth t q)
      go_enter Try.func115, Try.ntmps115
      go_wp2_with (go_at_call 173; refine (Size_calls _ hsm.1 hsm.2 _).mono ?_; rintro e w' ⟨rfl, rfl⟩)
      go_loop [5, 21] (fun nx i => ∃ j : Nat, j ≤ ar (nth t q) ∧ i = .int .i64 j ∧ ∃ z : Int, nx = .int .i64 z ∧ SkRel t q j z) (fun _ i => ar (nth t q) - (intOf i).toNat)
      case atStart => exact ⟨0, Nat.zero_le _, rfl, _, rfl, SkRel.start hq⟩
      case round =>
        obtain ⟨j, hj, rfl, z, rfl, hz⟩ := hrel
        by_cases hlt : j < ar (nth t q)
        · have hz' := hz.step hlt
          have hcz := hcall j z hz
          clear hcall
          go_wp2_with (go_at_call 115; refine hcz.mono ?_; rintro e w' ⟨rfl, rfl⟩)
          go_round
          case rel => exact ⟨j + 1, by omega, by go_num, _, rfl, hz'⟩
          case measure => simp [intOf]; omega
        · have : j = ar (nth t q) := by omega
          subst this
          have hd := Lib.hid (hz.done hq)
          clear hcall
          go_wp2
          go_ret
          exact ⟨ret_int hd.out.symm, rfl⟩
    · exact Skip_out t v w hv k hin

/-! ### slices.IndexFunc, ContainsFunc at a predicate that only reckons -/
def idxF (p : Int → Bool) : List Int → Nat → Int
  | [], _ => -1
  | x :: t, k => if p x then k else idxF p t (k + 1)

theorem idxF_skip {p : Int → Bool} : ∀ (t : List Int) (k m : Nat), m ≤ t.length → (∀ j, j < m → p (nth t j) = false) → idxF p t k = idxF p (t.drop m) (k + m)
  | t, k, 0, _, _ => by simp
  | [], k, m + 1, h, _ => by simp at h
  | x :: t, k, m + 1, h, hp => by
    have h0 := hp 0 (by omega)
    rw [nth_cons_zero] at h0
    rw [idxF, h0]
    simp only [Bool.false_eq_true, if_false, List.drop_succ_cons]
    rw [idxF_skip t (k + 1) m (by simpa using h) (fun j hj => by have := hp (j + 1) (by omega); rwa [nth_cons_succ] at this)]
    congr 1; omega

theorem idxF_nonneg {p : Int → Bool} : ∀ (t : List Int) (k : Nat), decide (0 ≤ idxF p t k) = t.any p
  | [], k => by simp [idxF]
  | x :: t, k => by
    rw [idxF, List.any_cons]
    cases h : p x
    · simpa using idxF_nonneg t (k + 1)
    · simp

theorem IndexFunc_calls (t : List Int) (v : Value) (g : Nat) (cap : Array Value) (p : Int → Bool) (w : World) (hv : IsInts Any w v t) (he : Enters g)
    (hf : ∀ x, x ∈ t → Calls Try.prog g (#[.int .i64 x] ++ cap) w fun e w' => e = .returned (.bool (p x)) ∧ w = w') :
    Calls Try.prog 175 #[v, .func (.func g) #[] cap] w fun e w' => e = .returned (.int .i64 (idxF p t 0)) ∧ w = w' := by
  obtain ⟨hlen, ⟨rfl, a, c, rfl, -⟩ | ⟨hne, b, o, c, rfl, -, -, hlt, hc⟩⟩ := hv
  · go_enter Try.func175, Try.ntmps175
    go_wp2_with fail
    refine wp_loop_rounds 1 ?_
    rw [rounds_succ]
    go_wp2_with fail
    go_ret
    exact ⟨rfl, rfl⟩
  · have he' : ∀ args w, (callFunc g args).run Try.prog w = .ok (.enter g args) w := he
    clear he
    go_enter Try.func175, Try.ntmps175
    go_wp2_with fail
    go_loop [8] (fun i => ∃ k : Nat, k ≤ t.length ∧ i = .int .i64 k ∧ ∀ j, j < k → p (nth t j) = false) (fun i => t.length - (intOf i).toNat)
    case atStart => exact ⟨0, Nat.zero_le _, rfl, fun _ h => by omega⟩
    case round =>
      obtain ⟨k, hk, rfl, hp⟩ := hrel
      have hP := Lib.hid hp
      clear hp
      by_cases hlt' : k < t.length
      · have hcell := hc k hlt'
        have hfx := hf (nth t k) (nth_mem hlt')
        clear hc hf
        cases hpx : p (nth t k)
        · rw [hpx] at hfx
          have hpx := Lib.hid hpx
          have Hfx := Lib.hid hfx
          clear hfx
          go_wp2_with fail
          refine Hfx.out.mono ?_
          rintro e w' ⟨rfl, rfl⟩
          clear Hfx
          go_wp2_with fail
          go_round
          case rel => exact ⟨k + 1, by omega, by go_num, fun j hj => by by_cases e : j = k; (subst e; exact hpx.out); exact hP.out j (by omega)⟩
          case measure => simp [intOf]; omega
        · rw [hpx] at hfx
          have hfin : Hid (idxF p t 0 = k) := by
            rw [Hid, idxF_skip t 0 k hk hP.out, drop_nth hlt', idxF, hpx]; simp
          clear hpx
          have Hfx := Lib.hid hfx
          clear hfx
          go_wp2_with fail
          refine Hfx.out.mono ?_
          rintro e w' ⟨rfl, rfl⟩
          clear Hfx
          go_wp2_with fail
          go_ret
          exact ⟨ret_int hfin.out.symm, rfl⟩
      · have hkl : k = t.length := by omega
        subst hkl
        have hfin : Hid (idxF p t 0 = -1) := by
          rw [Hid, idxF_skip t 0 _ hk hP.out]; simp [idxF]
        clear hc hf
        go_wp2_with fail
        go_ret
        exact ⟨ret_int hfin.out.symm, rfl⟩

theorem ContainsFunc_calls (t : List Int) (v : Value) (g : Nat) (cap : Array Value) (p : Int → Bool) (w : World) (hv : IsInts Any w v t) (he : Enters g)
    (hf : ∀ x, x ∈ t → Calls Try.prog g (#[.int .i64 x] ++ cap) w fun e w' => e = .returned (.bool (p x)) ∧ w = w') :
    Calls Try.prog 120 #[v, .func (.func g) #[] cap] w fun e w' => e = .returned (.bool (t.any p)) ∧ w = w' := by
  have h := IndexFunc_calls t v g cap p w hv he hf
  clear he
  have hn := Lib.hid (idxF_nonneg (p := p) t 0)
  clear hf
  go_enter Try.func120, Try.ntmps120
  go_wp2_with (go_at_call 175; refine h.mono ?_; rintro e w' ⟨rfl, rfl⟩; clear h)
  go_ret
  exact ⟨ret_bool hn.out, rfl⟩

/-! ### term.Check, haspref.TermError -/
theorem small_of_chk {t : List Int} (h : t.any (fun n => decide (n < -8) || decide (6 ≤ n)) = false) : Small t := by
  intro x hx
  have := List.any_eq_false.1 h x hx
  simp at this
  omega

theorem skp_zero (t : List Int) : (skp t 0 = t.length) ↔ need t 1 = some [] := by
  unfold skp
  cases t with
  | nil => simp [need]
  | cons a t =>
    rw [if_pos (by simp)]
    simp only [Int.toNat_zero, List.drop_zero]
    cases h : need (a :: t) 1 with
    | none => simp; omega
    | some r => cases r <;> simp; omega

theorem Check_calls (t : List Int) (v : Value) (w : World) (hv : IsInts Any w v t) :
    Calls Try.prog 56 #[v] w fun e w' => e = .returned (.int .i64 (chk t)) ∧ w = w' := by
  obtain ⟨a, c, rfl⟩ := hv.isSlice
  have hfin : Hid (chk t = chk t) := rfl
  by_cases h1 : 30 < t.length
  · have hr : Hid (chk t = 2) := by rw [Hid, chk, if_pos h1]
    have : 30 < (t.length : Int) := by omega
    clear hv
    go_enter Try.func56, Try.ntmps56
    go_wp2_with fail
    go_ret
    exact ⟨ret_int hr.out.symm, rfl⟩
  · have h1' : (t.length : Int) ≤ 30 := by omega
    have hcf := ContainsFunc_calls t _ 121 #[] (fun n => decide (n < -8) || decide (6 ≤ n)) w hv (enters_fn Try.func121 (by kernel_rfl) rfl) (fun x _ => chk1_calls x w)
    cases h2 : t.any (fun n => decide (n < -8) || decide (6 ≤ n))
    · rw [h2] at hcf
      have hs := small_of_chk h2
      have hsk := Skip_calls t hs _ w hv t.length 0 (by simp)
      by_cases h3 : need t 1 = some []
      · have hr : Hid (chk t = 0) := by rw [Hid, chk, if_neg h1, h2, if_neg (by simp), if_pos h3]
        rw [(skp_zero t).2 h3] at hsk
        clear h2 h3 hs hv h1
        go_enter Try.func56, Try.ntmps56
        go_wp2_with fail
        refine hcf.mono ?_
        rintro e w' ⟨rfl, rfl⟩
        go_wp2_with fail
        refine hsk.mono ?_
        rintro e w' ⟨rfl, rfl⟩
        clear hcf hsk
        go_wp2_with fail
        go_ret
        exact ⟨ret_int hr.out.symm, rfl⟩
      · have hr : Hid (chk t = 1) := by rw [Hid, chk, if_neg h1, h2, if_neg (by simp), if_neg h3]
        have h4 : (skp t 0 != t.length) = true := by rw [bne_iff_ne]; exact fun h => h3 ((skp_zero t).1 h)
        clear h2 h3 hs hv h1
        go_enter Try.func56, Try.ntmps56
        go_wp2_with fail
        refine hcf.mono ?_
        rintro e w' ⟨rfl, rfl⟩
        go_wp2_with fail
        refine hsk.mono ?_
        rintro e w' ⟨rfl, rfl⟩
        clear hcf hsk
        go_wp2_with fail
        go_ret
        exact ⟨ret_int hr.out.symm, rfl⟩
    · have hr : Hid (chk t = 3) := by rw [Hid, chk, if_neg h1, h2, if_pos rfl]
      rw [h2] at hcf
      clear h2 hv h1
      go_enter Try.func56, Try.ntmps56
      go_wp2_with fail
      refine hcf.mono ?_
      rintro e w' ⟨rfl, rfl⟩
      clear hcf
      go_wp2_with fail
      go_ret
      exact ⟨ret_int hr.out.symm, rfl⟩

/-- Behind k signs: so many terms are still open. -/
def TeRel (t : List Int) (k : Nat) (z : Int) : Prop := ∃ m : Nat, z = m ∧ m ≤ 1 + 2 * k ∧ need t 1 = need (t.drop k) m

theorem TermError_calls (t : List Int) (v : Value) (w : World) (hv : IsInts Any w v t) :
    Calls Try.prog 57 #[v] w fun e w' => e = .returned (.int .i64 (chk t)) ∧ w = w' := by
  obtain ⟨a, c, rfl⟩ := hv.isSlice
  by_cases h1 : 30 < t.length
  · have hr : Hid (chk t = 2) := by rw [Hid, chk, if_pos h1]
    have : 30 < (t.length : Int) := by omega
    clear hv
    go_enter Try.func57, Try.ntmps57
    go_wp2_with fail
    go_ret
    exact ⟨ret_int hr.out.symm, rfl⟩
  · have h1' : (t.length : Int) ≤ 30 := by omega
    obtain ⟨hlen, ⟨rfl, a, c, hv, -⟩ | ⟨hne, b, o, c, hv, -, -, hlt, hc⟩⟩ := hv
    · cases hv
      go_enter Try.func57, Try.ntmps57
      go_wp2_with fail
      refine wp_loop_rounds 1 ?_
      rw [rounds_succ]
      go_wp2_with fail
      refine wp_loop_rounds 1 ?_
      rw [rounds_succ]
      go_wp2_with fail
      go_ret
      exact ⟨rfl, rfl⟩
    · cases hv
      have hchk : Hid (chk t = if t.any (fun n => decide (n < -8) || decide (6 ≤ n)) then 3 else if need t 1 = some [] then 0 else 1) := by rw [Hid, chk, if_neg h1]
      clear h1
      go_enter Try.func57, Try.ntmps57
      go_wp2_with fail
      go_loop [3] (fun i => ∃ k : Nat, k ≤ t.length ∧ i = .int .i64 k ∧ ∀ j, j < k → (decide (nth t j < -8) || decide (6 ≤ nth t j)) = false) (fun i => t.length - (intOf i).toNat)
      case atStart => exact ⟨0, Nat.zero_le _, rfl, fun _ h => by omega⟩
      case round =>
        obtain ⟨k, hk, rfl, hp⟩ := hrel
        have hP := Lib.hid hp
        clear hp
        by_cases hlt' : k < t.length
        · have hcell := hc k hlt'
          cases hpx : (decide (-8 ≤ nth t k) && decide (nth t k ≤ 5))
          · have hq : t.any (fun n => decide (n < -8) || decide (6 ≤ n)) = true := by
              rw [List.any_eq_true]
              refine ⟨nth t k, nth_mem hlt', ?_⟩
              simp at hpx ⊢
              omega
            rw [hq] at hchk
            have hw := within_calls (nth t k) (-8) 5 w
            rw [hpx] at hw
            clear hc hpx hq
            have hW := Lib.hid hw
            clear hw
            go_wp2_with (go_at_call 122; refine hW.out.mono ?_; rintro e w' ⟨rfl, rfl⟩)
            go_ret
            exact ⟨ret_int (by rw [hchk.out]; rfl), rfl⟩
          · have hw := within_calls (nth t k) (-8) 5 w
            rw [hpx] at hw
            have hpx := Lib.hid hpx
            have hW := Lib.hid hw
            have hC := Lib.hid hc
            clear hw hc
            go_wp2_with (go_at_call 122; refine hW.out.mono ?_; rintro e w' ⟨rfl, rfl⟩)
            go_round
            case rel =>
              refine ⟨k + 1, by omega, by go_num, fun j hj => ?_⟩
              by_cases e : j = k
              · subst e; have := hpx.out; simp at this ⊢; omega
              · exact hP.out j (by omega)
            case measure => simp [intOf]; omega
        · have hkl : k = t.length := by omega
          subst hkl
          have hq : t.any (fun n => decide (n < -8) || decide (6 ≤ n)) = false := by
            rw [List.any_eq_false]
            intro x hx
            obtain ⟨j, hj, rfl⟩ := List.getElem_of_mem hx
            have := hP.out j hj
            rw [nth_eq hj] at this
            simpa using this
          rw [hq] at hchk
          have hC := Lib.hid hc
          clear hc hP hq
          go_wp2_with fail
          go_loop [4, 5] (fun op i => ∃ k : Nat, k ≤ t.length ∧ i = .int .i64 k ∧ ∃ z : Int, op = .int .i64 z ∧ TeRel t k z) (fun _ i => t.length - (intOf i).toNat)
          case atStart => exact ⟨0, Nat.zero_le _, rfl, 1, rfl, 1, rfl, by omega, by simp⟩
          case round =>
            obtain ⟨k, hk, rfl, z, rfl, m, rfl, hm, hn⟩ := hrel
            have hN := Lib.hid hn
            clear hn
            by_cases hlt' : k < t.length
            · have hcell := hC.out k hlt'
              have har := ar_le (nth t k)
              cases m with
              | zero =>
                have hr : Hid (chk t = 1) := by
                  rw [Hid, hchk.out, hN.out, need_zero]
                  simp; omega
                go_wp2_with fail
                go_ret
                exact ⟨ret_int hr.out.symm, rfl⟩
              | succ m =>
                have hne0 : (((m + 1 : Nat) : Int) == 0) = false := by simp; omega
                go_wp2_with (go_at_call 123; refine (rsize_calls _ _).mono ?_; rintro e w' ⟨rfl, rfl⟩)
                go_round
                case rel =>
                  refine ⟨k + 1, by omega, by go_num, _, rfl, m + ar (nth t k), ?_, by omega, ?_⟩
                  · simp
                  · rw [hN.out, drop_nth hlt', need_cons_succ]
                case measure => simp [intOf]; omega
            · have hkl : k = t.length := by omega
              subst hkl
              have hd : Hid (chk t = if m = 0 then 0 else 1) := by
                rw [Hid, hchk.out, hN.out, List.drop_length]
                cases m <;> simp [need]
              by_cases hm0 : m = 0
              · subst hm0
                go_wp2_with fail
                go_ret
                exact ⟨ret_int (by rw [hd.out]; rfl), rfl⟩
              · have hne0 : ((m : Int) != 0) = true := by rw [bne_iff_ne]; omega
                go_wp2_with fail
                go_ret
                exact ⟨ret_int (by rw [hd.out, if_neg hm0]), rfl⟩

end Go.Proofs.Ytepddehodmljeaa

namespace Go.Proofs.Ytepddehodmljeaa
open Go.RowKit

theorem drewN_add (w : World) (n m : Nat) : (w.drewN n).drewN m = w.drewN (n + m) := by simp [World.drewN, Nat.add_assoc]
theorem below_drewN (B : Nat) (w : World) (n : Nat) : Below B w (w.drewN n) := ⟨rfl, rfl, rfl, Nat.le_refl _, fun _ _ => rfl⟩

theorem Equal_calls (s t : List Int) (u v : Value) (w : World) (hu : IsInts Any w u s) (hv : IsInts Any w v t) :
    Calls Try.prog 144 #[u, v] w fun e w' => e = .returned (.bool (decide (s = t))) ∧ ∃ n, w' = w.drewN n := by
  obtain ⟨a, c, rfl⟩ := hu.isSlice
  obtain ⟨a', c', rfl⟩ := hv.isSlice
  by_cases hl : s.length = t.length
  · obtain ⟨hlen, ⟨rfl, a1, c1, e1, -⟩ | ⟨hne, b, o, c, e1, -, -, hlt, hc⟩⟩ := hu
    · cases e1
      obtain rfl : t = [] := List.eq_nil_of_length_eq_zero (by simpa using hl.symm)
      clear hv hl
      go_enter Try.func144, Try.ntmps144
      go_wp2_with fail
      refine wp_loop_rounds 1 ?_
      rw [rounds_succ]
      go_wp2_with fail
      go_ret
      exact ⟨rfl, 0, rfl⟩
    · cases e1
      obtain ⟨hlen2, ⟨rfl, -⟩ | ⟨hne2, b2, o2, c2, e2, -, -, hlt2, hc2⟩⟩ := hv
      · exact absurd (List.eq_nil_of_length_eq_zero hl) hne
      cases e2
      rw [← hl]
      have hL := Lib.hid hl
      clear hl
      go_enter Try.func144, Try.ntmps144
      go_wp2_with fail
      go_loopw [13] (fun i wr => ∃ k : Nat, k ≤ s.length ∧ i = .int .i64 k ∧ (∀ j, j < k → nth s j = nth t j) ∧ ∃ n, wr = w.drewN n) (fun i _ => s.length - (intOf i).toNat)
      case atStart => exact ⟨0, Nat.zero_le _, rfl, fun _ h => by omega, 0, rfl⟩
      case round =>
        obtain ⟨k, hk, rfl, hp, n, rfl⟩ := hrel
        have hP := Lib.hid hp
        clear hp
        by_cases hlt' : k < s.length
        · have hcell := hc k hlt'
          have hcell2 := hc2 k (by rw [← hL.out]; exact hlt')
          have hi : (k : Int) < s.length := by omega
          by_cases hx : nth s k = nth t k
          · have hX := Lib.hid hx
            have hx' : (nth s k != nth t k) = false := by simpa using hx
            clear hx hc hc2
            go_wp2_with fail
            go_quiet (fail)
            go_wp2_with fail
            go_roundw
            case rel =>
              refine ⟨k + 1, by omega, by go_num, fun j hj => ?_, _, rfl⟩
              by_cases e : j = k
              · subst e; exact hX.out
              · exact hP.out j (by omega)
            case measure => simp [intOf]; omega
          · have hx' : (nth s k != nth t k) = true := by simpa using hx
            have hfin : Hid (s ≠ t) := by
              rintro rfl; exact hx rfl
            clear hx hc hc2
            go_wp2_with fail
            go_quiet (fail)
            go_wp2_with fail
            go_ret
            exact ⟨ret_bool (decide_eq_false hfin.out).symm, _, drewN_add _ _ _⟩
        · have hkl : k = s.length := by omega
          subst hkl
          have hfin : Hid (s = t) := ext_nth hL.out hP.out
          clear hc hc2
          go_wp2_with fail
          go_ret
          exact ⟨ret_bool (decide_eq_true hfin.out).symm, _, rfl⟩
  · have hfin : Hid (s ≠ t) := by rintro rfl; exact hl rfl
    have hl' : ((s.length : Int) != t.length) = true := by rw [bne_iff_ne]; omega
    clear hu hv hl
    go_enter Try.func144, Try.ntmps144
    go_wp2_with fail
    go_ret
    exact ⟨ret_bool (decide_eq_false hfin.out).symm, 0, rfl⟩

theorem SameTerms_calls (s t : List Int) (u v : Value) (w : World) (hu : IsInts Any w u s) (hv : IsInts Any w v t) :
    Calls Try.prog 39 #[u, v] w fun e w' => e = .returned (.bool (decide (s = t))) ∧ ∃ n, w' = w.drewN n := by
  obtain ⟨a, c, rfl⟩ := hu.isSlice
  obtain ⟨a', c', rfl⟩ := hv.isSlice
  by_cases hl : s.length = t.length
  · obtain ⟨hlen, ⟨rfl, a1, c1, e1, -⟩ | ⟨hne, b, o, c, e1, -, -, hlt, hc⟩⟩ := hu
    · cases e1
      obtain rfl : t = [] := List.eq_nil_of_length_eq_zero (by simpa using hl.symm)
      clear hv hl
      go_enter Try.func39, Try.ntmps39
      go_wp2_with fail
      refine wp_loop_rounds 1 ?_
      rw [rounds_succ]
      go_wp2_with fail
      go_ret
      exact ⟨rfl, 0, rfl⟩
    · cases e1
      obtain ⟨hlen2, ⟨rfl, -⟩ | ⟨hne2, b2, o2, c2, e2, -, -, hlt2, hc2⟩⟩ := hv
      · exact absurd (List.eq_nil_of_length_eq_zero hl) hne
      cases e2
      rw [← hl]
      have hL := Lib.hid hl
      clear hl
      go_enter Try.func39, Try.ntmps39
      go_wp2_with fail
      go_loopw [5] (fun i wr => ∃ k : Nat, k ≤ s.length ∧ i = .int .i64 k ∧ (∀ j, j < k → nth s j = nth t j) ∧ ∃ n, wr = w.drewN n) (fun i _ => s.length - (intOf i).toNat)
      case atStart => exact ⟨0, Nat.zero_le _, rfl, fun _ h => by omega, 0, rfl⟩
      case round =>
        obtain ⟨k, hk, rfl, hp, n, rfl⟩ := hrel
        have hP := Lib.hid hp
        clear hp
        by_cases hlt' : k < s.length
        · have hcell := hc k hlt'
          have hcell2 := hc2 k (by rw [← hL.out]; exact hlt')
          have hi : (k : Int) < s.length := by omega
          by_cases hx : nth s k = nth t k
          · have hX := Lib.hid hx
            have hx' : (nth s k != nth t k) = false := by simpa using hx
            clear hx hc hc2
            go_wp2_with fail
            go_quiet (fail)
            go_wp2_with fail
            go_roundw
            case rel =>
              refine ⟨k + 1, by omega, by go_num, fun j hj => ?_, _, rfl⟩
              by_cases e : j = k
              · subst e; exact hX.out
              · exact hP.out j (by omega)
            case measure => simp [intOf]; omega
          · have hx' : (nth s k != nth t k) = true := by simpa using hx
            have hfin : Hid (s ≠ t) := by
              rintro rfl; exact hx rfl
            clear hx hc hc2
            go_wp2_with fail
            go_quiet (fail)
            go_wp2_with fail
            go_ret
            exact ⟨ret_bool (decide_eq_false hfin.out).symm, _, drewN_add _ _ _⟩
        · have hkl : k = s.length := by omega
          subst hkl
          have hfin : Hid (s = t) := ext_nth hL.out hP.out
          clear hc hc2
          go_wp2_with fail
          go_ret
          exact ⟨ret_bool (decide_eq_true hfin.out).symm, _, rfl⟩
  · have hfin : Hid (s ≠ t) := by rintro rfl; exact hl rfl
    have hl' : ((s.length : Int) != t.length) = true := by rw [bne_iff_ne]; omega
    clear hu hv hl
    go_enter Try.func39, Try.ntmps39
    go_wp2_with fail
    go_ret
    exact ⟨ret_bool (decide_eq_false hfin.out).symm, 0, rfl⟩

theorem Fits_big (t : List Int) (v : Value) (w : World) (hv : IsInts Any w v t) (h : 30 < t.length) :
    Calls Try.prog 99 #[v] w fun e w' => e = .returned (.tuple #[.slice none 0 0, .int .i64 2]) ∧ w = w' := by
  obtain ⟨a, c, rfl⟩ := hv.isSlice
  have : 30 < (t.length : Int) := by omega
  clear hv
  go_enter Try.func99, Try.ntmps99
  go_wp2_with fail
  go_ret2
  exact ⟨rfl, rfl⟩
theorem Fits_ok (t : List Int) (v : Value) (w : World) (hv : IsInts Any w v t) (h : t.length ≤ 30) :
    Calls Try.prog 99 #[v] w fun e w' => e = .returned (.tuple #[v, .int .i64 0]) ∧ w = w' := by
  obtain ⟨a, c, rfl⟩ := hv.isSlice
  have : (t.length : Int) ≤ 30 := by omega
  clear hv
  go_enter Try.func99, Try.ntmps99
  go_wp2_with fail
  go_ret2
  exact ⟨rfl, rfl⟩

/-- The first error of two terms. -/
def chk2 (s t : List Int) : Int := if chk s = 0 then chk t else chk s

theorem Both_calls (s t : List Int) (u v : Value) (w : World) (hu : IsInts Any w u s) (hv : IsInts Any w v t) :
    Calls Try.prog 107 #[u, v] w fun e w' => e = .returned (.int .i64 (chk2 s t)) ∧ w = w' := by
  have h1 := Lib.hid (Check_calls s u w hu)
  have h2 := Lib.hid (Check_calls t v w hv)
  clear hu hv
  by_cases h : chk s = 0
  · have hr : Hid (chk2 s t = chk t) := by rw [Hid, chk2, if_pos h]
    go_enter Try.func107, Try.ntmps107
    go_wp2_with fail
    refine h1.out.mono ?_
    rintro e w' ⟨rfl, rfl⟩
    go_wp2_with fail
    refine h2.out.mono ?_
    rintro e w' ⟨rfl, rfl⟩
    clear h1 h2
    go_wp2_with fail
    go_ret
    exact ⟨ret_int hr.out.symm, rfl⟩
  · have hr : Hid (chk2 s t = chk s) := by rw [Hid, chk2, if_neg h]
    have h' : (chk s != 0) = true := by simpa using h
    clear h
    go_enter Try.func107, Try.ntmps107
    go_wp2_with fail
    refine h1.out.mono ?_
    rintro e w' ⟨rfl, rfl⟩
    clear h1 h2
    go_wp2_with fail
    go_ret
    exact ⟨ret_int hr.out.symm, rfl⟩

theorem twoErrors_calls (s t : List Int) (u v : Value) (w : World) (hu : IsInts Any w u s) (hv : IsInts Any w v t) :
    Calls Try.prog 109 #[u, v] w fun e w' => e = .returned (.int .i64 (chk2 s t)) ∧ w = w' := by
  have h1 := Lib.hid (TermError_calls s u w hu)
  have h2 := Lib.hid (TermError_calls t v w hv)
  clear hu hv
  by_cases h : chk s = 0
  · have hr : Hid (chk2 s t = chk t) := by rw [Hid, chk2, if_pos h]
    go_enter Try.func109, Try.ntmps109
    go_wp2_with fail
    refine h1.out.mono ?_
    rintro e w' ⟨rfl, rfl⟩
    go_wp2_with fail
    refine h2.out.mono ?_
    rintro e w' ⟨rfl, rfl⟩
    clear h1 h2
    go_wp2_with fail
    go_ret
    exact ⟨ret_int hr.out.symm, rfl⟩
  · have hr : Hid (chk2 s t = chk s) := by rw [Hid, chk2, if_neg h]
    have h' : (chk s != 0) = true := by simpa using h
    clear h
    go_enter Try.func109, Try.ntmps109
    go_wp2_with fail
    refine h1.out.mono ?_
    rintro e w' ⟨rfl, rfl⟩
    clear h1 h2
    go_wp2_with fail
    go_ret
    exact ⟨ret_int hr.out.symm, rfl⟩

/-- Check, and is there such a place? -/
def plc (t : List Int) (k : Int) : Int := if chk t = 0 then (if 0 ≤ k ∧ k < t.length then 0 else 3) else chk t

theorem placed_calls (t : List Int) (v : Value) (k : Int) (w : World) (hv : IsInts Any w v t) :
    Calls Try.prog 113 #[v, .int .i64 k] w fun e w' => e = .returned (.int .i64 (plc t k)) ∧ w = w' := by
  have h1 := Lib.hid (Check_calls t v w hv)
  obtain ⟨a, c, rfl⟩ := hv.isSlice
  clear hv
  by_cases h : chk t = 0
  · by_cases hk : k < 0
    · have hr : Hid (plc t k = 3) := by rw [Hid, plc, if_pos h, if_neg (by omega)]
      go_enter Try.func113, Try.ntmps113
      go_wp2_with fail
      refine h1.out.mono ?_
      rintro e w' ⟨rfl, rfl⟩
      clear h1
      go_wp2_with fail
      go_ret
      exact ⟨ret_int hr.out.symm, rfl⟩
    · by_cases hk2 : k < t.length
      · have hr : Hid (plc t k = 0) := by rw [Hid, plc, if_pos h, if_pos (by omega)]
        go_enter Try.func113, Try.ntmps113
        go_wp2_with fail
        refine h1.out.mono ?_
        rintro e w' ⟨rfl, rfl⟩
        clear h1
        go_wp2_with fail
        go_ret
        exact ⟨ret_int hr.out.symm, rfl⟩
      · have hr : Hid (plc t k = 3) := by rw [Hid, plc, if_pos h, if_neg (by omega)]
        go_enter Try.func113, Try.ntmps113
        go_wp2_with fail
        refine h1.out.mono ?_
        rintro e w' ⟨rfl, rfl⟩
        clear h1
        go_wp2_with fail
        go_ret
        exact ⟨ret_int hr.out.symm, rfl⟩
  · have hr : Hid (plc t k = chk t) := by rw [Hid, plc, if_neg h]
    have h' : (chk t != 0) = true := by simpa using h
    clear h
    go_enter Try.func113, Try.ntmps113
    go_wp2_with fail
    refine h1.out.mono ?_
    rintro e w' ⟨rfl, rfl⟩
    clear h1
    go_wp2_with fail
    go_ret
    exact ⟨ret_int hr.out.symm, rfl⟩

theorem PlaceError_calls (t : List Int) (v : Value) (k : Int) (w : World) (hv : IsInts Any w v t) :
    Calls Try.prog 118 #[v, .int .i64 k] w fun e w' => e = .returned (.int .i64 (plc t k)) ∧ w = w' := by
  have h1 := Lib.hid (TermError_calls t v w hv)
  have hlen := hv.1
  obtain ⟨a, c, rfl⟩ := hv.isSlice
  clear hv
  by_cases h : chk t = 0
  · cases hb : (decide (0 ≤ k) && decide (k ≤ (t.length : Int) - 1))
    · have hr : Hid (plc t k = 3) := by rw [Hid, plc, if_pos h, if_neg (by simp at hb; omega)]
      have hw := within_calls k 0 ((t.length : Int) - 1) w
      rw [hb] at hw
      have hW := Lib.hid hw
      clear hw hb
      go_enter Try.func118, Try.ntmps118
      go_wp2_with fail
      refine h1.out.mono ?_
      rintro e w' ⟨rfl, rfl⟩
      clear h1
      go_wp2_with (go_at_call 122; refine hW.out.mono ?_; rintro e w' ⟨rfl, rfl⟩)
      go_ret
      exact ⟨ret_int hr.out.symm, rfl⟩
    · have hr : Hid (plc t k = 0) := by rw [Hid, plc, if_pos h, if_pos (by simp at hb; omega)]
      have hw := within_calls k 0 ((t.length : Int) - 1) w
      rw [hb] at hw
      have hW := Lib.hid hw
      clear hw hb
      go_enter Try.func118, Try.ntmps118
      go_wp2_with fail
      refine h1.out.mono ?_
      rintro e w' ⟨rfl, rfl⟩
      clear h1
      go_wp2_with (go_at_call 122; refine hW.out.mono ?_; rintro e w' ⟨rfl, rfl⟩)
      go_ret
      exact ⟨ret_int hr.out.symm, rfl⟩
  · have hr : Hid (plc t k = chk t) := by rw [Hid, plc, if_neg h]
    have h' : (chk t != 0) = true := by simpa using h
    clear h
    go_enter Try.func118, Try.ntmps118
    go_wp2_with fail
    refine h1.out.mono ?_
    rintro e w' ⟨rfl, rfl⟩
    clear h1
    go_wp2_with fail
    go_ret
    exact ⟨ret_int hr.out.symm, rfl⟩

/-- The term that begins at k, in the same memory. -/
theorem At_calls (S : Blk) (t : List Int) (hs : Small t) (v : Value) (k n : Nat) (w : World) (hv : IsInts S w v t) (hk : skp t k = n) (hkn : k < n) (hn : n ≤ t.length) :
    Calls Try.prog 117 #[v, .int .i64 k] w fun e w' => ∃ v', e = .returned v' ∧ IsInts S w v' ((t.drop k).take (n - k)) ∧ w = w' := by
  have h1 := Lib.hid (Skip_calls t hs v w hv.any t.length k (by omega))
  have h2 : Hid (IsInts S w v t) := hv
  obtain ⟨hlen, ⟨rfl, -⟩ | ⟨hne, b, o, c, rfl, hcap, hS, hlt, hc⟩⟩ := hv
  · simp at hn; omega
  have hfin : Hid (IsInts S w (.slice (some ⟨b, o + k, none⟩) (n - k) (n - k)) ((t.drop k).take (n - k))) := by
    have hl : ((t.drop k).take (n - k)).length = n - k := by simp; omega
    refine ⟨by omega, .inr ⟨fun h => by rw [h] at hl; simp at hl; omega, b, o + k, n - k, by rw [hl], by omega, hS, hlt, fun j hj => ?_⟩⟩
    rw [nth_take (by omega), nth_drop, Nat.add_assoc]
    exact hc (k + j) (by omega)
  clear hc hs h2
  rw [hk] at h1
  clear hk hne
  go_enter Try.func117, Try.ntmps117
  go_wp2_with fail
  refine h1.out.mono ?_
  rintro e w' ⟨rfl, rfl⟩
  clear h1
  go_wp2_with fail
  go_ret
  exact ⟨_, rfl, hfin.out, rfl⟩

end Go.Proofs.Ytepddehodmljeaa

namespace Go.Proofs.Ytepddehodmljeaa
open Go.RowKit

/-- The first error in a list of terms. -/
def chkL : List (List Int) → Int
  | [] => 0
  | t :: ts => if chk t = 0 then chkL ts else chk t

theorem chkL_skip : ∀ (ts : List (List Int)) (k : Nat), k ≤ ts.length → (∀ j, j < k → chk (nthT ts j) = 0) → chkL ts = chkL (ts.drop k)
  | ts, 0, _, _ => by simp
  | [], k + 1, h, _ => by simp at h
  | t :: ts, k + 1, h, hp => by
    have h0 : chk t = 0 := hp 0 (by omega)
    rw [chkL, if_pos h0, List.drop_succ_cons]
    exact chkL_skip ts k (by simpa using h) (fun j hj => by have := hp (j + 1) (by omega); simpa [nthT, List.getD] using this)
theorem chkL_at {ts : List (List Int)} {k : Nat} (hk : k < ts.length) (hp : ∀ j, j < k → chk (nthT ts j) = 0) (h : chk (nthT ts k) ≠ 0) : chkL ts = chk (nthT ts k) := by
  rw [chkL_skip ts k (by omega) hp, List.drop_eq_getElem_cons hk, chkL, ← nthT_eq hk, if_neg h]
theorem chkL_all {ts : List (List Int)} (hp : ∀ j, j < ts.length → chk (nthT ts j) = 0) : chkL ts = 0 := by
  rw [chkL_skip ts _ (Nat.le_refl _) hp]; simp [chkL]

def chkS (s : List (List Int)) : Int := if s.length = 8 then chkL s else 1

theorem SubCheck_calls (s : List (List Int)) (v : Value) (w : World) (hv : IsTerms Any w v s) :
    Calls Try.prog 37 #[v] w fun e w' => e = .returned (.int .i64 (chkS s)) ∧ w = w' := by
  obtain ⟨a, c, rfl⟩ := hv.isSlice
  by_cases hl : s.length = 8
  · have hr : Hid (chkS s = chkL s) := by rw [Hid, chkS, if_pos hl]
    obtain ⟨hlen, ⟨rfl, -⟩ | ⟨hne, b, o, c, e, -, -, hlt, cs, he, hc⟩⟩ := hv
    · simp at hl
    cases e
    have hcell : Hid (∀ j, j < s.length → ∃ u, w.cell? ⟨b, o + j, none⟩ = some u ∧ IsInts Any w u (nthT s j)) := fun j hj => terms_cell he hc hj
    rw [hl]
    have hl := Lib.hid hl
    clear he hc hne
    go_enter Try.func37, Try.ntmps37
    go_wp2_with fail
    go_loop [11] (fun i => ∃ k : Nat, k ≤ 8 ∧ i = .int .i64 k ∧ ∀ j, j < k → chk (nthT s j) = 0) (fun i => 8 - (intOf i).toNat)
    case atStart => exact ⟨0, Nat.zero_le _, rfl, fun _ h => by omega⟩
    case round =>
      obtain ⟨k, hk, rfl, hp⟩ := hrel
      have hP := Lib.hid hp
      clear hp
      by_cases hlt' : k < 8
      · obtain ⟨u, hcu, hu⟩ := hcell.out k (by rw [hl.out]; exact hlt')
        have h1 := Lib.hid (Check_calls _ u w hu)
        clear hu
        by_cases hx : chk (nthT s k) = 0
        · go_wp2_with fail
          refine h1.out.mono ?_
          rintro e w' ⟨rfl, rfl⟩
          clear h1
          go_wp2_with fail
          have hX := Lib.hid hx
          clear hx
          go_round
          case rel =>
            refine ⟨k + 1, by omega, by go_num, fun j hj => ?_⟩
            by_cases e : j = k
            · subst e; exact hX.out
            · exact hP.out j (by omega)
          case measure => simp [intOf]; omega
        · have hx' : (chk (nthT s k) != 0) = true := by simpa using hx
          have hfin : Hid (chkS s = chk (nthT s k)) := by rw [Hid, hr.out, chkL_at (by rw [hl.out]; exact hlt') hP.out hx]
          clear hx
          go_wp2_with fail
          refine h1.out.mono ?_
          rintro e w' ⟨rfl, rfl⟩
          clear h1
          go_wp2_with fail
          go_ret
          exact ⟨ret_int hfin.out.symm, rfl⟩
      · have hkl : k = 8 := by omega
        subst hkl
        have hfin : Hid (chkS s = 0) := by rw [Hid, hr.out, chkL_all (by rw [hl.out]; exact hP.out)]
        go_wp2_with fail
        go_ret
        exact ⟨ret_int hfin.out.symm, rfl⟩
  · have hr : Hid (chkS s = 1) := by rw [Hid, chkS, if_neg hl]
    have hl' : ((s.length : Int) != 8) = true := by rw [bne_iff_ne]; omega
    clear hv hl
    go_enter Try.func37, Try.ntmps37
    go_wp2_with fail
    go_ret
    exact ⟨ret_int hr.out.symm, rfl⟩

theorem SubError_calls (s : List (List Int)) (v : Value) (w : World) (hv : IsTerms Any w v s) :
    Calls Try.prog 38 #[v] w fun e w' => e = .returned (.int .i64 (chkS s)) ∧ w = w' := by
  obtain ⟨a, c, rfl⟩ := hv.isSlice
  by_cases hl : s.length = 8
  · have hr : Hid (chkS s = chkL s) := by rw [Hid, chkS, if_pos hl]
    obtain ⟨hlen, ⟨rfl, -⟩ | ⟨hne, b, o, c, e, -, -, hlt, cs, he, hc⟩⟩ := hv
    · simp at hl
    cases e
    have hcell : Hid (∀ j, j < s.length → ∃ u, w.cell? ⟨b, o + j, none⟩ = some u ∧ IsInts Any w u (nthT s j)) := fun j hj => terms_cell he hc hj
    rw [hl]
    have hl := Lib.hid hl
    clear he hc hne
    go_enter Try.func38, Try.ntmps38
    go_wp2_with fail
    go_loop [3] (fun i => ∃ k : Nat, k ≤ 8 ∧ i = .int .i64 k ∧ ∀ j, j < k → chk (nthT s j) = 0) (fun i => 8 - (intOf i).toNat)
    case atStart => exact ⟨0, Nat.zero_le _, rfl, fun _ h => by omega⟩
    case round =>
      obtain ⟨k, hk, rfl, hp⟩ := hrel
      have hP := Lib.hid hp
      clear hp
      by_cases hlt' : k < 8
      · obtain ⟨u, hcu, hu⟩ := hcell.out k (by rw [hl.out]; exact hlt')
        have h1 := Lib.hid (TermError_calls _ u w hu)
        clear hu
        by_cases hx : chk (nthT s k) = 0
        · go_wp2_with fail
          refine h1.out.mono ?_
          rintro e w' ⟨rfl, rfl⟩
          clear h1
          go_wp2_with fail
          have hX := Lib.hid hx
          clear hx
          go_round
          case rel =>
            refine ⟨k + 1, by omega, by go_num, fun j hj => ?_⟩
            by_cases e : j = k
            · subst e; exact hX.out
            · exact hP.out j (by omega)
          case measure => simp [intOf]; omega
        · have hx' : (chk (nthT s k) != 0) = true := by simpa using hx
          have hfin : Hid (chkS s = chk (nthT s k)) := by rw [Hid, hr.out, chkL_at (by rw [hl.out]; exact hlt') hP.out hx]
          clear hx
          go_wp2_with fail
          refine h1.out.mono ?_
          rintro e w' ⟨rfl, rfl⟩
          clear h1
          go_wp2_with fail
          go_ret
          exact ⟨ret_int hfin.out.symm, rfl⟩
      · have hkl : k = 8 := by omega
        subst hkl
        have hfin : Hid (chkS s = 0) := by rw [Hid, hr.out, chkL_all (by rw [hl.out]; exact hP.out)]
        go_wp2_with fail
        go_ret
        exact ⟨ret_int hfin.out.symm, rfl⟩
  · have hr : Hid (chkS s = 1) := by rw [Hid, chkS, if_neg hl]
    have hl' : ((s.length : Int) != 8) = true := by rw [bne_iff_ne]; omega
    clear hv hl
    go_enter Try.func38, Try.ntmps38
    go_wp2_with fail
    go_ret
    exact ⟨ret_int hr.out.symm, rfl⟩

end Go.Proofs.Ytepddehodmljeaa

namespace Go.Proofs.Ytepddehodmljeaa
open Go.RowKit

/-- What a call may have done: blocks of M may have turned, nothing else that was there. -/
structure Keeps (M : Blk) (w w' : World) : Prop where
  os : w'.os = w.os
  tape : w'.tape = w.tape
  output : w'.output = w.output
  size : w.heap.size ≤ w'.heap.size
  block : ∀ k, k < w.heap.size → ¬ M k → w'.heap[k]? = w.heap[k]?

theorem Keeps.refl (M : Blk) (w : World) : Keeps M w w := ⟨rfl, rfl, rfl, Nat.le_refl _, fun _ _ _ => rfl⟩
theorem Keeps.of_below {M : Blk} {w w' : World} (h : Below w.heap.size w w') : Keeps M w w' := ⟨h.os, h.tape, h.output, h.size, fun k hk _ => h.block k hk⟩
theorem Keeps.below {w w' : World} (h : Keeps (fun _ => False) w w') : Below w.heap.size w w' := ⟨h.os, h.tape, h.output, h.size, fun k hk => h.block k hk id⟩
theorem Keeps.trans {M : Blk} {a b c : World} (h : Keeps M a b) (k : Keeps M b c) : Keeps M a c :=
  ⟨k.os.trans h.os, k.tape.trans h.tape, k.output.trans h.output, Nat.le_trans h.size k.size, fun i hi hm => (k.block i (Nat.lt_of_lt_of_le hi h.size) hm).trans (h.block i hi hm)⟩
theorem Keeps.weak {M M' : Blk} {w w' : World} (h : Keeps M w w') (hm : ∀ b, b < w.heap.size → M b → M' b) : Keeps M' w w' :=
  ⟨h.os, h.tape, h.output, h.size, fun k hk hn => h.block k hk fun hx => hn (hm k hk hx)⟩
/-- What came behind w is of no account. -/
theorem Keeps.from {M : Blk} {n : Nat} {w a b : World} (h : Keeps M w a) (k : Keeps (fun i => M i ∨ n ≤ i) a b) (hn : w.heap.size ≤ n) : Keeps M w b :=
  ⟨k.os.trans h.os, k.tape.trans h.tape, k.output.trans h.output, Nat.le_trans h.size k.size, fun i hi hm =>
    (k.block i (Nat.lt_of_lt_of_le hi h.size) (by rintro (hx | hx); exact hm hx; omega)).trans (h.block i hi hm)⟩
theorem Keeps.of_grown {n : Nat} {w w' : World} {row : Option Nat} (hg : w.grownBy w' row) (hr : ∀ k, row = some k → n ≤ k) (M : Blk) : Keeps (fun i => M i ∨ n ≤ i) w w' :=
  ⟨hg.os, hg.tape, hg.output, hg.size, fun k hk hm => hg.block k hk fun e => hm (.inr (hr k e.symm))⟩
theorem Keeps.sok {M S : Blk} {w w' : World} (h : Keeps M w w') (hs : ∀ b, b < w.heap.size → S b → ¬ M b) : Sok S S w w' :=
  ⟨h.size, fun b hb hl => ⟨hb, h.block b hl (hs b hl hb)⟩⟩

theorem ownsRow_keep {w w' : World} {base : Nat} {e : TypeId} {size : Nat} {v : Value} {n : Nat} {xs : List Value} (h : w.ownsRow base e size v n xs) (hb : ∀ k, v.ownBlock = some k → w'.heap[k]? = w.heap[k]?) : w'.ownsRow base e size v n xs := by
  obtain ⟨h1, h2⟩ := h
  refine ⟨h1, ?_⟩
  rcases h2 with h2 | ⟨g, cap, cur, rfl, hg, hh, r⟩
  · exact Or.inl h2
  · exact Or.inr ⟨g, cap, cur, rfl, hg, by rw [hb g rfl]; exact hh, r⟩

theorem joinF_le {f : Nat → List Int} {n : Nat} (h : ∀ k, k < n → (joinF f (k + 1)).length ≤ 1000000) : (joinF f n).length ≤ 9223372036854775807 := by
  cases n with
  | zero => simp [joinF]
  | succ n => exact Nat.le_trans (h n (by omega)) (by omega)

set_option maxHeartbeats 1000000 in
/-- sub.Each: the function value g, with what it has captured, makes of the k-th sign what 'f k' says; it may turn blocks of M alone; J tells its own state. -/
theorem Each_calls (t : List Int) (v : Value) (g : Nat) (cap : Array Value) (f : Nat → List Int) (M : Blk) (J : Nat → World → Prop) (w : World) (he : Enters g) (hv : IsInts (fun b => ¬ M b) w v t)
    (hJ0 : J 0 w) (hM : ∀ b, M b → b < w.heap.size)
    (hJ : ∀ k W W', J k W → Keeps (fun i => w.heap.size ≤ i) W W' → w.heap.size ≤ W.heap.size → J k W')
    (hf : ∀ k W, k < t.length → J k W → Keeps M w W → Calls Try.prog g (#[.int .i64 (nth t k)] ++ cap) W fun e W' => ∃ u, e = .returned u ∧ IsInts Any W' u (f k) ∧ J (k + 1) W' ∧ Keeps M W W')
    (hlen : ∀ k, k < t.length → (joinF f (k + 1)).length ≤ 1000000) :
    Calls Try.prog 166 #[v, .func (.func g) #[] cap] w fun e w' => ∃ u, e = .returned u ∧ IsInts (Fr w.heap.size) w' u (joinF f t.length) ∧ J t.length w' ∧ Keeps M w w' := by
  obtain ⟨i3, hi, hz, hsz, hby⟩ := info_parts Try.inf3
  obtain ⟨hln, ⟨rfl, a, c, rfl, -⟩ | ⟨hne, b, o, c, rfl, -, hnM, hlt, hc⟩⟩ := hv
  · have HJ := Lib.hid hJ0
    clear hf hJ hM hJ0 he hlen
    go_enter Try.func166, Try.ntmps166
    go_wp2_with fail
    refine wp_loop_rounds 1 ?_
    rw [rounds_succ]
    go_wp2_with fail
    go_ret
    exact ⟨_, rfl, .nil _ _, HJ.out, .refl _ _⟩
  · have he' : ∀ args w, (callFunc g args).run Try.prog w = .ok (.enter g args) w := he
    have HJ0 := Lib.hid hJ0
    have HJ := Lib.hid hJ
    have HM := Lib.hid hM
    have HF := Lib.hid hf
    have HL := Lib.hid hlen
    have HC := Lib.hid hc
    have HN := Lib.hid hnM
    clear he hf hJ hM hJ0 hlen hc hne hnM
    go_enter Try.func166, Try.ntmps166
    go_wp2_with fail
    go_loopw [5, 10] (fun out i wr => ∃ k : Nat, k ≤ t.length ∧ i = .int .i64 k ∧ Hid (wr.ownsRow w.heap.size 3 1 out (joinF f k).length ((joinF f k).map (Value.int .i64)) ∧ J k wr ∧ Keeps M w wr)) (fun _ i _ => t.length - (intOf i).toNat)
    case atStart => exact ⟨0, Nat.zero_le _, rfl, World.ownsRow_nil _ _ _ _, HJ0.out, .refl _ _⟩
    case round =>
      obtain ⟨k, hk, rfl, hR⟩ := hrel
      by_cases hlt' : k < t.length
      · have hcell : wr.cell? ⟨b, o + k, none⟩ = some (.int .i64 (nth t k)) := (World.cell?_of_block (w := w) (hR.out.2.2.block b hlt HN.out)).trans (HC.out k hlt')
        go_wp2_with fail
        refine (HF.out k wr hlt' hR.out.2.1 hR.out.2.2).mono ?_
        rintro e w1 ⟨u, rfl, hu, hJ1, hK1⟩
        have hown1 : w1.ownsRow w.heap.size 3 1 u5 (joinF f k).length ((joinF f k).map (Value.int .i64)) :=
          ownsRow_keep hR.out.1 fun j hj => hK1.block j (hR.out.1.lt j hj).2 fun hm => absurd (HM.out j hm) (by have := (hR.out.1.lt j hj).1; omega)
        have hO := Lib.hid hown1
        have hU := Lib.hid hu
        have hJ' := Lib.hid hJ1
        have hK' := Lib.hid (hR.out.2.2.trans hK1)
        have hsz1 := (hR.out.2.2.trans hK1).size
        have hL1 := Lib.hid (HL.out k hlt')
        clear hown1 hu hJ1 hK1 hcell
        go_wp2_with (at_builtin; refine app_ints _ _ 24 rfl rfl w.heap.size i3 Try.underlying24 hi hz hsz hby hO.out hU.out ?c1 ?c2 ?c3; rotate_left 2; intro v' w2 hown2 hb2 hg2 _)
        case c1 =>
          have := hL1.out
          rw [joinF, List.length_append] at this
          exact this
        case c2 => exact hsz1
        go_roundw
        case rel =>
          have hgr : ∀ j, (u5 : Value).ownBlock = some j → w.heap.size ≤ j := fun j hj => (hO.out.lt j hj).1
          refine ⟨k + 1, by omega, by go_num, hown2, HJ.out _ _ _ hJ'.out ?_ hsz1, ?_⟩
          · exact (Keeps.of_grown hg2 hgr (fun _ => False)).weak fun b _ h => h.resolve_left id
          · exact Keeps.from hK'.out (Keeps.of_grown hg2 hgr M) (Nat.le_refl _)
        case measure => simp [intOf]; omega
      · have hkl : k = t.length := by omega
        subst hkl
        go_wp2_with fail
        go_ret
        refine ⟨_, rfl, ints_of_own hR.out.1 ?_, hR.out.2.1, hR.out.2.2⟩
        exact joinF_le HL.out

theorem By1_calls (s : List (List Int)) (sv : Value) (B : Nat) (n : Int) (W : World) (hn : -8 ≤ n) (hn2 : n < 6) (hl : s.length = 8) (hs : IsTerms Any W sv s) (hB : W.cell? ⟨B, 0, none⟩ = some sv) :
    Calls Try.prog 167 #[.int .i64 n, .pointer (some ⟨B, 0, none⟩)] W fun e W' => ∃ u, e = .returned u ∧ IsInts Any W' u (sb s n) ∧ Below W.heap.size W W' := by
  by_cases h0 : n < 0
  · have hr : Hid (sb s n = nthT s (-1 - n).toNat) := by rw [Hid, sb, if_pos h0]
    have hm : (-1 - n).toNat < 8 := by omega
    obtain ⟨hlen, ⟨rfl, -⟩ | ⟨hne, b, o, c, rfl, -, -, hlt, cs, he, hc⟩⟩ := hs
    · simp at hl
    obtain ⟨u, hcu, hu⟩ := terms_cell he hc (j := (-1 - n).toNat) (by omega)
    rw [hl] at hB
    have hU := Lib.hid hu
    clear he hc hne hl hu
    go_enter Try.func167, Try.ntmps167
    go_wp2_with fail
    go_ret
    exact ⟨_, rfl, by rw [hr.out]; exact hU.out, .refl _ _⟩
  · have hr : Hid (sb s n = [n]) := by rw [Hid, sb, if_neg h0]
    have h0' : 0 ≤ n := by omega
    clear hs hB
    go_enter Try.func167, Try.ntmps167
    go_wp2_with fail
    go_ret
    refine ⟨_, rfl, ?_, below_alloc _ _⟩
    rw [hr.out]
    exact (ints_lit W W.heap.size [n] 3 (Nat.le_refl _) (by simp)).any

/-- Signs of a right term. -/
def Signs (t : List Int) : Prop := ∀ x ∈ t, -8 ≤ x ∧ x < 6
theorem signs_of_chk {t : List Int} (h : chk t = 0) : Signs t := by
  intro x hx
  unfold chk at h
  split at h
  · simp at h
  · split at h
    · simp at h
    · rename_i h2
      have := List.any_eq_false.1 (Bool.not_eq_true _ ▸ h2) x hx
      simp at this; omega
theorem len_of_chk {t : List Int} (h : chk t = 0) : t.length ≤ 30 := by
  unfold chk at h
  split at h
  · simp at h
  · omega
theorem chk_nil : chk [] = 1 := rfl
theorem ne_of_chk {t : List Int} (h : chk t = 0) : t ≠ [] := by rintro rfl; rw [chk_nil] at h; simp at h

/-- A list that is right: eight right terms. -/
def RightS (s : List (List Int)) : Prop := s.length = 8 ∧ ∀ t ∈ s, chk t = 0
theorem chkL_zero {ts : List (List Int)} : chkL ts = 0 ↔ ∀ t ∈ ts, chk t = 0 := by
  induction ts with
  | nil => simp [chkL]
  | cons t ts ih =>
    rw [chkL]
    split
    · rename_i h; rw [ih]; simp [h]
    · rename_i h; simp [h]
theorem chkS_zero {s : List (List Int)} : chkS s = 0 ↔ RightS s := by
  unfold chkS RightS
  split
  · rename_i h; rw [chkL_zero]; simp [h]
  · rename_i h; simp [h]

theorem sb_len {s : List (List Int)} (hs : RightS s) {n : Int} (hn : -8 ≤ n) : (sb s n).length ≤ 30 := by
  unfold sb
  split
  · exact len_of_chk (hs.2 _ (nthT_mem (by rw [hs.1]; omega)))
  · simp
theorem app_len {s : List (List Int)} (hs : RightS s) {t : List Int} (ht : Signs t) : (app s t).length ≤ t.length * 30 :=
  flatMap_len _ _ _ fun x hx => sb_len hs (ht x hx).1

theorem below_box {S : Blk} {w : World} {v : Value} {s : List (List Int)} (h : IsTerms S w v s) (o : Obj) : IsTerms S (w.alloc o) v s := h.below TermR.ok (below_alloc w o)

theorem By_calls (s : List (List Int)) (t : List Int) (u v : Value) (w : World) (hs : RightS s) (ht : Signs t) (htl : t.length ≤ 1000) (hu : IsTerms Any w u s) (hv : IsInts Any w v t) :
    Calls Try.prog 100 #[u, v] w fun e w' => ∃ x, e = .returned x ∧ IsInts (Fr w.heap.size) w' x (app s t) ∧ Below w.heap.size w w' := by
  have hfin := Lib.hid (joinF_all (sb s) t)
  obtain ⟨a, c, rfl⟩ := hu.isSlice
  have hE := Lib.hid (Each_calls t v 167 #[.pointer (some ⟨w.heap.size, 0, none⟩)] (fun k => sb s (nth t k)) (fun _ => False)
    (fun _ W => Below (w.heap.size + 1) (w.alloc (.cells #[.slice a s.length c] 22)) W) (w.alloc (.cells #[.slice a s.length c] 22)) (enters_fn Try.func167 (by kernel_rfl) rfl)
    (hv.mono ⟨by simp, fun b _ hb => ⟨id, Below.heap_alloc _ _ _ hb⟩⟩) (.refl _ _) (fun _ h => h.elim)
    (fun k W W' h hk hz => h.trans ⟨hk.os, hk.tape, hk.output, hk.size, fun i hi => hk.block i (by have := h.size; simp at this hz; omega) (by simp; omega)⟩)
    (fun k W hk h _ => by
      have hx := ht _ (nth_mem hk)
      refine (By1_calls s (.slice a s.length c) w.heap.size (nth t k) W hx.1 hx.2 hs.1 ?_ ?_).mono ?_
      · exact (below_box hu _).mono TermR.ok ⟨h.size, fun b hb hl => ⟨hb, h.block b (by simpa using hl)⟩⟩
      · exact (h.cell (p := ⟨w.heap.size, 0, none⟩) (by simp)).trans (World.cell?_alloc_at _ _ _ _ rfl)
      · rintro e W' ⟨x, rfl, hx, hb⟩
        exact ⟨x, rfl, hx, h.trans (hb.mono (by have := h.size; simpa using this)), .of_below hb⟩)
    (fun k hk => by
      rw [joinF_flatMap _ _ _ hk]
      have h1 := flatMap_len (sb s) 30 (t.take (k + 1)) (fun x hx => sb_len hs (ht x (List.mem_of_mem_take hx)).1)
      have h2 : (t.take (k + 1)).length ≤ 1000 := by simp; omega
      exact Nat.le_trans h1 (by omega)))
  clear hs ht hu hv htl
  go_enter Try.func100, Try.ntmps100
  go_wp2_with fail
  refine hE.out.mono ?_
  rintro e w' ⟨x, rfl, hx, hJ, hK⟩
  go_wp2_with fail
  go_ret
  rw [hfin.out] at hx
  refine ⟨_, rfl, hx.mono (.weak fun b hb => Nat.le_trans (by simp) hb), (below_alloc w _).trans (hJ.mono (by simp))⟩

end Go.Proofs.Ytepddehodmljeaa

namespace Go.Proofs.Ytepddehodmljeaa
open Go.RowKit

/-- The error of Apply, and what comes. -/
def applyE (s : List (List Int)) (t : List Int) : Int := if chkS s ≠ 0 then chkS s else if chk t ≠ 0 then chk t else if 30 < (app s t).length then 2 else 0
def applyT (s : List (List Int)) (t : List Int) : List Int := if applyE s t = 0 then app s t else []

theorem apply_s {s : List (List Int)} {t : List Int} (h : chkS s ≠ 0) : applyE s t = chkS s ∧ applyT s t = [] := by
  have : applyE s t = chkS s := by rw [applyE, if_pos h]
  exact ⟨this, by rw [applyT, this, if_neg h]⟩
theorem apply_t {s : List (List Int)} {t : List Int} (h : chkS s = 0) (h2 : chk t ≠ 0) : applyE s t = chk t ∧ applyT s t = [] := by
  have : applyE s t = chk t := by rw [applyE, if_neg (by simpa using h), if_pos h2]
  exact ⟨this, by rw [applyT, this, if_neg h2]⟩
theorem apply_big {s : List (List Int)} {t : List Int} (h : chkS s = 0) (h2 : chk t = 0) (h3 : 30 < (app s t).length) : applyE s t = 2 ∧ applyT s t = [] := by
  have : applyE s t = 2 := by rw [applyE, if_neg (by simpa using h), if_neg (by simpa using h2), if_pos h3]
  exact ⟨this, by rw [applyT, this, if_neg (by omega)]⟩
theorem apply_ok {s : List (List Int)} {t : List Int} (h : chkS s = 0) (h2 : chk t = 0) (h3 : (app s t).length ≤ 30) : applyE s t = 0 ∧ applyT s t = app s t := by
  have : applyE s t = 0 := by rw [applyE, if_neg (by simpa using h), if_neg (by simpa using h2), if_neg (by omega)]
  exact ⟨this, by rw [applyT, this, if_pos rfl]⟩

theorem ints_one (w : World) (x : Int) (e : TypeId) : IsInts (Fr w.heap.size) (w.alloc (.cells #[.int .i64 x] e)) (.slice (some ⟨w.heap.size, 0, none⟩) 1 1) [x] := ints_lit w w.heap.size [x] e (Nat.le_refl _) (by simp)

theorem Apply_calls (s : List (List Int)) (t : List Int) (u v : Value) (w : World) (hu : IsTerms Any w u s) (hv : IsInts Any w v t) :
    Calls Try.prog 34 #[u, v] w fun e w' => ∃ x, e = .returned (.tuple #[x, .int .i64 (applyE s t)]) ∧ IsInts (Fr w.heap.size) w' x (applyT s t) ∧ Below w.heap.size w w' := by
  have h1 := Lib.hid (SubCheck_calls s u w hu)
  have h2 := Lib.hid (Check_calls t v w hv)
  by_cases hs : chkS s = 0
  · by_cases ht : chk t = 0
    · have h3 := Lib.hid (By_calls s t u v w (chkS_zero.1 hs) (signs_of_chk ht) (by have := len_of_chk ht; omega) hu hv)
      by_cases hb : 30 < (app s t).length
      · have hr := Lib.hid (apply_big hs ht hb)
        clear hu hv
        go_enter Try.func34, Try.ntmps34
        go_wp2_with fail
        refine h1.out.mono ?_
        rintro e w' ⟨rfl, rfl⟩
        go_wp2_with fail
        refine h2.out.mono ?_
        rintro e w' ⟨rfl, rfl⟩
        clear h1 h2
        go_wp2_with fail
        refine h3.out.mono ?_
        rintro e w1 ⟨x, rfl, hx, hB⟩
        go_wp2_with fail
        refine (Fits_big _ _ _ hx.any hb).mono ?_
        rintro e w' ⟨rfl, rfl⟩
        go_wp2_with fail
        go_ret2
        exact ⟨_, by rw [hr.out.1]; rfl, by rw [hr.out.2]; exact .nil _ _, hB⟩
      · have hr := Lib.hid (apply_ok hs ht (by omega))
        clear hu hv
        go_enter Try.func34, Try.ntmps34
        go_wp2_with fail
        refine h1.out.mono ?_
        rintro e w' ⟨rfl, rfl⟩
        go_wp2_with fail
        refine h2.out.mono ?_
        rintro e w' ⟨rfl, rfl⟩
        clear h1 h2
        go_wp2_with fail
        refine h3.out.mono ?_
        rintro e w1 ⟨x, rfl, hx, hB⟩
        go_wp2_with fail
        refine (Fits_ok _ _ _ hx.any (by omega)).mono ?_
        rintro e w' ⟨rfl, rfl⟩
        go_wp2_with fail
        go_ret2
        exact ⟨_, by rw [hr.out.1]; rfl, by rw [hr.out.2]; exact hx, hB⟩
    · have hr := Lib.hid (apply_t hs ht)
      have ht' : (chk t != 0) = true := by simpa using ht
      clear hu hv ht
      go_enter Try.func34, Try.ntmps34
      go_wp2_with fail
      refine h1.out.mono ?_
      rintro e w' ⟨rfl, rfl⟩
      go_wp2_with fail
      refine h2.out.mono ?_
      rintro e w' ⟨rfl, rfl⟩
      clear h1 h2
      go_wp2_with fail
      go_ret2
      exact ⟨_, by rw [hr.out.1]; rfl, by rw [hr.out.2]; exact .nil _ _, .refl _ _⟩
  · have hr := Lib.hid (apply_s (t := t) hs)
    have hs' : (chkS s != 0) = true := by simpa using hs
    clear hu hv hs
    go_enter Try.func34, Try.ntmps34
    go_wp2_with fail
    refine h1.out.mono ?_
    rintro e w' ⟨rfl, rfl⟩
    clear h1 h2
    go_wp2_with fail
    go_ret2
    exact ⟨_, by rw [hr.out.1]; rfl, by rw [hr.out.2]; exact .nil _ _, .refl _ _⟩

set_option maxRecDepth 100000 in
theorem applied_calls (s : List (List Int)) (t : List Int) (u v : Value) (w : World) (hs : RightS s) (ht : Signs t) (htl : t.length ≤ 1000) (hu : IsTerms Any w u s) (hv : IsInts Any w v t) :
    Calls Try.prog 101 #[u, v] w fun e w' => ∃ x, e = .returned x ∧ IsInts (Fr w.heap.size) w' x (app s t) ∧ Below w.heap.size w w' := by
  have hfin := Lib.hid (joinF_all (sb s) t)
  obtain ⟨i3, hi, hz, hsz, hby⟩ := info_parts Try.inf3
  have hlenF : ∀ k, k ≤ t.length → (joinF (fun k => sb s (nth t k)) k).length ≤ 30000 := by
    intro k hk
    rw [joinF_flatMap _ _ _ hk]
    have h1 := flatMap_len (sb s) 30 (t.take k) (fun x hx => sb_len hs (ht x (List.mem_of_mem_take hx)).1)
    have h2 : (t.take k).length ≤ 1000 := by simp; omega
    exact Nat.le_trans h1 (by omega)
  have hL := Lib.hid hlenF
  clear hlenF
  have hSB := Lib.hid (fun (n : Int) (h : -8 ≤ n) => sb_len hs h)
  obtain ⟨hlen, ⟨rfl, -⟩ | ⟨hne, b, o, c, rfl, -, -, hlt, cs, he, hc⟩⟩ := hu
  · simp [RightS] at hs
  have hT : Hid (∀ j, j < 8 → ∃ u, w.cell? ⟨b, o + j, none⟩ = some u ∧ IsInts Any w u (nthT s j)) := fun j hj => terms_cell he hc (by rw [hs.1]; exact hj)
  have hsl := hs.1
  rw [hsl]
  clear he hc hne hsl hs hlen
  obtain ⟨hlen2, ⟨rfl, a2, c2, rfl, -⟩ | ⟨hne2, b2, o2, c2, rfl, -, -, hlt2, hc2⟩⟩ := hv
  · clear ht htl
    go_enter Try.func101, Try.ntmps101
    go_wp2_with fail
    refine wp_loop_rounds 1 ?_
    rw [rounds_succ]
    go_wp2_with fail
    go_ret
    exact ⟨_, rfl, .nil _ _, .refl _ _⟩
  · have hC := Lib.hid hc2
    have hS := Lib.hid ht
    clear ht hc2 hne2
    go_enter Try.func101, Try.ntmps101
    go_wp2_with fail
    go_loopw [5, 6] (fun out i wr => ∃ k : Nat, k ≤ t.length ∧ i = .int .i64 k ∧ Hid (wr.ownsRow w.heap.size 3 1 out (joinF (fun k => sb s (nth t k)) k).length ((joinF (fun k => sb s (nth t k)) k).map (Value.int .i64)) ∧ Below w.heap.size w wr)) (fun _ i _ => t.length - (intOf i).toNat)
    case atStart => exact ⟨0, Nat.zero_le _, rfl, World.ownsRow_nil _ _ _ _, .refl _ _⟩
    case round =>
      obtain ⟨k, hk, rfl, hR⟩ := hrel
      by_cases hlt' : k < t.length
      · have hcell : wr.cell? ⟨b2, o2 + k, none⟩ = some (.int .i64 (nth t k)) := (hR.out.2.cell (p := ⟨b2, o2 + k, none⟩) hlt2).trans (hC.out k hlt')
        have hsn := hS.out _ (nth_mem hlt')
        obtain ⟨hn1, hn2⟩ := hsn
        have hle := Lib.hid (hL.out k hk)
        by_cases h0 : nth t k < 0
        · have hr : Hid (sb s (nth t k) = nthT s ((-nth t k).toNat - 1)) := by rw [Hid, sb, if_pos h0, show (-1 - nth t k).toNat = (-nth t k).toNat - 1 by omega]
          obtain ⟨x, hcx, hx⟩ := hT.out ((-nth t k).toNat - 1) (by omega)
          have hcx' : wr.cell? ⟨b, o + ((-nth t k).toNat - 1), none⟩ = some x := (hR.out.2.cell (p := ⟨b, o + ((-nth t k).toNat - 1), none⟩) hlt).trans hcx
          have hX : Hid (IsInts Any wr x (nthT s ((-nth t k).toNat - 1))) := hx.below (hR.out.2.mono (Nat.le_refl _))
          clear hcx hx
          go_wp2_with (at_builtin; refine app_ints _ _ 24 rfl rfl w.heap.size i3 Try.underlying24 hi hz hsz hby hR.out.1 hX.out ?c1 ?c2 ?c3; rotate_left 2; intro v' w2 hown2 hb2 hg2 _)
          case c1 =>
            rw [← hr.out]
            have := hle.out
            have := hSB.out _ hn1
            omega
          case c2 => exact hR.out.2.size
          go_roundw
          case rel => exact ⟨k + 1, by omega, by go_num, by rw [← hr.out] at hown2; exact hown2, hR.out.2.trans hb2⟩
          case measure => simp [intOf]; omega
        · have h0' : 0 ≤ nth t k := by omega
          have hr : Hid (sb s (nth t k) = [nth t k]) := by rw [Hid, sb, if_neg h0]
          have hsize := hR.out.2.size
          have hX := Lib.hid (ints_one wr (nth t k) 3).any
          clear h0
          go_wp2_with (at_builtin; refine app_ints _ _ 24 rfl rfl w.heap.size i3 Try.underlying24 hi hz hsz hby (hR.out.1.alloc _) hX.out ?d1 ?d2 ?d3; rotate_left 2; intro v' w2 hown2 hb2 hg2 _)
          case d1 =>
            have := hle.out
            simp only [List.length_cons, List.length_nil]
            omega
          case d2 => simp; omega
          go_roundw
          case rel => exact ⟨k + 1, by omega, by go_num, by rw [← hr.out] at hown2; exact hown2, (hR.out.2.alloc (by omega) _).trans hb2⟩
          case measure => simp [intOf]; omega
      · have hkl : k = t.length := by omega
        subst hkl
        have hle := Lib.hid (hL.out _ hk)
        go_wp2_with fail
        go_ret
        refine ⟨_, rfl, ?_, hR.out.2⟩
        have := ints_of_own hR.out.1 (Nat.le_trans hle.out (by omega))
        rw [hfin.out] at this
        exact this

theorem ApplyOf_calls (s : List (List Int)) (t : List Int) (u v : Value) (w : World) (hu : IsTerms Any w u s) (hv : IsInts Any w v t) :
    Calls Try.prog 35 #[u, v] w fun e w' => ∃ x, e = .returned (.tuple #[x, .int .i64 (applyE s t)]) ∧ IsInts (Fr w.heap.size) w' x (applyT s t) ∧ Below w.heap.size w w' := by
  have h1 := Lib.hid (SubError_calls s u w hu)
  have h2 := Lib.hid (TermError_calls t v w hv)
  by_cases hs : chkS s = 0
  · by_cases ht : chk t = 0
    · have h3 := Lib.hid (applied_calls s t u v w (chkS_zero.1 hs) (signs_of_chk ht) (by have := len_of_chk ht; omega) hu hv)
      by_cases hb : 30 < (app s t).length
      · have hr := Lib.hid (apply_big hs ht hb)
        have hb' : 30 < ((app s t).length : Int) := by omega
        clear hu hv
        go_enter Try.func35, Try.ntmps35
        go_wp2_with fail
        refine h1.out.mono ?_
        rintro e w' ⟨rfl, rfl⟩
        go_wp2_with fail
        refine h2.out.mono ?_
        rintro e w' ⟨rfl, rfl⟩
        clear h1 h2
        go_wp2_with fail
        refine h3.out.mono ?_
        rintro e w1 ⟨x, rfl, hx, hB⟩
        obtain ⟨ax, cx, rfl⟩ := hx.isSlice
        have hX := Lib.hid hx
        clear hx
        go_wp2_with fail
        go_ret2
        exact ⟨_, by rw [hr.out.1]; rfl, by rw [hr.out.2]; exact .nil _ _, hB⟩
      · have hr := Lib.hid (apply_ok hs ht (by omega))
        have hb' : ((app s t).length : Int) ≤ 30 := by omega
        clear hu hv
        go_enter Try.func35, Try.ntmps35
        go_wp2_with fail
        refine h1.out.mono ?_
        rintro e w' ⟨rfl, rfl⟩
        go_wp2_with fail
        refine h2.out.mono ?_
        rintro e w' ⟨rfl, rfl⟩
        clear h1 h2
        go_wp2_with fail
        refine h3.out.mono ?_
        rintro e w1 ⟨x, rfl, hx, hB⟩
        obtain ⟨ax, cx, rfl⟩ := hx.isSlice
        have hX := Lib.hid hx
        clear hx
        go_wp2_with fail
        go_ret2
        exact ⟨_, by rw [hr.out.1]; rfl, by rw [hr.out.2]; exact hX.out, hB⟩
    · have hr := Lib.hid (apply_t hs ht)
      have ht' : (chk t != 0) = true := by simpa using ht
      clear hu hv ht
      go_enter Try.func35, Try.ntmps35
      go_wp2_with fail
      refine h1.out.mono ?_
      rintro e w' ⟨rfl, rfl⟩
      go_wp2_with fail
      refine h2.out.mono ?_
      rintro e w' ⟨rfl, rfl⟩
      clear h1 h2
      go_wp2_with fail
      go_ret2
      exact ⟨_, by rw [hr.out.1]; rfl, by rw [hr.out.2]; exact .nil _ _, .refl _ _⟩
  · have hr := Lib.hid (apply_s (t := t) hs)
    have hs' : (chkS s != 0) = true := by simpa using hs
    clear hu hv hs
    go_enter Try.func35, Try.ntmps35
    go_wp2_with fail
    refine h1.out.mono ?_
    rintro e w' ⟨rfl, rfl⟩
    clear h1 h2
    go_wp2_with fail
    go_ret2
    exact ⟨_, by rw [hr.out.1]; rfl, by rw [hr.out.2]; exact .nil _ _, .refl _ _⟩

end Go.Proofs.Ytepddehodmljeaa

namespace Go.Proofs.Ytepddehodmljeaa
open Go.RowKit

variable {α : Type} {R : Rep α}

theorem Elems.set {sz : Nat} {S : Blk} {w : World} : ∀ {cs : List Value} {xs : List α}, Elems sz R S w cs xs → sz = 1 → ∀ k (u : Value) (x : α), k < xs.length → R S w [u] x → Elems sz R S w (cs.set k u) (xs.set k x)
  | _, [], _, _, k, _, _, hk, _ => by simp at hk
  | _, y :: xs, ⟨us, cs', hl, he, hr, h⟩, h1, 0, u, x, _, hx => by
    subst h1
    obtain ⟨z, rfl⟩ : ∃ z, us = [z] := by match us, hl with | [z], _ => exact ⟨z, rfl⟩
    subst he
    exact ⟨[u], cs', rfl, rfl, hx, h⟩
  | _, y :: xs, ⟨us, cs', hl, he, hr, h⟩, h1, k + 1, u, x, hk, hx => by
    have ih := h.set h1 k u x (by simpa using hk) hx
    subst h1
    obtain ⟨z, rfl⟩ : ∃ z, us = [z] := by match us, hl with | [z], _ => exact ⟨z, rfl⟩
    subst he
    exact ⟨[z], cs'.set k u, rfl, rfl, hr, ih⟩

theorem elems_rep {S : Blk} {w : World} {u : Value} {x : α} (h : R S w [u] x) : ∀ n, Elems 1 R S w (List.replicate n u) (List.replicate n x)
  | 0 => rfl
  | n + 1 => ⟨[u], List.replicate n u, rfl, rfl, h, elems_rep h n⟩

/-- Where the row lies. -/
theorem OwnRow.at {base : Nat} {e : TypeId} {sz : Nat} {S : Blk} {w : World} {v : Value} {xs : List α} (h : OwnRow base e sz R S w v xs) (hne : xs ≠ []) :
    ∃ g c cur, v = .slice (some ⟨g, 0, none⟩) xs.length c ∧ base ≤ g ∧ w.heap[g]? = some (.cells cur e (0, 0)) ∧ xs.length ≤ c := by
  obtain ⟨cs, he, h1, ⟨_, h0⟩ | ⟨g, cap, cur, hv, hb, hg, hc, _⟩⟩ := h
  · exact absurd (List.eq_nil_of_length_eq_zero h0) hne
  · exact ⟨g, cap, cur, hv, hb, hg, hc⟩

theorem OwnRow.cell {base : Nat} {e : TypeId} {S : Blk} {w : World} {g c n : Nat} {xs : List α} (h : OwnRow base e 1 R S w (.slice (some ⟨g, 0, none⟩) n c) xs) {k : Nat} (hk : k < xs.length) :
    (∃ u, w.cell? ⟨g, k, none⟩ = some u ∧ R (Both' S fun b => b ≠ g) w [u] xs[k]) ∧ w.frozen? ⟨g, k, none⟩ = false := by
  obtain ⟨cs, he, ho⟩ := h
  have hn : n = xs.length := by
    rcases ho.2 with ⟨hx, _⟩ | ⟨_, _, _, hx, _⟩
    · simp at hx
    · simp at hx; exact hx.2.1
  subst hn
  obtain ⟨us, hl, hget, hr⟩ := he.get k hk
  obtain ⟨z, rfl⟩ : ∃ z, us = [z] := by match us, hl with | [z], _ => exact ⟨z, rfl⟩
  have h0 := hget 0 (by omega)
  simp at h0
  refine ⟨⟨z, ?_, ?_⟩, ho.frozenAt k⟩
  · rw [ho.cellAt k (by omega)]; exact h0
  · have e1 : (Both' S (Off (.slice (some ⟨g, 0, none⟩) xs.length c))) = Both' S fun b => b ≠ g := by
      funext b; simp only [Both', Off, Value.ownBlock]; apply propext; constructor
      · rintro ⟨a1, a2⟩; exact ⟨a1, fun e => a2 (by rw [e])⟩
      · rintro ⟨a1, a2⟩; exact ⟨a1, fun e => a2 (by cases e; rfl)⟩
    rw [← e1]; exact hr

theorem make_rows {P : Program} {w : World} {ops : Array Oper} {rest : List Oper} {o : Oper} {a : Act} {Q : Exit → Act → World → Prop} (l c : Operand) (t : TypeId) (hgd : o.guard = none) (ho : o.op = Op.makeSlice t l c)
    (base : Nat) (e : TypeId) (i : TypeInfo) (u : Value) (ht : P.underlying t = some (.slice e)) (hi : P.info? e = some i) (hz : i.zero = some u) (hu : u.cells = #[u]) (hsize : i.size = 1)
    (kl kc : IntKind) (n : Nat) (hl : a.eval l = .int kl n) (hc : a.eval c = .int kc n) (hby : i.bytes * n ≤ 281474976710656) (hn : n ≤ 1000000) (hbase : base ≤ w.heap.size)
    (S : Blk) (x : α) (hx : ∀ S w, R S w [u] x)
    (h : ∀ w', OwnRow base e 1 R S w' (.slice (some ⟨w.heap.size, 0, none⟩) n n) (List.replicate n x) → Below w.heap.size w w' → w.heap.size < w'.heap.size → wpList P ops Q rest (a.put o.dst (.slice (some ⟨w.heap.size, 0, none⟩) n n)) w') :
    wpList P ops Q (o :: rest) a w := by
  refine wpList_plain hgd fun K hK' => ?_
  obtain ⟨w', hrun, r1, r2⟩ := run_make_full (P := P) w base t e i u 1 ht hi hz hsize kl kc n hby (by simp only [maxLen]; omega) hbase
  unfold Oper.wp
  simp [execOp, ho, hl, hc, hrun, Result.andThen]
  refine hK' _ _ (h w' ⟨List.replicate n u, elems_rep (hx _ _) n, ?_⟩ ?_ ?_)
  · rw [Nat.mul_one, hu, toList_madeCells_one] at r1
    simpa using r1
  · exact ⟨r2.os, r2.tape, r2.output, r2.size, fun k hk => r2.block k hk (by simp)⟩
  · rcases r1.2 with ⟨hx, _⟩ | ⟨g, _, _, hx, _, hg, _⟩
    · simp at hx
    · simp at hx; rw [hx.1]; exact lt_of_block hg

theorem store_rows (hR : R.Ok) {P : Program} {w : World} {ops : Array Oper} {rest : List Oper} {o : Oper} {a : Act} {Q : Exit → Act → World → Prop} (p x : Operand) (t : TypeId) (hgd : o.guard = none) (hd : o.dst = none) (ho : o.op = Op.store t p x)
    (i : TypeInfo) (hi : P.info? t = some i) (hsize : i.size = 1)
    (base : Nat) (e : TypeId) (S : Blk) (g k n c : Nat) (xs : List α) (hp : a.eval p = .pointer (some ⟨g, k, none⟩)) (hown : OwnRow base e 1 R S w (.slice (some ⟨g, 0, none⟩) n c) xs) (hk : k < xs.length) (y : α)
    (hy : R (Both' S fun b => b ≠ g) w [a.eval x] y) (h1 : (a.eval x).oneCell' = true)
    (h : ∀ w', OwnRow base e 1 R S w' (.slice (some ⟨g, 0, none⟩) n c) (xs.set k y) → w.grownBy w' (some g) → w'.heap.size = w.heap.size → wpList P ops Q rest a w') :
    wpList P ops Q (o :: rest) a w := by
  refine wpList_plain hgd fun K hK' => ?_
  obtain ⟨⟨u, hcu, _⟩, hfr⟩ := hown.cell hk
  have hcells : (a.eval x).cells = #[a.eval x] := by cases hx : a.eval x <;> simp_all [Value.cells, Value.oneCell']
  have hrun : (Instr.storeAt t (a.eval p) (a.eval x)).run P w = .ok () (w.setCell ⟨g, k, none⟩ (a.eval x)) := by
    have ha : ({ block := g, off := k } : Addr).add 0 = ⟨g, k, none⟩ := rfl
    simp [Instr.storeAt, Instr.sureAddr, hp, storeVar, sizeOf, typeInfo, hi, hsize, hcells, storeCells, run_store, h1, ha, hcu, hfr]
  unfold Oper.wp
  simp only [execOp, ho, Sem.run_bind, Sem.run_pure, Result.andThen_ok, hrun, Oper.upon_skip, hd, Act.put]
  obtain ⟨cs, he, ho'⟩ := hown
  have hn : n = xs.length := by
    rcases ho'.2 with ⟨hx, _⟩ | ⟨_, _, _, hx, _⟩
    · simp at hx
    · simp at hx; exact hx.2.1
  subst hn
  have hst := ho'.stored k (a.eval x)
  have hsz : (w.setCell ⟨g, k, none⟩ (a.eval x)).heap.size = w.heap.size := by simp
  have e1 : (Both' S (Off (.slice (some ⟨g, 0, none⟩) xs.length c))) = Both' S fun b => b ≠ g := by
    funext b; simp only [Both', Off, Value.ownBlock]; apply propext; constructor
    · rintro ⟨a1, a2⟩; exact ⟨a1, fun e => a2 (by rw [e])⟩
    · rintro ⟨a1, a2⟩; exact ⟨a1, fun e => a2 (by cases e; rfl)⟩
  refine hK' _ _ (h _ ⟨cs.set k (a.eval x), ?_, by simpa using hst.1⟩ hst.2 hsz)
  rw [e1] at he ⊢
  refine (he.set rfl k (a.eval x) y hk hy).mono hR ⟨by rw [hsz]; exact Nat.le_refl _, fun b hb _ => ⟨hb, Below.heap_setCell _ _ _ _ hb.2⟩⟩

/-- A store into ints of the call's own. -/
theorem store_ints {P : Program} {w : World} {ops : Array Oper} {rest : List Oper} {o : Oper} {a : Act} {Q : Exit → Act → World → Prop} (p x : Operand) (hgd : o.guard = none) (hd : o.dst = none) (ho : o.op = Op.store 3 p x)
    (i : TypeInfo) (hi : P.info? 3 = some i) (hsize : i.size = 1)
    (base : Nat) (g k n c : Nat) (xs : List Int) (hn : n = xs.length) (hp : a.eval p = .pointer (some ⟨g, k, none⟩)) (hown : w.ownsRow base 3 1 (.slice (some ⟨g, 0, none⟩) n c) xs.length (xs.map (Value.int .i64))) (hk : k < xs.length) (y : Int)
    (hy : a.eval x = .int .i64 y)
    (h : ∀ w', w'.ownsRow base 3 1 (.slice (some ⟨g, 0, none⟩) n c) (xs.set k y).length ((xs.set k y).map (Value.int .i64)) → w.grownBy w' (some g) → w'.heap.size = w.heap.size → wpList P ops Q rest a w') :
    wpList P ops Q (o :: rest) a w := by
  subst hn
  refine wpList_plain hgd fun K hK' => ?_
  have hcu : w.cell? ⟨g, k, none⟩ = some (.int .i64 xs[k]) := by rw [hown.cellAt k (by omega), List.getElem?_map, List.getElem?_eq_getElem hk]; rfl
  have hfr := hown.frozenAt k
  have hrun : (Instr.storeAt 3 (a.eval p) (a.eval x)).run P w = .ok () (w.setCell ⟨g, k, none⟩ (a.eval x)) := by
    have ha : ({ block := g, off := k } : Addr).add 0 = ⟨g, k, none⟩ := rfl
    simp [Instr.storeAt, Instr.sureAddr, hp, hy, storeVar, sizeOf, typeInfo, hi, hsize, Value.cells, storeCells, run_store P w ⟨g, k, none⟩ (.int .i64 y) .plain rfl, ha, hcu, hfr]
  unfold Oper.wp
  simp only [execOp, ho, Sem.run_bind, Sem.run_pure, Result.andThen_ok, hrun, Oper.upon_skip, hd, Act.put]
  have hst := hown.stored k (a.eval x)
  refine hK' _ _ (h _ ?_ hst.2 (by simp))
  rw [List.length_set, List.map_set, ← hy]
  exact hst.1

/-- 'append(v, x)': ONE element, as the literal of one element laid it. -/
theorem app_one (hR : R.Ok) {sz : Nat} {P : Program} {W : World} {ops : Array Oper} {rest : List Oper} {o : Oper} {a : Act} {Q : Exit → Act → World → Prop} (s x : Operand) (t : TypeId) (hgd : o.guard = none)
    (ho : o.op = .call { callee := .builtin .append, args := #[s, x], argTypes := #[t, t] })
    (base : Nat) (e : TypeId) (i : TypeInfo) (z : Value) (bytes : Nat) (ht : P.underlying t = some (.slice e)) (hi : P.info? e = some i) (hz : i.zero = some z) (hsize : i.size = sz) (hby : i.bytes = bytes) (hzs : z.cells.size = sz) (hsz : 0 < sz)
    {S : Blk} {xs : List α} (hown : OwnRow base e sz R S W (a.eval s) xs)
    {us : List Value} {y : α} {n : Nat} (hx : a.eval x = .slice (some ⟨n, 0, none⟩) 1 1) (hnn : n = W.heap.size) (hus : us.length = sz) (h1 : Ones us)
    (hel : R (Both' S (Off (a.eval s))) W us y)
    (hlen : (xs.length + 1) * bytes ≤ 100000000) (hb0 : 0 < bytes) (hbase : base ≤ W.heap.size)
    (h : ∀ v' w', OwnRow base e sz R S w' v' (xs ++ [y]) → Below base W w' → Keeps (fun b => (a.eval s).ownBlock = some b) W w' →
      (∀ b, v'.ownBlock = some b → (a.eval s).ownBlock = some b ∨ W.heap.size ≤ b) → wpList P ops Q rest (a.put o.dst v') w') : wpList P ops Q (o :: rest) a (W.alloc (.cells us.toArray e)) := by
  subst hnn
  refine app_row hR s x t hgd ho base e i z bytes ht hi hz hsize hby hzs hsz (hown.below hR (below_alloc W _)) (ao := some ⟨W.heap.size, 0, none⟩) (m := 1) (c := 1) (news := us) (ys := [y]) hx rfl (fun h => by cases h) (fun ad hd j u hj => ?_) h1
    (Elems.one hus (hR _ _ _ _ _ _ hel (.of_below (below_alloc W _)))) hlen hb0 (by simp; omega) fun v' w' h2 h3 h4 h5 => ?_
  · cases hd
    rw [show (⟨W.heap.size, 0, none⟩ : Addr).add j = ⟨W.heap.size, j, none⟩ by simp [Addr.add_lit], World.cell?_alloc_at _ _ _ _ rfl]
    simpa using hj
  · refine h v' w' h2 (((Below.refl base W).alloc hbase _).trans h3) ⟨h3.os, h3.tape, h3.output, ?_, fun k hk hm => ?_⟩ fun b hb => ?_
    · have := h3.size; simp at this; omega
    · rw [h4.block k (by simp; omega) (fun e => hm e.symm), Below.heap_alloc _ _ _ hk]
    · rcases h5 b hb with h6 | h6
      · exact .inl h6
      · exact .inr (by simp at h6; omega)

end Go.Proofs.Ytepddehodmljeaa

namespace Go.Proofs.Ytepddehodmljeaa
open Go.RowKit Go.Maps

/-- Block b is a map that holds l, in the order in which its keys came. -/
def MapIs (P : Program) (k : TypeId) (w : World) (b : Nat) (l : List (Value × Value)) : Prop :=
  ∃ es clock, w.heap[b]? = some (.map es clock) ∧ es.toList.map (fun e => (e.key, e.val)) = l ∧ (∀ p ∈ l, ∃ q, keyOf P k p.1 = some q) ∧ (l.map (·.1)).Nodup ∧
    (es.toList.map (·.born)).Nodup ∧ (∀ e ∈ es.toList, e.born < clock)

variable {P : Program} {k e t : TypeId} {w : World} {b : Nat} {l : List (Value × Value)}

theorem MapIs.made (P : Program) (k : TypeId) (w : World) : MapIs P k (w.alloc (.map #[] 0)) w.heap.size [] :=
  ⟨#[], 0, (MapKept.heap_alloc w _).1, rfl, by simp, by simp, by simp, by simp⟩
theorem MapIs.lt (h : MapIs P k w b l) : b < w.heap.size := by
  obtain ⟨es, clock, hb, _⟩ := h
  exact (Array.getElem?_eq_some_iff.1 hb).1
theorem MapIs.keep {w' : World} (h : MapIs P k w b l) (hb : w'.heap[b]? = w.heap[b]?) : MapIs P k w' b l := by
  obtain ⟨es, clock, h1, h2⟩ := h
  exact ⟨es, clock, hb.trans h1, h2⟩

theorem nodup_ne {β : Type} {l : List β} (h : l.Nodup) : ∀ i j, i < j → j < l.length → l[i]? ≠ l[j]? := by
  intro i j hij hj
  have hi : i < l.length := by omega
  rw [List.getElem?_eq_getElem hi, List.getElem?_eq_getElem hj]
  intro e
  exact (List.pairwise_iff_getElem.1 h) i j hi hj hij (Option.some.inj e)

theorem find_abs (K : Keyed P k) (h : MapIs P k w b l) {key : Value} {q : Lit} (hkey : keyOf P k key = some q) (hn : ∀ p ∈ l, p.1 ≠ key) :
    ∃ es clock, w.heap[b]? = some (.map es clock) ∧ es.toList.map (fun e => (e.key, e.val)) = l ∧ (Instr.findKey k key es.toList).run P w = .ok none w := by
  obtain ⟨es, clock, hb, rfl, hk, hnd, _⟩ := h
  refine ⟨es, clock, hb, rfl, ?_⟩
  rcases K.find w hkey es.toList (fun e he => hk _ (List.mem_map.2 ⟨e, he, rfl⟩)) with ⟨h1, _⟩ | ⟨j, e0, h1, h2, h3⟩
  · exact h1
  · exact absurd h3 (hn _ (List.mem_map.2 ⟨e0, List.mem_of_getElem? h2, rfl⟩))

theorem find_pres (K : Keyed P k) (h : MapIs P k w b l) {key v : Value} {q : Lit} (hkey : keyOf P k key = some q) (hn : (key, v) ∈ l) :
    ∃ es clock j e0, w.heap[b]? = some (.map es clock) ∧ es.toList.map (fun e => (e.key, e.val)) = l ∧ (Instr.findKey k key es.toList).run P w = .ok (some (j, v)) w ∧ es[j]? = some e0 ∧ e0.key = key ∧ e0.val = v := by
  obtain ⟨es, clock, hb, rfl, hk, hnd, _⟩ := h
  rcases K.find w hkey es.toList (fun e he => hk _ (List.mem_map.2 ⟨e, he, rfl⟩)) with ⟨_, h1⟩ | ⟨j, e0, h1, h2, h3⟩
  · obtain ⟨e, he, hp⟩ := List.mem_map.1 hn
    simp only [Prod.mk.injEq] at hp
    exact absurd hp.1 (h1 e he)
  · have hv : e0.val = v := by
      obtain ⟨e, he, hp⟩ := List.mem_map.1 hn
      simp only [Prod.mk.injEq] at hp
      obtain ⟨i, hi, rfl⟩ := List.getElem_of_mem he
      obtain ⟨hj, rfl⟩ := List.getElem?_eq_some_iff.1 h2
      have hij : i = j := by
        rw [List.map_map] at hnd
        have hnd' := nodup_ne hnd
        have hi' : (es.toList.map ((fun p : Value × Value => p.1) ∘ fun e => (e.key, e.val)))[i]? = some key := by
          rw [List.getElem?_map, List.getElem?_eq_getElem hi]; exact congrArg some hp.1
        have hj' : (es.toList.map ((fun p : Value × Value => p.1) ∘ fun e => (e.key, e.val)))[j]? = some key := by
          rw [List.getElem?_map, List.getElem?_eq_getElem hj]; exact congrArg some h3
        rcases Nat.lt_trichotomy i j with hlt | rfl | hlt
        · exact absurd (hi'.trans hj'.symm) (hnd' i j hlt (by simpa using hj))
        · rfl
        · exact absurd (hj'.trans hi'.symm) (hnd' j i hlt (by simpa using hi))
      subst hij
      exact hp.2
    subst hv
    exact ⟨es, clock, j, e0, hb, rfl, h1, by simpa using h2, h3, rfl⟩

section laws
variable {ops : Array Oper} {rest : List Oper} {o : Oper} {a : Act} {Q : Exit → Act → World → Prop}

theorem lookup_abs (c : Bool) (m x : Operand) (t : TypeId) (hg : o.guard = none) (hop : o.op = Op.lookup t m x c) (k e : TypeId) (z : Value) (K : Keyed P k) (ht : P.underlying t = some (.map k e)) (hz : (zeroValue e).run P w = .ok z w)
    (b : Nat) (l : List (Value × Value)) (hm : a.eval m = .map (some b)) (h : MapIs P k w b l) (key : Value) (q : Lit) (hx : a.eval x = key) (hkey : keyOf P k key = some q) (hn : ∀ p ∈ l, p.1 ≠ key)
    (hK : wpList P ops Q rest (a.put o.dst (if c then .tuple #[z, .bool false] else z)) w) : wpList P ops Q (o :: rest) a w := by
  refine wpList_plain hg fun K' hK' => ?_
  obtain ⟨es, clock, hb, _, hf⟩ := find_abs K h hkey hn
  have hrun : (Instr.lookup t (.map (some b)) key c).run P w = .ok (if c then .tuple #[z, .bool false] else z) w := by
    simp [Instr.lookup, run_underlying ht, MapKept.run_getObj_map hb, K.check w _ hkey, hf, hz, Result.andThen]
  unfold Oper.wp
  simp [execOp, hop, hm, hx, hrun, Result.andThen]
  exact hK' _ _ hK

theorem lookup_pres (c : Bool) (m x : Operand) (t : TypeId) (hg : o.guard = none) (hop : o.op = Op.lookup t m x c) (k e : TypeId) (K : Keyed P k) (ht : P.underlying t = some (.map k e))
    (b : Nat) (l : List (Value × Value)) (hm : a.eval m = .map (some b)) (h : MapIs P k w b l) (key v : Value) (q : Lit) (hx : a.eval x = key) (hkey : keyOf P k key = some q) (hn : (key, v) ∈ l)
    (hK : wpList P ops Q rest (a.put o.dst (if c then .tuple #[v, .bool true] else v)) w) : wpList P ops Q (o :: rest) a w := by
  refine wpList_plain hg fun K' hK' => ?_
  obtain ⟨es, clock, j, e0, hb, _, hf, _⟩ := find_pres K h hkey hn
  have hrun : (Instr.lookup t (.map (some b)) key c).run P w = .ok (if c then .tuple #[v, .bool true] else v) w := by
    simp [Instr.lookup, run_underlying ht, MapKept.run_getObj_map hb, K.check w _ hkey, hf, Result.andThen]
  unfold Oper.wp
  simp [execOp, hop, hm, hx, hrun, Result.andThen]
  exact hK' _ _ hK

theorem maplen (m : Operand) (t : TypeId) (hg : o.guard = none) (hop : o.op = Op.call { callee := Callee.builtin Builtin.len, args := #[m], argTypes := #[t] })
    (k e : TypeId) (ht : P.underlying t = some (.map k e)) (b : Nat) (l : List (Value × Value)) (hm : a.eval m = .map (some b)) (h : MapIs P k w b l)
    (hK : wpList P ops Q rest (a.put o.dst (.int .i64 (l.length : Int))) w) : wpList P ops Q (o :: rest) a w := by
  refine wpList_plain hg fun K' hK' => ?_
  obtain ⟨es, clock, hb, rfl, _⟩ := h
  have hrun : (Builtin.len_ #[t] o.type #[.map (some b)]).run P w = .ok (.int .i64 (es.size : Int)) w := by
    simp [Builtin.len_, run_underlying ht, MapKept.run_getObj_map hb, Result.andThen, goInt]
  unfold Oper.wp
  simp [execOp, hop, resolve, invoke, builtin, hm, hrun, Result.andThen]
  refine hK' _ _ ?_
  simpa using hK

theorem setObj_keeps {es : Array MapEntry} {clock : Nat} (hb : w.heap[b]? = some (.map es clock)) (ob : Obj) :
    Keeps (fun i => i = b) w { w with heap := w.heap.setIfInBounds b ob } ∧ ({ w with heap := w.heap.setIfInBounds b ob } : World).heap[b]? = some ob := by
  have hlt := (Array.getElem?_eq_some_iff.1 hb).1
  refine ⟨⟨rfl, rfl, rfl, by simp, fun i _ hi => ?_⟩, ?_⟩
  · simp only [Array.getElem?_setIfInBounds]; rw [if_neg (fun e => hi e.symm)]
  · simp [hlt]

theorem mapset_abs (m x y : Operand) (t : TypeId) (hg : o.guard = none) (hd : o.dst = none) (hop : o.op = Op.mapUpdate t m x y) (k e : TypeId) (K : Keyed P k) (ht : P.underlying t = some (.map k e))
    (b : Nat) (l : List (Value × Value)) (hm : a.eval m = .map (some b)) (h : MapIs P k w b l) (key : Value) (q : Lit) (hx : a.eval x = key) (hkey : keyOf P k key = some q) (hn : ∀ p ∈ l, p.1 ≠ key)
    (hK : ∀ w', MapIs P k w' b (l ++ [(key, a.eval y)]) → Keeps (fun i => i = b) w w' → w'.heap.size = w.heap.size → wpList P ops Q rest a w') : wpList P ops Q (o :: rest) a w := by
  refine wpList_plain hg fun K' hK' => ?_
  obtain ⟨es, clock, hb, hl, hf⟩ := find_abs K h hkey hn
  obtain ⟨es2, clock2, hb2, hl2, hk, hnd, hbn, hbl⟩ := h
  rw [hb] at hb2
  simp only [Option.some.injEq, Obj.map.injEq] at hb2
  obtain ⟨rfl, rfl⟩ := hb2
  have hrun : (Instr.mapUpdate t (.map (some b)) key (a.eval y)).run P w = .ok () { w with heap := w.heap.setIfInBounds b (.map (es.push { key, val := a.eval y, born := clock }) (clock + 1)) } := by
    simp [Instr.mapUpdate, run_underlying ht, MapKept.run_getObj_map hb, K.check w _ hkey, hf, MapKept.run_setObj_map _ hb, Result.andThen]
  obtain ⟨hs1, hs2⟩ := setObj_keeps hb (.map (es.push { key, val := a.eval y, born := clock }) (clock + 1))
  unfold Oper.wp
  simp only [execOp, hop, hm, hx, hrun, Sem.run_bind, Sem.run_pure, Result.andThen_ok, Oper.upon_skip, hd, Act.put]
  refine hK' _ _ (hK _ ⟨_, _, hs2, by simp [← hl], ?_, ?_, ?_, ?_⟩ hs1 (by simp))
  · intro p hp
    rcases List.mem_append.1 hp with hp | hp
    · exact hk p hp
    · simp at hp; subst hp; exact ⟨q, hkey⟩
  · rw [List.map_append, List.nodup_append]
    refine ⟨hnd, by simp, ?_⟩
    intro u hu v hv huv
    obtain ⟨p, hp, rfl⟩ := List.mem_map.1 hu
    simp at hv
    exact hn p hp (huv.trans hv)
  · simp only [Array.toList_push, List.map_append, List.nodup_append]
    refine ⟨hbn, by simp, ?_⟩
    intro u hu v hv huv
    obtain ⟨p, hp, rfl⟩ := List.mem_map.1 hu
    simp at hv
    have := hbl p hp
    omega
  · intro p hp
    simp only [Array.toList_push, List.mem_append, List.mem_singleton] at hp
    rcases hp with hp | rfl
    · have := hbl p hp; omega
    · simp

theorem mapset_pres (m x y : Operand) (t : TypeId) (hg : o.guard = none) (hd : o.dst = none) (hop : o.op = Op.mapUpdate t m x y) (k e : TypeId) (K : Keyed P k) (ht : P.underlying t = some (.map k e))
    (b : Nat) (l1 l2 : List (Value × Value)) (key v : Value) (hm : a.eval m = .map (some b)) (h : MapIs P k w b (l1 ++ (key, v) :: l2)) (q : Lit) (hx : a.eval x = key) (hkey : keyOf P k key = some q)
    (hK : ∀ w', MapIs P k w' b (l1 ++ (key, a.eval y) :: l2) → Keeps (fun i => i = b) w w' → w'.heap.size = w.heap.size → wpList P ops Q rest a w') : wpList P ops Q (o :: rest) a w := by
  refine wpList_plain hg fun K' hK' => ?_
  obtain ⟨es, clock, j, e0, hb, hl, hf, he0, hek, hev⟩ := find_pres K h hkey (v := v) (by simp)
  obtain ⟨es2, clock2, hb2, hl2, hk, hnd, hbn, hbl⟩ := h
  rw [hb] at hb2
  simp only [Option.some.injEq, Obj.map.injEq] at hb2
  obtain ⟨rfl, rfl⟩ := hb2
  have hjl : j < es.size := (Array.getElem?_eq_some_iff.1 he0).1
  have hj : j = l1.length := by
    have hnd' := nodup_ne hnd
    have h1 : ((l1 ++ (key, v) :: l2).map (·.1))[j]? = some key := by
      rw [← hl, List.map_map, List.getElem?_map]
      have : es.toList[j]? = some e0 := by simpa using he0
      rw [this]; simp [hek]
    have h2 : ((l1 ++ (key, v) :: l2).map (·.1))[l1.length]? = some key := by simp
    have hlen : (l1 ++ (key, v) :: l2).length = es.size := by rw [← hl]; simp
    have hlen2 : l1.length < es.size := by rw [← hlen]; simp
    rcases Nat.lt_trichotomy j l1.length with hlt | h | hlt
    · exact absurd (h1.trans h2.symm) (hnd' j l1.length hlt (by rw [List.length_map, hlen]; exact hlen2))
    · exact h
    · exact absurd (h2.trans h1.symm) (hnd' l1.length j hlt (by rw [List.length_map, hlen]; exact hjl))
  have hst := K.stays w hkey
  have hrun : (Instr.mapUpdate t (.map (some b)) key (a.eval y)).run P w = .ok () { w with heap := w.heap.setIfInBounds b (.map (es.modify j fun e => { e with key, val := a.eval y }) clock) } := by
    simp [Instr.mapUpdate, run_underlying ht, MapKept.run_getObj_map hb, K.check w _ hkey, hf, MapKept.run_setObj_map _ hb, Result.andThen, he0, hek, hst]
  obtain ⟨hs1, hs2⟩ := setObj_keeps hb (.map (es.modify j fun e => { e with key, val := a.eval y }) clock)
  have hlist : (es.modify j fun e => { e with key := key, val := a.eval y }).toList.map (fun e => (e.key, e.val)) = l1 ++ (key, a.eval y) :: l2 := by
    apply List.ext_getElem?
    intro i
    have hi : (es.toList.map (fun e => (e.key, e.val)))[i]? = (l1 ++ (key, v) :: l2)[i]? := by rw [hl]
    rw [List.getElem?_map] at hi ⊢
    simp only [Array.getElem?_toList, Array.getElem?_modify] at hi ⊢
    by_cases hij : j = i
    · subst hij
      rw [if_pos rfl, he0]
      subst hj
      simp
    · rw [if_neg hij, hi]
      subst hj
      rcases Nat.lt_trichotomy i l1.length with h1 | h1 | h1
      · rw [List.getElem?_append_left h1, List.getElem?_append_left h1]
      · exact absurd h1.symm hij
      · rw [List.getElem?_append_right (by omega), List.getElem?_append_right (by omega)]
        obtain ⟨d, hd⟩ : ∃ d, i - l1.length = d + 1 := ⟨i - l1.length - 1, by omega⟩
        rw [hd]; rfl
  have hborn : (es.modify j fun e => { e with key := key, val := a.eval y }).toList.map (·.born) = es.toList.map (·.born) := by
    apply List.ext_getElem?
    intro i
    simp only [List.getElem?_map, Array.getElem?_toList, Array.getElem?_modify]
    split
    · cases es[i]? <;> rfl
    · rfl
  unfold Oper.wp
  simp only [execOp, hop, hm, hx, hrun, Sem.run_bind, Sem.run_pure, Result.andThen_ok, Oper.upon_skip, hd, Act.put]
  refine hK' _ _ (hK _ ⟨_, _, hs2, hlist, ?_, ?_, ?_, ?_⟩ hs1 (by simp))
  · intro p hp
    rcases List.mem_append.1 hp with hp | hp
    · exact hk p (List.mem_append.2 (.inl hp))
    · rcases List.mem_cons.1 hp with rfl | hp
      · exact ⟨q, hkey⟩
      · exact hk p (List.mem_append.2 (.inr (List.mem_cons_of_mem _ hp)))
  · simpa using hnd
  · rw [hborn]; exact hbn
  · intro p hp
    have : p.born ∈ es.toList.map (·.born) := by rw [← hborn]; exact List.mem_map.2 ⟨p, hp, rfl⟩
    obtain ⟨p', hp', e⟩ := List.mem_map.1 this
    rw [← e]; exact hbl p' hp'
end laws

end Go.Proofs.Ytepddehodmljeaa

namespace Go.Proofs.Ytepddehodmljeaa
open Go.RowKit Go.Maps

/-- A store into cells of the call's own, seen as a row of one-cell elements. -/
theorem store_own {P : Program} {w : World} {ops : Array Oper} {rest : List Oper} {o : Oper} {a : Act} {Q : Exit → Act → World → Prop} (p x : Operand) (t : TypeId) (hgd : o.guard = none) (hd : o.dst = none) (ho : o.op = Op.store t p x)
    (i : TypeInfo) (hi : P.info? t = some i) (hsize : i.size = 1)
    (base : Nat) (e : TypeId) (g k n c : Nat) (xs : List Value) (hp : a.eval p = .pointer (some ⟨g, k, none⟩)) (hown : w.ownsRow base e 1 (.slice (some ⟨g, 0, none⟩) n c) n xs) (hk : k < n)
    (h1 : (a.eval x).oneCell' = true)
    (h : ∀ w', w'.ownsRow base e 1 (.slice (some ⟨g, 0, none⟩) n c) n (xs.set k (a.eval x)) → w.grownBy w' (some g) → w'.heap.size = w.heap.size → wpList P ops Q rest a w') :
    wpList P ops Q (o :: rest) a w := by
  refine wpList_plain hgd fun K hK' => ?_
  have hl : xs.length = n := by have := hown.1; omega
  have hcu : w.cell? ⟨g, k, none⟩ = some xs[k] := by rw [hown.cellAt k (by omega), List.getElem?_eq_getElem (by omega)]
  have hfr := hown.frozenAt k
  have hcells : (a.eval x).cells = #[a.eval x] := by cases hx : a.eval x <;> simp_all [Value.cells, Value.oneCell']
  have hrun : (Instr.storeAt t (a.eval p) (a.eval x)).run P w = .ok () (w.setCell ⟨g, k, none⟩ (a.eval x)) := by
    have ha : ({ block := g, off := k } : Addr).add 0 = ⟨g, k, none⟩ := rfl
    simp [Instr.storeAt, Instr.sureAddr, hp, storeVar, sizeOf, typeInfo, hi, hsize, hcells, storeCells, run_store, h1, ha, hcu, hfr]
  unfold Oper.wp
  simp only [execOp, ho, Sem.run_bind, Sem.run_pure, Result.andThen_ok, hrun, Oper.upon_skip, hd, Act.put]
  have hst := hown.stored k (a.eval x)
  exact hK' _ _ (h _ hst.1 hst.2 (by simp))

end Go.Proofs.Ytepddehodmljeaa

namespace Go.Proofs.Ytepddehodmljeaa
open Go.RowKit Go.Maps Go.ChangeMaps

/-- A range over the map in block b is under way, its walk in block r: todo is still to come. -/
def RngIs (w : World) (r b : Nat) (todo : List (Value × Value)) : Prop :=
  ∃ es clock since seen c0, w.heap[b]? = some (.map es clock) ∧ w.heap[r]? = some (.mapIter (some b) since seen c0) ∧ (∀ x ∈ es.toList, x.born < since) ∧ since ≤ c0 ∧ since ≤ clock ∧
    (es.toList.map (·.key)).Nodup ∧ (es.toList.map (·.born)).Nodup ∧ todo = (leftOf es seen).toList.map fun e => (e.key, e.val)

theorem RngIs.keep {w w' : World} {r b : Nat} {todo : List (Value × Value)} (h : RngIs w r b todo) (hb : w'.heap[b]? = w.heap[b]?) (hr : w'.heap[r]? = w.heap[r]?) : RngIs w' r b todo := by
  obtain ⟨es, clock, since, seen, c0, h1, h2, h3⟩ := h
  exact ⟨es, clock, since, seen, c0, hb.trans h1, hr.trans h2, h3⟩
theorem RngIs.lt {w : World} {r b : Nat} {todo : List (Value × Value)} (h : RngIs w r b todo) : b < w.heap.size ∧ r < w.heap.size := by
  obtain ⟨es, clock, since, seen, c0, h1, h2, h3⟩ := h
  exact ⟨(Array.getElem?_eq_some_iff.1 h1).1, (Array.getElem?_eq_some_iff.1 h2).1⟩

theorem rng_start {P : Program} {k : TypeId} {w : World} {b : Nat} {l : List (Value × Value)} (h : MapIs P k w b l) : ∃ clock, RngIs (w.alloc (.mapIter (some b) clock #[] clock)) w.heap.size b l ∧ ∃ es, w.heap[b]? = some (.map es clock) := by
  have hlt := h.lt
  obtain ⟨es, clock, hb, rfl, -, hn, hbn, hbl⟩ := h
  refine ⟨clock, ⟨es, clock, clock, #[], clock, (Below.heap_alloc _ _ _ hlt).trans hb, Array.getElem?_push_size, hbl, Nat.le_refl _, Nat.le_refl _, ?_, hbn, ?_⟩, es, hb⟩
  · rw [List.map_map] at hn; exact hn
  · simp only [leftOf, Array.toList_filter]
    rw [List.filter_eq_self.2 (by simp)]

section laws
variable {P : Program} {w : World} {ops : Array Oper} {rest : List Oper} {o : Oper} {a : Act} {Q : Exit → Act → World → Prop}

theorem range_map (m : Operand) (t : TypeId) (hg : o.guard = none) (hop : o.op = Op.range t m) (k e : TypeId) (ht : P.underlying t = some (.map k e)) (kk : TypeId)
    (b : Nat) (l : List (Value × Value)) (hm : a.eval m = .map (some b)) (h : MapIs P kk w b l)
    (hK : ∀ w', RngIs w' w.heap.size b l → Below w.heap.size w w' → w'.heap.size = w.heap.size + 1 → wpList P ops Q rest (a.put o.dst (.pointer (some ⟨w.heap.size, 0, none⟩))) w') : wpList P ops Q (o :: rest) a w := by
  refine wpList_plain hg fun K' hK' => ?_
  obtain ⟨clock, hr, es, hb⟩ := rng_start h
  have hrun := run_range_map (P := P) w t k e b es clock ht hb
  unfold Oper.wp
  simp [execOp, hop, hm, hrun, Result.andThen]
  exact hK' _ _ (hK _ hr ((Below.refl _ _).alloc (Nat.le_refl _) _) (by simp))

theorem born_key {es : List MapEntry} (hn : (es.map (·.key)).Nodup) (hbn : (es.map (·.born)).Nodup) {x y : MapEntry} (hx : x ∈ es) (hy : y ∈ es) : x.born = y.born ↔ x.key = y.key := by
  induction es with
  | nil => cases hx
  | cons e es ih =>
    simp only [List.map_cons, List.nodup_cons, List.mem_map, not_exists, not_and] at hn hbn
    rcases List.mem_cons.1 hx with hx' | hx' <;> rcases List.mem_cons.1 hy with hy' | hy'
    · rw [hx', hy']; simp
    · rw [hx']; exact ⟨fun h => absurd h.symm (hbn.1 y hy'), fun h => absurd h.symm (hn.1 y hy')⟩
    · rw [hy']; exact ⟨fun h => absurd h (hbn.1 x hx'), fun h => absurd h (hn.1 x hx')⟩
    · exact ih hn.2 hbn.2 hx' hy'

theorem next_map (it : Operand) (hg : o.guard = none) (hop : o.op = Op.next it false) (b r : Nat) (todo : List (Value × Value)) (hit : a.eval it = .pointer (some ⟨r, 0, none⟩)) (h : RngIs w r b todo)
    (hDone : todo = [] → wpList P ops Q rest (a.put o.dst (.tuple #[.bool false])) w)
    (hMore : ∀ (x v : Value) (todo' : List (Value × Value)) (w' : World), (x, v) ∈ todo → (∀ q, q ∈ todo' ↔ q ∈ todo ∧ q.1 ≠ x) → todo'.length < todo.length → RngIs w' r b todo' → Keeps (fun i => i = r) w w' → w'.heap.size = w.heap.size →
      (Instr.entry (.pointer (some ⟨r, 0, none⟩))).run P w' = .ok (.tuple #[x, v]) w' → wpList P ops Q rest (a.put o.dst (.tuple #[.bool true, x, v])) w') : wpList P ops Q (o :: rest) a w := by
  refine wpList_plain hg fun K' hK' => ?_
  obtain ⟨es, clock, since, seen, c0, h1, h2, h3, h4, hlast, h5, h6, rfl⟩ := h
  have hlt := (Array.getElem?_eq_some_iff.1 h2).1
  unfold Oper.wp
  rcases run_next_at (P := P) w o.type r b since c0 seen es clock h2 h1 h3 h4 with ⟨g0, hrun⟩ | ⟨e, he, w1, hw1, hrun⟩
  · simp [execOp, hop, hit, hrun, Result.andThen]
    refine hK' _ _ (hDone ?_)
    rw [Array.eq_empty_of_size_eq_zero g0]; rfl
  · simp [execOp, hop, hit, hrun, Result.andThen]
    have hw1s : w1.heap = w.heap := by rcases hw1 with rfl | rfl <;> rfl
    have hbr : b ≠ r := by rintro rfl; rw [h1] at h2; cases h2
    have hes : e ∈ es.toList := by
      have := he
      simp [leftOf] at this
      simpa using this.1
    have hesn : e.born ∉ seen := by
      have := he
      simp [leftOf] at this
      exact this.2
    have hb' : (setBlock w1 r (.mapIter (some b) since (seen.push e.born) clock)).heap[b]? = some (.map es clock) := by
      simp only [setBlock, Array.getElem?_setIfInBounds, hw1s]
      rw [if_neg (fun h => hbr h.symm)]; exact h1
    have hr' : (setBlock w1 r (.mapIter (some b) since (seen.push e.born) clock)).heap[r]? = some (.mapIter (some b) since (seen.push e.born) clock) := by
      simp [setBlock, hw1s, hlt]
    refine hK' _ _ (hMore e.key e.val ((leftOf es (seen.push e.born)).toList.map fun e => (e.key, e.val)) _ (List.mem_map.2 ⟨e, he, rfl⟩) ?_ ?_ ⟨es, clock, since, seen.push e.born, clock, hb', hr', h3, hlast, hlast, h5, h6, rfl⟩ ?_ ?_ ?_)
    · intro q
      simp only [List.mem_map]
      constructor
      · rintro ⟨x, hx, rfl⟩
        simp [leftOf] at hx
        refine ⟨⟨x, by simp [leftOf]; exact ⟨hx.1, hx.2.1⟩, rfl⟩, fun e1 => ?_⟩
        exact hx.2.2 ((born_key h5 h6 (by simpa using hx.1) hes).2 e1)
      · rintro ⟨⟨x, hx, rfl⟩, hq⟩
        simp [leftOf] at hx
        refine ⟨x, ?_, rfl⟩
        simp [leftOf]
        exact ⟨hx.1, hx.2, fun e1 => hq ((born_key h5 h6 (by simpa using hx.1) hes).1 e1)⟩
    · simp only [List.length_map, Array.length_toList]
      exact left_shrinks es seen e he
    · refine ⟨?_, ?_, ?_, ?_, ?_⟩
      · rcases hw1 with rfl | rfl <;> rfl
      · rcases hw1 with rfl | rfl <;> rfl
      · rcases hw1 with rfl | rfl <;> rfl
      · simp [setBlock, hw1s]
      · intro i _ hi
        simp only [setBlock, Array.getElem?_setIfInBounds, hw1s]
        rw [if_neg (fun h => hi h.symm)]
    · simp [setBlock, hw1s]
    · exact run_entry_at _ r b since seen es clock e hr' hb' hes h6
end laws

theorem RngIs.left {w : World} {r b : Nat} {todo : List (Value × Value)} (h : RngIs w r b todo) : w.rangeLeft b r = todo.length := by
  obtain ⟨es, clock, since, seen, c0, h1, h2, -, -, -, -, -, rfl⟩ := h
  simp [World.rangeLeft, h1, h2]
theorem MapIs.keys {P : Program} {k : TypeId} {w : World} {b : Nat} {l : List (Value × Value)} (h : MapIs P k w b l) : (l.map (·.1)).Nodup := by
  obtain ⟨es, clock, -, -, -, h, -⟩ := h; exact h

end Go.Proofs.Ytepddehodmljeaa

namespace Go.Proofs.Ytepddehodmljeaa
open Go.RowKit

/-- Each variable becomes itself. -/
def noneS : List (List Int) := [[-1], [-2], [-3], [-4], [-5], [-6], [-7], [-8]]
def noneP (k : Nat) : List (List Int) := noneS.take k ++ List.replicate (8 - k) []
theorem noneP_set : ∀ k, k < 8 → (noneP k).set k [-1 - (k : Int)] = noneP (k + 1) := by decide
theorem noneP_len : ∀ k, k < 8 → k < (noneP k).length := by decide
theorem none_take : ∀ k, k < 8 → noneS.take k ++ [[-((k : Int) + 1)]] = noneS.take (k + 1) := by decide
theorem none_take_len : ∀ k, k < 8 → (noneS.take k).length = k := by decide

theorem lit1 (W : World) (base g : Nat) (x : Int) (e : TypeId) (hb : base ≤ W.heap.size) (hg : g < W.heap.size) :
    TermR (Both' (Fr base) fun b => b ≠ g) (W.alloc (.cells #[.int .i64 x] e)) [.slice (some ⟨W.heap.size, 0, none⟩) 1 1] [x] :=
  ⟨_, rfl, (ints_one W x e).mono (.weak fun b h => ⟨Nat.le_trans hb h, by have : W.heap.size ≤ b := h; omega⟩)⟩

set_option maxRecDepth 100000 in
theorem None_calls (w : World) :
    Calls Try.prog 45 #[] w fun e w' => ∃ v, e = .returned v ∧ OwnRow w.heap.size 24 1 TermR (Fr w.heap.size) w' v noneS ∧ Below w.heap.size w w' := by
  obtain ⟨i24, hi, hz, hsz, hby⟩ := info_parts Try.inf24
  go_enter Try.func45, Try.ntmps45
  go_wp2_with (at_make; refine make_rows (R := TermR) _ _ 22 rfl rfl w.heap.size 24 i24 (.slice none 0 0) Try.underlying22 hi hz rfl hsz .i64 .i64 8 rfl rfl (by rw [hby]; decide) (by decide) (Nat.le_refl _) (Fr w.heap.size) [] (fun _ _ => ⟨_, rfl, .nil _ _⟩) ?_; intro w1 hown1 hb1 hlt1)
  have hO1 := Lib.hid hown1
  clear hown1
  go_loopw [6] (fun i wr => ∃ k : Nat, k ≤ 8 ∧ i = .int .i64 k ∧ Hid (OwnRow w.heap.size 24 1 TermR (Fr w.heap.size) wr (.slice (some ⟨w.heap.size, 0, none⟩) 8 8) (noneP k)) ∧ Hid (Below w.heap.size w wr) ∧ w.heap.size < wr.heap.size) (fun i _ => 8 - (intOf i).toNat)
  case atStart => exact ⟨0, by omega, rfl, hO1.out, hb1, hlt1⟩
  case round =>
    clear hO1 hb1 hlt1
    obtain ⟨k, hk, rfl, hO, hB, hlt⟩ := hrel
    by_cases hlt' : k < 8
    · have hO' := Lib.hid (hO.out.below TermR.ok (below_alloc wr (.cells #[.int .i64 (-1 - (k : Int))] 3)))
      have hl1 := Lib.hid (lit1 wr w.heap.size w.heap.size (-1 - (k : Int)) 3 (by omega) hlt)
      have hkl := noneP_len k hlt'
      go_wp2_with ((with_reducible show wpList _ _ _ (Oper.mk none (Op.store _ _ _) _ _ _ _ :: _) _ _); refine store_rows TermR.ok _ _ 24 rfl rfl rfl i24 hi hsz w.heap.size 24 (Fr w.heap.size) w.heap.size k 8 8 (noneP k) rfl hO'.out hkl _ hl1.out rfl ?_; intro w2 hown2 hg2 hz2)
      go_roundw
      case rel =>
        simp at hz2
        refine ⟨k + 1, by omega, by go_num, by rw [← noneP_set k hlt']; exact hown2, ?_, by omega⟩
        exact (hB.out.alloc (by omega) _).grown hg2 (by simp; omega) (fun j hj => by cases hj; exact Nat.le_refl _)
      case measure => simp [intOf]; omega
    · have : k = 8 := by omega
      subst this
      go_wp2_with fail
      go_ret
      exact ⟨_, rfl, hO.out, hB.out⟩

set_option maxRecDepth 100000 in
theorem NoneOf_calls (w : World) :
    Calls Try.prog 104 #[] w fun e w' => ∃ v, e = .returned v ∧ OwnRow w.heap.size 24 1 TermR (Fr w.heap.size) w' v noneS ∧ Below w.heap.size w w' := by
  obtain ⟨i24, hi, hz, hsz, hby⟩ := info_parts Try.inf24
  go_enter Try.func104, Try.ntmps104
  go_wp2_with fail
  go_loopw [1, 2] (fun out i wr => ∃ k : Nat, k ≤ 8 ∧ i = .int .i64 (k + 1) ∧ Hid (OwnRow w.heap.size 24 1 TermR (Fr w.heap.size) wr out (noneS.take k)) ∧ Hid (Below w.heap.size w wr)) (fun _ i _ => 9 - (intOf i).toNat)
  case atStart => exact ⟨0, by omega, rfl, OwnRow.nil _ _ _ _, .refl _ _⟩
  case round =>
    obtain ⟨k, hk, rfl, hO, hB⟩ := hrel
    by_cases hlt' : k < 8
    · have hO' := Lib.hid (hO.out.below TermR.ok (below_alloc wr (.cells #[.int .i64 (-((k : Int) + 1))] 3)))
      have hsize := hB.out.size
      have hl1 : Hid (TermR (Both' (Fr w.heap.size) (Off u1)) (wr.alloc (.cells #[.int .i64 (-((k : Int) + 1))] 3)) [.slice (some ⟨wr.heap.size, 0, none⟩) 1 1] [-((k : Int) + 1)]) :=
        ⟨_, rfl, (ints_one wr (-((k : Int) + 1)) 3).mono (.weak fun b h => ⟨Nat.le_trans hsize h, fun hv => by have h1 := (hO.out.block b hv).2; have h2 : wr.heap.size ≤ b := h; omega⟩)⟩
      go_wp2_with (at_builtin; refine app_one TermR.ok _ _ 22 rfl rfl w.heap.size 24 i24 (.slice none 0 0) 24 Try.underlying22 hi hz hsz hby rfl (by decide) hO'.out (us := [.slice (some ⟨wr.heap.size, 0, none⟩) 1 1]) (y := [-((k : Int) + 1)]) rfl ?c5 rfl ?c1 hl1.out ?c2 (by decide) ?c3 ?c4; rotate_left 4; intro v' w2 hown2 hb2 hk2 _)
      case c5 => simp
      case c1 => intro u hu; simp at hu; subst hu; rfl
      case c2 => rw [none_take_len k hlt']; omega
      case c3 => simp; omega
      go_roundw
      case rel =>
        refine ⟨k + 1, by omega, by go_num, by rw [none_take k hlt'] at hown2; exact hown2, ?_⟩
        exact (hB.out.alloc (by omega) _).trans hb2
      case measure => simp [intOf]; omega
    · have : k = 8 := by omega
      subst this
      go_wp2_with fail
      go_ret
      exact ⟨_, rfl, hO.out, hB.out⟩

theorem terms_drewN {S : Blk} {w : World} {n : Nat} {v : Value} {t : List Int} (h : IsInts S w v t) : IsInts S (w.drewN n) v t := h.below (below_drewN _ _ _)

theorem SameSubs_calls (s t : List (List Int)) (u v : Value) (w : World) (hu : IsTerms Any w u s) (hv : IsTerms Any w v t) :
    Calls Try.prog 44 #[u, v] w fun e w' => e = .returned (.bool (decide (s = t))) ∧ ∃ n, w' = w.drewN n := by
  obtain ⟨a, c, rfl⟩ := hu.isSlice
  obtain ⟨a', c', rfl⟩ := hv.isSlice
  by_cases hl : s.length = t.length
  · obtain ⟨hlen, ⟨rfl, a1, c1, e1, -⟩ | ⟨hne, b, o, c, e1, -, -, hlt, cs, he, hc⟩⟩ := hu
    · cases e1
      obtain rfl : t = [] := List.eq_nil_of_length_eq_zero (by simpa using hl.symm)
      clear hv hl
      go_enter Try.func44, Try.ntmps44
      go_wp2_with fail
      refine wp_loop_rounds 1 ?_
      rw [rounds_succ]
      go_wp2_with fail
      go_ret
      exact ⟨rfl, 0, rfl⟩
    · cases e1
      obtain ⟨hlen2, ⟨rfl, -⟩ | ⟨hne2, b2, o2, c2, e2, -, -, hlt2, cs2, he2, hc2⟩⟩ := hv
      · exact absurd (List.eq_nil_of_length_eq_zero hl) hne
      cases e2
      rw [← hl]
      have hL := Lib.hid hl
      have hT : Hid (∀ j, j < s.length → ∃ u, w.cell? ⟨b, o + j, none⟩ = some u ∧ IsInts Any w u (nthT s j)) := fun j hj => terms_cell he hc hj
      have hT2 : Hid (∀ j, j < s.length → ∃ u, w.cell? ⟨b2, o2 + j, none⟩ = some u ∧ IsInts Any w u (nthT t j)) := fun j hj => terms_cell he2 hc2 (by rw [← hl]; exact hj)
      clear hl he hc he2 hc2 hne hne2
      go_enter Try.func44, Try.ntmps44
      go_wp2_with fail
      go_loopw [5] (fun i wr => ∃ k : Nat, k ≤ s.length ∧ i = .int .i64 k ∧ (∀ j, j < k → nthT s j = nthT t j) ∧ Hid (∃ n, wr = w.drewN n)) (fun i _ => s.length - (intOf i).toNat)
      case atStart => exact ⟨0, Nat.zero_le _, rfl, fun _ h => by omega, 0, rfl⟩
      case round =>
        obtain ⟨k, hk, rfl, hp, hW⟩ := hrel
        have hsame : ∀ p : Addr, wr.cell? p = w.cell? p := by intro p; obtain ⟨n, rfl⟩ := hW.out; rfl
        have hbel : Below w.heap.size w wr := by obtain ⟨n, rfl⟩ := hW.out; exact below_drewN _ _ _
        have hP := Lib.hid hp
        clear hp
        by_cases hlt' : k < s.length
        · obtain ⟨x, hcell, hx⟩ := hT.out k hlt'
          obtain ⟨y, hcell2, hy⟩ := hT2.out k hlt'
          rw [← hsame] at hcell hcell2
          have hX := Lib.hid (hx.below hbel)
          have hY := Lib.hid (hy.below hbel)
          clear hsame hbel
          have hi : (k : Int) < s.length := by omega
          clear hx hy
          by_cases hx : nthT s k = nthT t k
          · have hx' : decide (nthT s k = nthT t k) = true := by simpa using hx
            have hS := Lib.hid (fun m => SameTerms_calls _ _ x y (wr.drewN m) (terms_drewN hX.out) (terms_drewN hY.out))
            rw [hx'] at hS
            have hE := Lib.hid hx
            clear hx hx'
            go_wp2_with fail
            go_quiet ((go_at_call 39; exact Calls.quiet_of (hS.out _)))
            go_wp2_with fail
            go_roundw
            case rel =>
              refine ⟨k + 1, by omega, by go_num, fun j hj => ?_, by obtain ⟨n, rfl⟩ := hW.out; exact ⟨_, drewN_add _ _ _⟩⟩
              by_cases e : j = k
              · subst e; exact hE.out
              · exact hP.out j (by omega)
            case measure => simp [intOf]; omega
          · have hx' : decide (nthT s k = nthT t k) = false := by simpa using hx
            have hS := Lib.hid (fun m => SameTerms_calls _ _ x y (wr.drewN m) (terms_drewN hX.out) (terms_drewN hY.out))
            rw [hx'] at hS
            have hfin : Hid (s ≠ t) := by rintro rfl; exact hx rfl
            clear hx hx'
            go_wp2_with fail
            go_quiet ((go_at_call 39; exact Calls.quiet_of (hS.out _)))
            go_wp2_with fail
            go_ret
            exact ⟨ret_bool (decide_eq_false hfin.out).symm, by obtain ⟨n, rfl⟩ := hW.out; exact ⟨_, drewN_add _ _ _⟩⟩
        · have hkl : k = s.length := by omega
          subst hkl
          have hfin : Hid (s = t) := extT hL.out hP.out
          clear hsame hbel
          go_wp2_with fail
          go_ret
          exact ⟨ret_bool (decide_eq_true hfin.out).symm, hW.out⟩
  · have hfin : Hid (s ≠ t) := by rintro rfl; exact hl rfl
    have hl' : ((s.length : Int) != t.length) = true := by rw [bne_iff_ne]; omega
    clear hu hv hl
    go_enter Try.func44, Try.ntmps44
    go_wp2_with fail
    go_ret
    exact ⟨ret_bool (decide_eq_false hfin.out).symm, 0, rfl⟩

end Go.Proofs.Ytepddehodmljeaa

namespace Go.Proofs.Ytepddehodmljeaa
open Go.RowKit

/-- What comes of After before it is asked how large it is. -/
def aft (s u : List (List Int)) : List (List Int) := s.map (app u)
def bigL : List (List Int) → Bool := fun l => l.any fun t => decide (30 < t.length)
def afterE (s u : List (List Int)) : Int := if chkS s ≠ 0 then chkS s else if chkS u ≠ 0 then chkS u else if bigL (aft s u) then 2 else 0
def afterT (s u : List (List Int)) : List (List Int) := if afterE s u = 0 then aft s u else []

theorem after_s {s u : List (List Int)} (h : chkS s ≠ 0) : afterE s u = chkS s ∧ afterT s u = [] := by
  have : afterE s u = chkS s := by rw [afterE, if_pos h]
  exact ⟨this, by rw [afterT, this, if_neg h]⟩
theorem after_u {s u : List (List Int)} (h : chkS s = 0) (h2 : chkS u ≠ 0) : afterE s u = chkS u ∧ afterT s u = [] := by
  have : afterE s u = chkS u := by rw [afterE, if_neg (by simpa using h), if_pos h2]
  exact ⟨this, by rw [afterT, this, if_neg h2]⟩
theorem after_big {s u : List (List Int)} (h : chkS s = 0) (h2 : chkS u = 0) (h3 : bigL (aft s u) = true) : afterE s u = 2 ∧ afterT s u = [] := by
  have : afterE s u = 2 := by rw [afterE, if_neg (by simpa using h), if_neg (by simpa using h2), if_pos h3]
  exact ⟨this, by rw [afterT, this, if_neg (by omega)]⟩
theorem after_ok {s u : List (List Int)} (h : chkS s = 0) (h2 : chkS u = 0) (h3 : bigL (aft s u) = false) : afterE s u = 0 ∧ afterT s u = aft s u := by
  have : afterE s u = 0 := by rw [afterE, if_neg (by simpa using h), if_neg (by simpa using h2), h3]; rfl
  exact ⟨this, by rw [afterT, this, if_pos rfl]⟩

theorem takeT {s : List (List Int)} {k : Nat} (hk : k < s.length) (f : List Int → List Int) : (s.take k).map f ++ [f (nthT s k)] = (s.take (k + 1)).map f := by
  rw [nthT_eq hk, List.take_succ_eq_append_getElem hk, List.map_append]; rfl
theorem big_at {s u : List (List Int)} {k : Nat} (hk : k < s.length) (h : 30 < (app u (nthT s k)).length) : bigL (aft s u) = true := by
  rw [bigL, List.any_eq_true]
  exact ⟨_, List.mem_map.2 ⟨_, nthT_mem hk, rfl⟩, by simpa using h⟩
theorem big_none {s u : List (List Int)} (h : ∀ k, k < s.length → (app u (nthT s k)).length ≤ 30) : bigL (aft s u) = false := by
  rw [bigL, List.any_eq_false]
  intro x hx
  obtain ⟨t, ht, rfl⟩ := List.mem_map.1 hx
  obtain ⟨j, hj, rfl⟩ := List.getElem_of_mem ht
  have := h j hj
  rw [nthT_eq hj] at this
  simp; omega

set_option maxRecDepth 100000 in
set_option maxHeartbeats 1000000 in
theorem After_calls (s u : List (List Int)) (x y : Value) (w : World) (hx : IsTerms Any w x s) (hy : IsTerms Any w y u) :
    Calls Try.prog 40 #[x, y] w fun e w' => ∃ z, e = .returned (.tuple #[z, .int .i64 (afterE s u)]) ∧ IsTerms (Fr w.heap.size) w' z (afterT s u) ∧ Below w.heap.size w w' := by
  obtain ⟨i24, hi, hz, hsz, hby⟩ := info_parts Try.inf24
  obtain ⟨a, c, rfl⟩ := hx.isSlice
  obtain ⟨a', c', rfl⟩ := hy.isSlice
  have h1 := Lib.hid (SubCheck_calls s _ (w.alloc (.cells #[.slice a s.length c, .slice a' u.length c'] 22)) (hx.below TermR.ok (below_alloc w _)))
  have h2 := Lib.hid (SubCheck_calls u _ (w.alloc (.cells #[.slice a s.length c, .slice a' u.length c'] 22)) (hy.below TermR.ok (below_alloc w _)))
  by_cases hs : chkS s = 0
  · by_cases hu : chkS u = 0
    · have hS := chkS_zero.1 hs
      have hU := chkS_zero.1 hu
      have hX := Lib.hid hx
      have hY := Lib.hid hy
      have hSl := Lib.hid hS.1
      have hcells : Hid (∀ W, Below w.heap.size w W → ∀ j, j < 8 → ∃ b o v, a = some ⟨b, o, none⟩ ∧ W.cell? ⟨b, o + j, none⟩ = some v ∧ IsInts Any W v (nthT s j)) := by
        intro W hW j hj
        obtain ⟨-, ⟨rfl, -⟩ | ⟨-, b, o, c, e, -, -, hlt, cs, he, hc⟩⟩ := hx.below TermR.ok hW
        · simp [RightS] at hS
        · cases e
          obtain ⟨v, h1, h2⟩ := terms_cell he hc (j := j) (by rw [hS.1]; exact hj)
          exact ⟨b, o, v, rfl, h1, h2⟩
      have hby' : Hid (∀ W, Below w.heap.size w W → ∀ j v, j < 8 → IsInts Any W v (nthT s j) → Calls Try.prog 100 #[.slice a' u.length c', v] W fun e W' => ∃ x, e = .returned x ∧ IsInts (Fr W.heap.size) W' x (app u (nthT s j)) ∧ Below W.heap.size W W') := by
        intro W hW j v hj hv
        have hr := hS.2 _ (nthT_mem (ts := s) (j := j) (by rw [hS.1]; exact hj))
        exact By_calls u (nthT s j) _ v W hU (signs_of_chk hr) (by have := len_of_chk hr; omega) (hy.below TermR.ok hW) hv
      have hlarge : Hid (∀ j, j < 8 → 30 < (app u (nthT s j)).length → afterE s u = 2 ∧ afterT s u = []) := fun j hj h => after_big hs hu (big_at (by rw [hS.1]; exact hj) h)
      have hok : Hid ((∀ j, j < 8 → (app u (nthT s j)).length ≤ 30) → afterE s u = 0 ∧ afterT s u = aft s u) := fun h => after_ok hs hu (big_none fun k hk => h k (by rw [← hS.1]; exact hk))
      obtain ⟨b0, o0, _, ha, _, _⟩ := hcells.out w (.refl _ _) 0 (by omega)
      subst ha
      have hsl := hS.1
      rw [hsl] at h1 h2 ⊢
      clear hx hy hS hU hsl
      go_enter Try.func40, Try.ntmps40
      go_wp2_with fail
      refine wp_loop_rounds 3 ?_
      rw [rounds_succ]
      go_wp2_with fail
      refine h1.out.mono ?_
      rintro e w' ⟨rfl, rfl⟩
      go_wp2_with fail
      rw [rounds_succ]
      go_wp2_with fail
      refine h2.out.mono ?_
      rintro e w' ⟨rfl, rfl⟩
      clear h1 h2
      go_wp2_with fail
      rw [rounds_succ]
      have hs := Lib.hid hs
      have hu := Lib.hid hu
      go_wp2_with (at_make; refine wpList_make_own _ rfl _ _ 22 rfl w.heap.size 24 i24 (.slice none 0 0) 1 Try.underlying22 hi hz hsz .i64 .i64 8 8 rfl rfl rfl ?m1 (by decide) ?m2 ?m3; rotate_left 2; intro w1 hown1 hg1)
      case m1 => rw [hby]; decide
      case m2 => simp
      have hO1 : Hid (OwnRow w.heap.size 24 1 TermR (Fr w.heap.size) w1 (.slice (some ⟨(w.alloc (.cells #[.slice (some ⟨b0, o0, none⟩) 8 c, .slice a' u.length c'] 22)).heap.size, 0, none⟩) 0 8) []) := ⟨[], rfl, hown1⟩
      have hB1 : Hid (Below w.heap.size w w1) := ((below_alloc w _).trans ((below_of_grown hg1 (by simp) (fun k hk => by cases hk)).mono (Nat.le_refl _)))
      clear hown1 hg1
      go_loopw [9, 31] (fun out i wr => ∃ k : Nat, k ≤ 8 ∧ i = .int .i64 k ∧ Hid (OwnRow w.heap.size 24 1 TermR (Fr w.heap.size) wr out ((s.take k).map (app u))) ∧ Hid (Below w.heap.size w wr) ∧ Hid (∀ j, j < k → (app u (nthT s j)).length ≤ 30)) (fun _ i _ => 8 - (intOf i).toNat)
      case atStart => exact ⟨0, by omega, rfl, by show OwnRow _ _ _ _ _ _ _ _; simpa using hO1.out, hB1.out, fun j hj => by omega⟩
      case round =>
        clear hO1 hB1
        obtain ⟨k, hk, rfl, hO, hB, hP⟩ := hrel
        by_cases hlt' : k < 8
        · obtain ⟨b, o, v, hbo, hcell, hv⟩ := hcells.out wr hB.out k hlt'
          cases hbo
          have hcall := Lib.hid (hby'.out wr hB.out k v hlt' hv)
          clear hv
          by_cases hbig : 30 < (app u (nthT s k)).length
          · have hr := Lib.hid (hlarge.out k hlt' hbig)
            go_wp2_with fail
            refine hcall.out.mono ?_
            rintro e w2 ⟨x, rfl, hx, hB2⟩
            go_wp2_with fail
            refine (Fits_big _ _ _ hx.any hbig).mono ?_
            rintro e w' ⟨rfl, rfl⟩
            go_wp2_with fail
            go_ret2
            exact ⟨_, by rw [hr.out.1]; rfl, by rw [hr.out.2]; exact .nil _ _, hB.out.trans (hB2.mono hB.out.size)⟩
          · have hle : (app u (nthT s k)).length ≤ 30 := by omega
            have hL := Lib.hid hle
            clear hbig hle
            go_wp2_with fail
            refine hcall.out.mono ?_
            rintro e w2 ⟨x, rfl, hx, hB2⟩
            have hX2 := Lib.hid hx
            have hB2' := Lib.hid hB2
            clear hx hB2
            go_wp2_with fail
            refine (Fits_ok _ _ _ hX2.out.any hL.out).mono ?_
            rintro e w' ⟨rfl, rfl⟩
            obtain ⟨ax, cx, rfl⟩ := hX2.out.isSlice
            have hO2 := Lib.hid (hO.out.below TermR.ok hB2'.out)
            have hel : Hid (TermR (Both' (Fr w.heap.size) (Off u9)) w2 [.slice ax (app u (nthT s k)).length cx] (app u (nthT s k))) :=
              ⟨_, rfl, hX2.out.mono (.weak fun b h => ⟨Nat.le_trans hB.out.size h, fun hv => by have h1 := (hO.out.block b hv).2; have h2 : wr.heap.size ≤ b := h; omega⟩)⟩
            have hsize : w.heap.size ≤ w2.heap.size := (hB.out.trans (hB2'.out.mono hB.out.size)).size
            go_wp2_with (at_builtin; refine app_one TermR.ok _ _ 22 rfl rfl w.heap.size 24 i24 (.slice none 0 0) 24 Try.underlying22 hi hz hsz hby rfl (by decide) hO2.out (us := [.slice ax (app u (nthT s k)).length cx]) (y := app u (nthT s k)) rfl rfl rfl ?c1 hel.out ?c2 (by decide) hsize ?c4; rotate_left 2; intro v' w3 hown3 hb3 hk3 _)
            case c1 => intro z hz; simp at hz; subst hz; rfl
            case c2 => rw [List.length_map, List.length_take]; omega
            go_roundw
            case rel =>
              refine ⟨k + 1, by omega, by go_num, ?_, (hB.out.trans (hB2'.out.mono hB.out.size)).trans hb3, fun j hj => ?_⟩
              · rw [takeT (by rw [hSl.out]; exact hlt')] at hown3; exact hown3
              · by_cases e : j = k
                · subst e; exact hL.out
                · exact hP.out j (by omega)
            case measure => simp [intOf]; omega
        · have : k = 8 := by omega
          subst this
          have hr := Lib.hid (hok.out hP.out)
          go_wp2_with fail
          go_ret2
          refine ⟨_, by rw [hr.out.1]; rfl, ?_, hB.out⟩
          rw [hr.out.2]
          have := hO.out
          rw [List.take_of_length_le (by rw [hSl.out]; exact Nat.le_refl _)] at this
          exact this.isRow TermR.ok (fun _ h => h) (fun _ h => h) (by rw [List.length_map, hSl.out]; omega)
    · have hr := Lib.hid (after_u hs hu)
      have hu' : (chkS u != 0) = true := by simpa using hu
      clear hx hy hu
      go_enter Try.func40, Try.ntmps40
      go_wp2_with fail
      refine wp_loop_rounds 3 ?_
      rw [rounds_succ]
      go_wp2_with fail
      refine h1.out.mono ?_
      rintro e w' ⟨rfl, rfl⟩
      go_wp2_with fail
      rw [rounds_succ]
      go_wp2_with fail
      refine h2.out.mono ?_
      rintro e w' ⟨rfl, rfl⟩
      clear h1 h2
      go_wp2_with fail
      go_ret2
      exact ⟨_, by rw [hr.out.1]; rfl, by rw [hr.out.2]; exact .nil _ _, below_alloc _ _⟩
  · have hr := Lib.hid (after_s (u := u) hs)
    have hs' : (chkS s != 0) = true := by simpa using hs
    clear hx hy hs
    go_enter Try.func40, Try.ntmps40
    go_wp2_with fail
    refine wp_loop_rounds 3 ?_
    rw [rounds_succ]
    go_wp2_with fail
    refine h1.out.mono ?_
    rintro e w' ⟨rfl, rfl⟩
    clear h1 h2
    go_wp2_with fail
    go_ret2
    exact ⟨_, by rw [hr.out.1]; rfl, by rw [hr.out.2]; exact .nil _ _, below_alloc _ _⟩

set_option maxRecDepth 100000 in
set_option maxHeartbeats 1000000 in
theorem AfterOf_calls (s u : List (List Int)) (x y : Value) (w : World) (hx : IsTerms Any w x s) (hy : IsTerms Any w y u) :
    Calls Try.prog 42 #[x, y] w fun e w' => ∃ z, e = .returned (.tuple #[z, .int .i64 (afterE s u)]) ∧ IsTerms (Fr w.heap.size) w' z (afterT s u) ∧ Below w.heap.size w w' := by
  obtain ⟨i24, hi, hz, hsz, hby⟩ := info_parts Try.inf24
  obtain ⟨a, c, rfl⟩ := hx.isSlice
  obtain ⟨a', c', rfl⟩ := hy.isSlice
  have h1 := Lib.hid (SubError_calls s _ w hx)
  have h2 := Lib.hid (SubError_calls u _ w hy)
  by_cases hs : chkS s = 0
  · by_cases hu : chkS u = 0
    · have hS := chkS_zero.1 hs
      have hU := chkS_zero.1 hu
      have hX := Lib.hid hx
      have hY := Lib.hid hy
      have hSl := Lib.hid hS.1
      have hcells : Hid (∀ W, Below w.heap.size w W → ∀ j, j < 8 → ∃ b o v, a = some ⟨b, o, none⟩ ∧ W.cell? ⟨b, o + j, none⟩ = some v ∧ IsInts Any W v (nthT s j)) := by
        intro W hW j hj
        obtain ⟨-, ⟨rfl, -⟩ | ⟨-, b, o, c, e, -, -, hlt, cs, he, hc⟩⟩ := hx.below TermR.ok hW
        · simp [RightS] at hS
        · cases e
          obtain ⟨v, h1, h2⟩ := terms_cell he hc (j := j) (by rw [hS.1]; exact hj)
          exact ⟨b, o, v, rfl, h1, h2⟩
      have hby' : Hid (∀ W, Below w.heap.size w W → ∀ j v, j < 8 → IsInts Any W v (nthT s j) → Calls Try.prog 101 #[.slice a' u.length c', v] W fun e W' => ∃ x, e = .returned x ∧ IsInts (Fr W.heap.size) W' x (app u (nthT s j)) ∧ Below W.heap.size W W') := by
        intro W hW j v hj hv
        have hr := hS.2 _ (nthT_mem (ts := s) (j := j) (by rw [hS.1]; exact hj))
        exact applied_calls u (nthT s j) _ v W hU (signs_of_chk hr) (by have := len_of_chk hr; omega) (hy.below TermR.ok hW) hv
      have hlarge : Hid (∀ j, j < 8 → 30 < (app u (nthT s j)).length → afterE s u = 2 ∧ afterT s u = []) := fun j hj h => after_big hs hu (big_at (by rw [hS.1]; exact hj) h)
      have hok : Hid ((∀ j, j < 8 → (app u (nthT s j)).length ≤ 30) → afterE s u = 0 ∧ afterT s u = aft s u) := fun h => after_ok hs hu (big_none fun k hk => h k (by rw [← hS.1]; exact hk))
      obtain ⟨b0, o0, _, ha, _, _⟩ := hcells.out w (.refl _ _) 0 (by omega)
      subst ha
      have hsl := hS.1
      rw [hsl] at h1 ⊢
      clear hx hy hS hU hsl
      go_enter Try.func42, Try.ntmps42
      go_wp2_with fail
      refine h1.out.mono ?_
      rintro e w' ⟨rfl, rfl⟩
      go_wp2_with fail
      refine h2.out.mono ?_
      rintro e w' ⟨rfl, rfl⟩
      clear h1 h2
      have hs := Lib.hid hs
      have hu := Lib.hid hu
      go_wp2_with fail
      go_loopw [8, 9] (fun out i wr => ∃ k : Nat, k ≤ 8 ∧ i = .int .i64 k ∧ Hid (OwnRow w.heap.size 24 1 TermR (Fr w.heap.size) wr out ((s.take k).map (app u))) ∧ Hid (Below w.heap.size w wr) ∧ Hid (∀ j, j < k → (app u (nthT s j)).length ≤ 30)) (fun _ i _ => 8 - (intOf i).toNat)
      case atStart => exact ⟨0, by omega, rfl, by show OwnRow _ _ _ _ _ _ _ _; simpa using OwnRow.nil _ _ _ _, .refl _ _, fun j hj => by omega⟩
      case round =>
        obtain ⟨k, hk, rfl, hO, hB, hP⟩ := hrel
        by_cases hlt' : k < 8
        · obtain ⟨b, o, v, hbo, hcell, hv⟩ := hcells.out wr hB.out k hlt'
          cases hbo
          have hcall := Lib.hid (hby'.out wr hB.out k v hlt' hv)
          clear hv
          by_cases hbig : 30 < (app u (nthT s k)).length
          · have hr := Lib.hid (hlarge.out k hlt' hbig)
            go_wp2_with fail
            refine hcall.out.mono ?_
            rintro e w2 ⟨x, rfl, hx, hB2⟩
            obtain ⟨ax, cx, rfl⟩ := hx.isSlice
            have hbig' : 30 < ((app u (nthT s k)).length : Int) := by omega
            clear hx hbig
            go_wp2_with fail
            go_ret2
            exact ⟨_, by rw [hr.out.1]; rfl, by rw [hr.out.2]; exact .nil _ _, hB.out.trans (hB2.mono hB.out.size)⟩
          · have hle : (app u (nthT s k)).length ≤ 30 := by omega
            have hL := Lib.hid hle
            clear hbig hle
            go_wp2_with fail
            refine hcall.out.mono ?_
            rintro e w2 ⟨x, rfl, hx, hB2⟩
            have hX2 := Lib.hid hx
            have hB2' := Lib.hid hB2
            have hle' : ((app u (nthT s k)).length : Int) ≤ 30 := by have := hL.out; omega
            clear hx hB2
            obtain ⟨ax, cx, rfl⟩ := hX2.out.isSlice
            have hO2 := Lib.hid (hO.out.below TermR.ok hB2'.out)
            have hel : Hid (TermR (Both' (Fr w.heap.size) (Off u8)) w2 [.slice ax (app u (nthT s k)).length cx] (app u (nthT s k))) :=
              ⟨_, rfl, hX2.out.mono (.weak fun b h => ⟨Nat.le_trans hB.out.size h, fun hv => by have h1 := (hO.out.block b hv).2; have h2 : wr.heap.size ≤ b := h; omega⟩)⟩
            have hsize : w.heap.size ≤ w2.heap.size := (hB.out.trans (hB2'.out.mono hB.out.size)).size
            go_wp2_with (at_builtin; refine app_one TermR.ok _ _ 22 rfl rfl w.heap.size 24 i24 (.slice none 0 0) 24 Try.underlying22 hi hz hsz hby rfl (by decide) hO2.out (us := [.slice ax (app u (nthT s k)).length cx]) (y := app u (nthT s k)) rfl rfl rfl ?c1 hel.out ?c2 (by decide) hsize ?c4; rotate_left 2; intro v' w3 hown3 hb3 hk3 _)
            case c1 => intro z hz; simp at hz; subst hz; rfl
            case c2 => rw [List.length_map, List.length_take]; omega
            go_roundw
            case rel =>
              refine ⟨k + 1, by omega, by go_num, ?_, (hB.out.trans (hB2'.out.mono hB.out.size)).trans hb3, fun j hj => ?_⟩
              · rw [takeT (by rw [hSl.out]; exact hlt')] at hown3; exact hown3
              · by_cases e : j = k
                · subst e; exact hL.out
                · exact hP.out j (by omega)
            case measure => simp [intOf]; omega
        · have : k = 8 := by omega
          subst this
          have hr := Lib.hid (hok.out hP.out)
          go_wp2_with fail
          go_ret2
          refine ⟨_, by rw [hr.out.1]; rfl, ?_, hB.out⟩
          rw [hr.out.2]
          have := hO.out
          rw [List.take_of_length_le (by rw [hSl.out]; exact Nat.le_refl _)] at this
          exact this.isRow TermR.ok (fun _ h => h) (fun _ h => h) (by rw [List.length_map, hSl.out]; omega)
    · have hr := Lib.hid (after_u hs hu)
      have hu' : (chkS u != 0) = true := by simpa using hu
      clear hx hy hu
      go_enter Try.func42, Try.ntmps42
      go_wp2_with fail
      refine h1.out.mono ?_
      rintro e w' ⟨rfl, rfl⟩
      go_wp2_with fail
      refine h2.out.mono ?_
      rintro e w' ⟨rfl, rfl⟩
      clear h1 h2
      go_wp2_with fail
      go_ret2
      exact ⟨_, by rw [hr.out.1]; rfl, by rw [hr.out.2]; exact .nil _ _, .refl _ _⟩
  · have hr := Lib.hid (after_s (u := u) hs)
    have hs' : (chkS s != 0) = true := by simpa using hs
    clear hx hy hs
    go_enter Try.func42, Try.ntmps42
    go_wp2_with fail
    refine h1.out.mono ?_
    rintro e w' ⟨rfl, rfl⟩
    clear h1 h2
    go_wp2_with fail
    go_ret2
    exact ⟨_, by rw [hr.out.1]; rfl, by rw [hr.out.2]; exact .nil _ _, .refl _ _⟩

end Go.Proofs.Ytepddehodmljeaa

namespace Go.Proofs.Ytepddehodmljeaa
open Go.RowKit Go.Maps

/-- What the map of names holds. -/
def entries (seen : List Int) : List (Value × Value) := seen.zipIdx.map fun p => (.int .i64 p.1, .int .i64 (-1 - (p.2 : Int)))
theorem entries_append (seen : List Int) (n : Int) : entries (seen ++ [n]) = entries seen ++ [(.int .i64 n, .int .i64 (-1 - (seen.length : Int)))] := by
  simp [entries, List.zipIdx_append]
theorem entries_len (seen : List Int) : (entries seen).length = seen.length := by simp [entries]
theorem entries_abs {seen : List Int} {n : Int} (h : n ∉ seen) : ∀ p ∈ entries seen, p.1 ≠ .int .i64 n := by
  intro p hp e
  obtain ⟨q, hq, rfl⟩ := List.mem_map.1 hp
  simp only [Value.int.injEq, true_and] at e
  have := (List.mem_zipIdx hq).2.2
  exact h (by rw [← e, this]; exact List.getElem_mem _)
theorem entries_pres {seen : List Int} {n : Int} (h : n ∈ seen) : (.int .i64 n, .int .i64 (-1 - (seen.idxOf n : Int))) ∈ entries seen := by
  refine List.mem_map.2 ⟨(n, seen.idxOf n), ?_, rfl⟩
  have hl := List.idxOf_lt_length_of_mem h
  rw [List.mk_mem_zipIdx_iff_getElem?]
  rw [List.getElem?_eq_getElem hl, List.getElem_idxOf hl]

theorem wf_i64 {n : Int} (h1 : -9223372036854775808 ≤ n) (h2 : n ≤ 9223372036854775807) : (Lit.int .i64 n).wf = true := WalkArith.wf_i64 ⟨h1, h2⟩

theorem zero3 (w : World) : (zeroValue 3).run Try.prog w = .ok (.int .i64 0) w := by kernel_rfl

set_option maxRecDepth 100000 in
theorem Smooth1_calls (seen : List Int) (B mb : Nat) (n : Int) (W : World) (hn1 : -8 ≤ n) (hn2 : n < 6) (hlen : seen.length ≤ 1000000) (hB : W.cell? ⟨B, 0, none⟩ = some (.map (some mb))) (hBm : B ≠ mb)
    (hM : MapIs Try.prog 3 W mb (entries seen)) :
    Calls Try.prog 168 #[.int .i64 n, .pointer (some ⟨B, 0, none⟩)] W fun e W' => ∃ u, e = .returned u ∧ IsInts Any W' u [nm seen n] ∧ MapIs Try.prog 3 W' mb (entries (adds seen n)) ∧ Keeps (fun i => i = mb) W W' := by
  by_cases h0 : 0 ≤ n
  · have hr : Hid (nm seen n = n ∧ adds seen n = seen) := by rw [Hid, nm, adds, if_pos h0, if_pos (.inl h0)]; exact ⟨rfl, rfl⟩
    have hM' := Lib.hid hM
    clear hM hB
    go_enter Try.func168, Try.ntmps168
    go_wp2_with fail
    go_ret
    refine ⟨_, rfl, by rw [hr.out.1]; exact (ints_one W n 3).any, ?_, .of_below (below_alloc _ _)⟩
    rw [hr.out.2]
    exact hM'.out.keep (Below.heap_alloc _ _ _ hM'.out.lt)
  · have h0' : n < 0 := by omega
    have hkey : keyOf Try.prog 3 (.int .i64 n) = some (.int .i64 n) := keyOf_int_mk Try.underlying3 (wf_i64 (by omega) (by omega))
    have hK := Lib.hid hkey
    clear hkey
    have hBl : B < W.heap.size := World.block_lt_of_cell? _ _ hB
    by_cases hin : n ∈ seen
    · have hr : Hid (nm seen n = -1 - (seen.idxOf n : Int) ∧ adds seen n = seen) := by
        have : adds seen n = seen := by rw [adds, if_pos (.inr hin)]
        rw [Hid, nm, if_neg h0, this]; exact ⟨rfl, rfl⟩
      have hp := Lib.hid (entries_pres hin)
      have hM' := Lib.hid hM
      have hne : ((-1 - (seen.idxOf n : Int)) == 0) = false := by simp; omega
      have hlt : (seen.idxOf n : Int) ≤ 1000000 := by have := List.idxOf_lt_length_of_mem hin; omega
      clear hM h0 hin
      go_enter Try.func168, Try.ntmps168
      go_wp2_with (at_lookup; refine lookup_pres false _ _ 178 rfl rfl 3 3 (int_keyed Try.underlying3) Try.underlying178 mb _ rfl hM'.out _ (.int .i64 (-1 - (seen.idxOf n : Int))) _ rfl hK.out hp.out ?_)
      go_ret
      refine ⟨_, rfl, by rw [hr.out.1]; exact (ints_one W _ 3).any, ?_, .of_below (below_alloc _ _)⟩
      rw [hr.out.2]
      exact hM'.out.keep (Below.heap_alloc _ _ _ hM'.out.lt)
    · have hr : Hid (nm seen n = -1 - (seen.length : Int) ∧ adds seen n = seen ++ [n]) := by
        have : adds seen n = seen ++ [n] := by rw [adds, if_neg (by rintro (h | h); omega; exact hin h)]
        rw [Hid, nm, if_neg h0, this, idxOf_new hin]; exact ⟨rfl, rfl⟩
      have ha := Lib.hid (entries_abs hin)
      have hM' := Lib.hid hM
      have hlt : (seen.length : Int) ≤ 1000000 := by omega
      have tok1 : True := trivial
      clear hM h0 hin
      go_enter Try.func168, Try.ntmps168
      go_wp2_with (first
        | (at_lookup; have _t := tok1; refine lookup_abs false _ _ 178 rfl rfl 3 3 (.int .i64 0) (int_keyed Try.underlying3) Try.underlying178 (zero3 _) mb _ rfl hM'.out _ _ rfl hK.out ha.out ?_; clear tok1)
        | (at_len; refine maplen _ 178 rfl rfl 3 3 Try.underlying178 mb _ rfl hM'.out ?_; rw [entries_len])
        | (at_mapUpdate; refine mapset_abs _ _ _ 178 rfl rfl rfl 3 3 (int_keyed Try.underlying3) Try.underlying178 mb _ rfl hM'.out _ _ rfl hK.out ha.out ?_; intro w1 hm1 hk1 hs1; have hB1 : w1.cell? ⟨B, 0, none⟩ = some (.map (some mb)) := (World.cell?_of_block (w := W) (hk1.block B hBl hBm)).trans hB)
        | (at_lookup; refine lookup_pres false _ _ 178 rfl rfl 3 3 (int_keyed Try.underlying3) Try.underlying178 mb _ rfl hm1 _ (.int .i64 (-1 - (seen.length : Int))) _ rfl hK.out ?p1 ?_))
      case p1 => exact List.mem_append.2 (.inr (List.mem_singleton.2 rfl))
      go_ret
      have hI := ints_one w1 (-1 - (seen.length : Int)) 3
      rw [hs1] at hI
      refine ⟨_, rfl, by rw [hr.out.1]; exact hI.any, ?_, hk1.trans (.of_below (below_alloc _ _))⟩
      rw [hr.out.2, entries_append]
      exact MapIs.keep hm1 (Below.heap_alloc _ _ _ hm1.lt)

/-- All of a list of terms, one behind the other, their variables plain. -/
def smoL : List Int → List (List Int) → List (List Int)
  | _, [] => []
  | seen, t :: ts => smo seen t :: smoL (seenA seen t) ts
def seenL (seen : List Int) (ts : List (List Int)) : List Int := ts.foldl seenA seen

theorem smoL_take {seen : List Int} {ts : List (List Int)} {k : Nat} (hk : k < ts.length) : smoL seen (ts.take k) ++ [smo (seenL seen (ts.take k)) (nthT ts k)] = smoL seen (ts.take (k + 1)) := by
  induction ts generalizing seen k with
  | nil => simp at hk
  | cons t ts ih =>
    cases k with
    | zero => rfl
    | succ k =>
      have := ih (seen := seenA seen t) (k := k) (by simpa using hk)
      simp only [List.take_succ_cons, smoL, List.cons_append]
      rw [← this]
      simp [nthT, List.getD, seenL]
theorem seenL_take {seen : List Int} {ts : List (List Int)} {k : Nat} (hk : k < ts.length) : seenA (seenL seen (ts.take k)) (nthT ts k) = seenL seen (ts.take (k + 1)) := by
  rw [nthT_eq hk, List.take_succ_eq_append_getElem hk, seenL, seenL, List.foldl_append]; rfl
theorem smoL_len (seen : List Int) (ts : List (List Int)) : (smoL seen ts).length = ts.length := by
  induction ts generalizing seen with
  | nil => rfl
  | cons t ts ih => simp [smoL, ih]
theorem seenL_nodup {seen : List Int} (h : seen.Nodup) (ts : List (List Int)) : (seenL seen ts).Nodup := by
  induction ts generalizing seen with
  | nil => exact h
  | cons t ts ih => exact ih (seenA_nodup h t)
theorem seenL_len (seen : List Int) (ts : List (List Int)) (n : Nat) (h : ∀ t ∈ ts, t.length ≤ n) : (seenL seen ts).length ≤ seen.length + ts.length * n := by
  induction ts generalizing seen with
  | nil => simp [seenL]
  | cons t ts ih =>
    have h1 := ih (seenA seen t) (fun x hx => h x (List.mem_cons_of_mem _ hx))
    have h2 := seenA_len seen t
    have h3 := h t (by simp)
    show (seenL (seenA seen t) ts).length ≤ _
    simp only [List.length_cons, Nat.add_mul]; omega

/-- One term, the names in block mb. -/
theorem Smooth_one (t : List Int) (seen : List Int) (v : Value) (B mb : Nat) (w : World) (ht : Signs t) (htl : t.length ≤ 1000) (hsl : seen.length ≤ 100000) (hv : IsInts (fun b => ¬ b = mb) w v t)
    (hB : w.cell? ⟨B, 0, none⟩ = some (.map (some mb))) (hBm : B ≠ mb) (hM : MapIs Try.prog 3 w mb (entries seen)) :
    Calls Try.prog 166 #[v, .func (.func 168) #[] #[.pointer (some ⟨B, 0, none⟩)]] w fun e w' => ∃ u, e = .returned u ∧ IsInts (Fr w.heap.size) w' u (smo seen t) ∧ MapIs Try.prog 3 w' mb (entries (seenA seen t)) ∧ Keeps (fun i => i = mb) w w' := by
  have hBl : B < w.heap.size := World.block_lt_of_cell? _ _ hB
  refine (Each_calls t v 168 #[.pointer (some ⟨B, 0, none⟩)] (fun k => [nm (seenA seen (t.take k)) (nth t k)]) (fun i => i = mb)
    (fun k W => MapIs Try.prog 3 W mb (entries (seenA seen (t.take k)))) w (enters_fn Try.func168 (by kernel_rfl) rfl) hv hM (fun b hb => by rw [hb]; exact hM.lt)
    (fun k W W' h hk hz => h.keep (hk.block mb h.lt (by have := hM.lt; omega)))
    (fun k W hk h hK => ?_) (fun k hk => ?_)).mono ?_
  · have hx := ht _ (nth_mem hk)
    refine (Smooth1_calls (seenA seen (t.take k)) B mb (nth t k) W hx.1 hx.2 ?_ ((World.cell?_of_block (w := w) (hK.block B hBl hBm)).trans hB) hBm h).mono ?_
    · have := seenA_len seen (t.take k)
      have : (t.take k).length ≤ 1000 := by simp; omega
      omega
    · rintro e W' ⟨u, rfl, hu, hm, hk'⟩
      exact ⟨u, rfl, hu, by rw [seenA_take hk]; exact hm, hk'⟩
  · rw [joinF_smo _ _ _ hk, smo_length]; simp; omega
  · rintro e W' ⟨u, rfl, hu, hm, hk'⟩
    rw [joinF_smo _ _ _ (Nat.le_refl _), List.take_length] at hu
    rw [List.take_length] at hm
    exact ⟨u, rfl, hu, hm, hk'⟩

theorem smoL_set {n k : Nat} {A : List (List Int)} {x : List Int} (hA : A.length = k) (hk : k < n) : (A ++ List.replicate (n - k) []).set k x = (A ++ [x]) ++ List.replicate (n - (k + 1)) [] := by
  obtain ⟨m, hm⟩ : ∃ m, n - k = m + 1 := ⟨n - k - 1, by omega⟩
  rw [hm, show n - (k + 1) = m by omega, List.replicate_succ, List.set_append_right _ _ (by omega), hA, Nat.sub_self, List.set_cons_zero, List.append_assoc]
  rfl

/-- Behind k terms. -/
def SmRel (w : World) (ls : List (List Int)) (k : Nat) (wr : World) : Prop :=
  OwnRow (w.heap.size + 2) 24 1 TermR (Fr (w.heap.size + 2)) wr (.slice (some ⟨w.heap.size + 2, 0, none⟩) ls.length ls.length) (smoL [] (ls.take k) ++ List.replicate (ls.length - k) []) ∧
  MapIs Try.prog 3 wr w.heap.size (entries (seenL [] (ls.take k))) ∧ wr.cell? ⟨w.heap.size + 1, 0, none⟩ = some (.map (some w.heap.size)) ∧ Below w.heap.size w wr ∧ w.heap.size + 3 ≤ wr.heap.size

set_option maxRecDepth 100000 in
set_option maxHeartbeats 1000000 in
theorem Smooth_calls (ls : List (List Int)) (v : Value) (w : World) (hne : ls ≠ []) (hll : ls.length ≤ 10) (hs : ∀ t ∈ ls, Signs t ∧ t.length ≤ 1000) (hv : IsTerms Any w v ls) :
    Calls Try.prog 105 #[v] w fun e w' => ∃ u, e = .returned u ∧ OwnRow w.heap.size 24 1 TermR (Fr w.heap.size) w' u (smoL [] ls) ∧ Below w.heap.size w w' := by
  obtain ⟨i24, hi, hz, hsz, hby⟩ := info_parts Try.inf24
  obtain ⟨hlen, ⟨rfl, -⟩ | ⟨hne, b, o, c, rfl, -, -, hlt, cs, he, hc⟩⟩ := hv
  · exact absurd rfl hne
  have hT : Hid (∀ j, j < ls.length → ∃ u, w.cell? ⟨b, o + j, none⟩ = some u ∧ IsInts Any w u (nthT ls j)) := fun j hj => terms_cell he hc hj
  have hS := Lib.hid hs
  have hmm := @run_makeMap Try.prog
  clear he hc hne hs
  go_enter Try.func105, Try.ntmps105
  go_wp2_with (at_make; refine make_rows (R := TermR) _ _ 22 rfl rfl (w.heap.size + 2) 24 i24 (.slice none 0 0) Try.underlying22 hi hz rfl hsz .i64 .i64 ls.length rfl rfl ?m1 ?m2 ?m3 (Fr (w.heap.size + 2)) [] (fun _ _ => ⟨_, rfl, .nil _ _⟩) ?_; rotate_left 3; intro w1 hown1 hb1 hlt1)
  case m1 => rw [hby]; omega
  case m2 => omega
  case m3 => simp
  have hst : Hid (SmRel w ls 0 w1) := by
    have hw0 : (w.alloc (.map #[] 0)).heap.size = w.heap.size + 1 := by simp
    have hw1 : ((w.alloc (.map #[] 0)).alloc (.cells #[.map (some w.heap.size)] 178)).heap.size = w.heap.size + 2 := by simp
    have hsame : ∀ j, j < w.heap.size + 2 → w1.heap[j]? = ((w.alloc (.map #[] 0)).alloc (.cells #[.map (some w.heap.size)] 178)).heap[j]? := fun j hj => hb1.block j (by rw [hw1]; exact hj)
    refine ⟨by simpa [Nat.add_assoc, smoL] using hown1, ?_, ?_, ?_, by simp at hlt1; omega⟩
    · refine (MapIs.made Try.prog 3 w).keep ?_
      rw [hsame w.heap.size (by omega), Below.heap_alloc _ _ w.heap.size (by omega)]
    · rw [World.cell?_of_block (w := (w.alloc (.map #[] 0)).alloc (.cells #[.map (some w.heap.size)] 178)) (hsame (w.heap.size + 1) (by omega)), World.cell?_alloc_at _ _ _ _ hw0.symm]; rfl
    · exact ((below_alloc w _).trans ((below_alloc _ _).mono (by omega))).trans (hb1.mono (by omega))
  clear hown1 hb1 hlt1
  go_loopw [13] (fun i wr => ∃ k : Nat, k ≤ ls.length ∧ i = .int .i64 k ∧ Hid (SmRel w ls k wr)) (fun i _ => ls.length - (intOf i).toNat)
  case atStart => exact ⟨0, by omega, rfl, by simpa [Hid] using hst.out⟩
  case round =>
    clear hst
    obtain ⟨k, hk, rfl, hR⟩ := hrel
    by_cases hlt' : k < ls.length
    · obtain ⟨hO, hM, hbox, hB, hsize⟩ := hR.out
      obtain ⟨u, hcu, hu⟩ := hT.out k hlt'
      have hcell : wr.cell? ⟨b, o + k, none⟩ = some u := (hB.cell (p := ⟨b, o + k, none⟩) hlt).trans hcu
      have hkk : k < (smoL [] (ls.take k) ++ List.replicate (ls.length - k) ([] : List Int)).length := by
        rw [List.length_append, smoL_len, List.length_replicate, List.length_take]; omega
      have hcall := Lib.hid (Smooth_one (nthT ls k) (seenL [] (ls.take k)) u (w.heap.size + 1) w.heap.size wr (hS.out _ (nthT_mem hlt')).1 (hS.out _ (nthT_mem hlt')).2
        (by
          have := seenL_len [] (ls.take k) 1000 (fun t ht => (hS.out t (List.mem_of_mem_take ht)).2)
          have h2 : (ls.take k).length ≤ 10 := by simp; omega
          simp only [List.length_nil] at this; omega)
        (hu.mono ⟨hB.size, fun b _ hb => ⟨by omega, hB.block b hb⟩⟩) hbox (by omega) hM)
      have hO' := Lib.hid hO
      have hB' := Lib.hid hB
      have hbx := Lib.hid hbox
      have hkk' := Lib.hid hkk
      clear hO hM hbox hB hcu hu hkk
      go_wp2_with (first
        | (go_at_call 166; refine hcall.out.mono ?_; rintro e w2 ⟨x, rfl, hx, hm2, hk2⟩; obtain ⟨ax, cx, rfl⟩ := hx.isSlice)
        | ((with_reducible show wpList _ _ _ (Oper.mk none (Op.store _ _ _) _ _ _ _ :: _) _ _);
           refine store_rows TermR.ok _ _ 24 rfl rfl rfl i24 hi hsz (w.heap.size + 2) 24 (Fr (w.heap.size + 2)) (w.heap.size + 2) k ls.length ls.length _ rfl (OwnRow.mono TermR.ok hO'.out ?s1 ?s2) hkk'.out (smo (seenL [] (ls.take k)) (nthT ls k)) ?s3 rfl ?_; rotate_left 3; intro w3 hown3 hg3 hz3))
      case s1 => exact hk2.sok fun b _ hb => by have : w.heap.size + 2 ≤ b := hb; omega
      case s2 => intro j hj; simp [Value.ownBlock] at hj; exact hk2.block j (by omega) (by omega)
      case s3 => exact ⟨_, rfl, hx.mono (.weak fun b hb => by have : wr.heap.size ≤ b := hb; exact ⟨by show w.heap.size + 2 ≤ b; omega, by omega⟩)⟩
      go_roundw
      case rel =>
        have hz2 := hk2.size
        refine ⟨k + 1, by omega, by go_num, ?_, ?_, ?_, ?_, by omega⟩
        · rw [smoL_set (by rw [smoL_len, List.length_take]; omega) hlt', smoL_take hlt'] at hown3
          exact hown3
        · rw [← seenL_take hlt']
          exact hm2.keep (hg3.block _ hm2.lt (by simp))
        · exact (World.cell?_of_block (w := w2) (hg3.block (w.heap.size + 1) (by omega) (by simp))).trans ((World.cell?_of_block (w := wr) (hk2.block (w.heap.size + 1) (by omega) (by omega))).trans hbx.out)
        · exact hB'.out.trans (Below.trans ⟨hk2.os, hk2.tape, hk2.output, hk2.size, fun i hi => hk2.block i (by have := hB'.out.size; omega) (by omega)⟩ ⟨hg3.os, hg3.tape, hg3.output, hg3.size, fun i hi => hg3.block i (by have := hB'.out.size; omega) (by simp; omega)⟩)
      case measure => simp [intOf]; omega
    · have : k = ls.length := by omega
      subst this
      go_wp2_with fail
      go_ret
      obtain ⟨hO, hM, hbox, hB, hsize⟩ := hR.out
      refine ⟨_, rfl, ?_, hB⟩
      rw [List.take_length, Nat.sub_self] at hO
      obtain ⟨cs, he, h1, h2⟩ := hO
      refine ⟨cs, by simpa using he.mono TermR.ok (.weak fun b hb => ⟨by have : w.heap.size + 2 ≤ b := hb.1; show w.heap.size ≤ b; omega, hb.2⟩), by simpa using h1, ?_⟩
      rcases h2 with ⟨h, _⟩ | ⟨g, cap, cur, hv, hb, hr⟩
      · simp at h
      · exact .inr ⟨g, cap, cur, by simpa using hv, by omega, by simpa using hr⟩

end Go.Proofs.Ytepddehodmljeaa

namespace Go.Proofs.Ytepddehodmljeaa
open Go.RowKit Go.Maps

/-- Plain's error, and what comes. -/
def plT (t : List Int) : List Int := if chk t = 0 then smo [] t else []

set_option maxRecDepth 100000 in
theorem Plain_calls (t : List Int) (v : Value) (w : World) (hv : IsInts Any w v t) :
    Calls Try.prog 41 #[v] w fun e w' => ∃ x, e = .returned (.tuple #[x, .int .i64 (chk t)]) ∧ IsInts (Fr w.heap.size) w' x (plT t) ∧ Below w.heap.size w w' := by
  have h1 := Lib.hid (Check_calls t v w hv)
  obtain ⟨a, c, rfl⟩ := hv.isSlice
  by_cases h : chk t = 0
  · have hr : Hid (plT t = smo [] t) := by rw [Hid, plT, if_pos h]
    have hls : IsTerms Any (w.alloc (.cells #[.slice a t.length c] 24)) (.slice (some ⟨w.heap.size, 0, none⟩) 1 1) [t] :=
      ⟨by simp, .inr ⟨by simp, w.heap.size, 0, 1, rfl, by simp, trivial, by simp, [.slice a t.length c], ⟨_, [], rfl, rfl, ⟨_, rfl, hv.below (below_alloc _ _)⟩, rfl⟩, fun j u hj => by
        rw [Nat.zero_add, World.cell?_alloc_at _ _ _ _ rfl]; simpa using hj⟩⟩
    have hS := Lib.hid (Smooth_calls [t] _ (w.alloc (.cells #[.slice a t.length c] 24)) (by simp) (by simp) (fun x hx => by simp at hx; subst hx; exact ⟨signs_of_chk h, by have := len_of_chk h; omega⟩) hls)
    have hh := Lib.hid h
    clear hv hls
    go_enter Try.func41, Try.ntmps41
    go_wp2_with fail
    refine h1.out.mono ?_
    rintro e w' ⟨rfl, rfl⟩
    go_wp2_with fail
    refine hS.out.mono ?_
    rintro e w1 ⟨u, rfl, hO, hB⟩
    obtain ⟨g, c2, cur, rfl, hg, hgg, hcc⟩ := hO.at (by simp [smoL])
    obtain ⟨⟨x, hcx, hxr⟩, -⟩ := hO.cell (k := 0) (by simp [smoL])
    have hb2 := (below_alloc w (.cells #[.slice a t.length c] 24)).trans (hB.mono (by simp))
    have hX : Hid (IsInts (Fr w.heap.size) w1 x (smo [] t)) := by
      obtain ⟨x', e, hx'⟩ := hxr
      cases e
      exact hx'.mono (.weak fun b hb => by have : (w.alloc (.cells #[.slice a t.length c] 24)).heap.size ≤ b := hb.1; simp at this; show w.heap.size ≤ b; omega)
    have hB2 := Lib.hid hb2
    have hcx' : w1.cell? ⟨g, 0, none⟩ = some x := hcx
    clear hO hB hg hgg hcc hxr hb2 hcx h1 hS
    simp only [smoL, List.length_cons, List.length_nil]
    go_wp2_with fail
    go_ret2
    exact ⟨_, by rw [hh.out]; rfl, by rw [hr.out]; exact hX.out, hB2.out⟩
  · have hr : Hid (plT t = []) := by rw [Hid, plT, if_neg h]
    have h' : (chk t != 0) = true := by simpa using h
    clear hv h
    go_enter Try.func41, Try.ntmps41
    go_wp2_with fail
    refine h1.out.mono ?_
    rintro e w' ⟨rfl, rfl⟩
    clear h1
    go_wp2_with fail
    go_ret2
    exact ⟨_, rfl, by rw [hr.out]; exact .nil _ _, .refl _ _⟩

theorem smo_set {t : List Int} {k : Nat} (hk : k < t.length) : (smo [] (t.take k) ++ t.drop k).set k (nm (seenA [] (t.take k)) (nth t k)) = smo [] (t.take (k + 1)) ++ t.drop (k + 1) := by
  have hl : (smo [] (t.take k)).length = k := by rw [smo_length, List.length_take]; omega
  rw [List.set_append_right _ _ (by omega), hl, Nat.sub_self, drop_nth hk, List.set_cons_zero, take_nth hk, smo_append]
  simp [smo]
theorem smo_keep {t : List Int} {k : Nat} (hk : k < t.length) (h : 0 ≤ nth t k) : smo [] (t.take k) ++ t.drop k = smo [] (t.take (k + 1)) ++ t.drop (k + 1) := by
  rw [← smo_set hk]
  have hl : (smo [] (t.take k)).length = k := by rw [smo_length, List.length_take]; omega
  rw [List.set_append_right _ _ (by omega), hl, Nat.sub_self, drop_nth hk, List.set_cons_zero, nm, if_pos h]

/-- Where the sign was seen, of the first i that were. -/
def atI (seen : List Int) (n : Int) (i : Nat) : Int := if seen.idxOf n < i ∧ n ∈ seen then seen.idxOf n else -1

theorem ownsRow_at {w : World} {base : Nat} {e : TypeId} {size : Nat} {v : Value} {n : Nat} {xs : List Value} (h : w.ownsRow base e size v n xs) (hn : 0 < n) :
    ∃ G C, v = .slice (some ⟨G, 0, none⟩) n C ∧ base ≤ G ∧ G < w.heap.size := by
  rcases h.2 with ⟨_, h⟩ | ⟨g, cap, cur, h1, h2, h3, h4⟩
  · omega
  · exact ⟨g, cap, h1, h2, lt_of_block h3⟩

/-- Behind k signs: what has been seen, and the signs. -/
def PlRel (w : World) (t : List Int) (G C B : Nat) (k : Nat) (sv : Value) (wr : World) : Prop :=
  wr.ownsRow w.heap.size 3 1 (.slice (some ⟨G, 0, none⟩) t.length C) (smo [] (t.take k) ++ t.drop k).length ((smo [] (t.take k) ++ t.drop k).map (Value.int .i64)) ∧
  wr.ownsRow B 3 1 sv (seenA [] (t.take k)).length ((seenA [] (t.take k)).map (Value.int .i64)) ∧ Below w.heap.size w wr ∧ G < B ∧ B ≤ wr.heap.size

theorem PlRel.drewN {w : World} {t : List Int} {G C B k : Nat} {sv : Value} {wr : World} (h : PlRel w t G C B k sv wr) (m : Nat) : PlRel w t G C B k sv (wr.drewN m) :=
  ⟨h.1, h.2.1, h.2.2.1.trans (below_drewN _ _ _), h.2.2.2⟩

theorem PlRel.found {w : World} {t : List Int} {G C B k : Nat} {sv : Value} {wr w3 : World} (h : PlRel w t G C B k sv wr) (hG : w.heap.size ≤ G) (hk : k < t.length) (hn : nth t k < 0) (hin : nth t k ∈ seenA [] (t.take k))
    (ho : w3.ownsRow w.heap.size 3 1 (.slice (some ⟨G, 0, none⟩) t.length C) ((smo [] (t.take k) ++ t.drop k).set k (-1 - ((seenA [] (t.take k)).idxOf (nth t k) : Int))).length (((smo [] (t.take k) ++ t.drop k).set k (-1 - ((seenA [] (t.take k)).idxOf (nth t k) : Int))).map (Value.int .i64)))
    (hg : wr.grownBy w3 (some G)) : PlRel w t G C B (k + 1) sv w3 := by
  obtain ⟨r1, r2, r3, r4, r5⟩ := h
  have e1 : seenA [] (t.take (k + 1)) = seenA [] (t.take k) := by rw [seenA_take hk, adds, if_pos (.inr hin)]
  have e2 : nm (seenA [] (t.take k)) (nth t k) = -1 - ((seenA [] (t.take k)).idxOf (nth t k) : Int) := by rw [nm, if_neg (by omega), adds, if_pos (.inr hin)]
  rw [← e2, smo_set hk] at ho
  refine ⟨ho, by rw [e1]; exact ownsRow_keep r2 fun j hj => hg.block j (r2.lt j hj).2 (by have := (r2.lt j hj).1; simp; omega), r3.trans (below_of_grown hg r3.size fun j hj => by cases hj; exact hG), r4, Nat.le_trans r5 hg.size⟩

theorem PlRel.new {w : World} {t : List Int} {G C B k : Nat} {sv sv' : Value} {wr w2 w3 : World} {ob : Obj} (h : PlRel w t G C B k sv wr) (hG : w.heap.size ≤ G) (hk : k < t.length) (hn : nth t k < 0) (hin : nth t k ∉ seenA [] (t.take k))
    (hs : w2.ownsRow B 3 1 sv' (seenA [] (t.take k) ++ [nth t k]).length ((seenA [] (t.take k) ++ [nth t k]).map (Value.int .i64))) (hg2 : (wr.alloc ob).grownBy w2 sv.ownBlock)
    (ho : w3.ownsRow w.heap.size 3 1 (.slice (some ⟨G, 0, none⟩) t.length C) ((smo [] (t.take k) ++ t.drop k).set k (-1 - ((seenA [] (t.take k)).length : Int))).length (((smo [] (t.take k) ++ t.drop k).set k (-1 - ((seenA [] (t.take k)).length : Int))).map (Value.int .i64)))
    (hg : w2.grownBy w3 (some G)) : PlRel w t G C B (k + 1) sv' w3 := by
  obtain ⟨r1, r2, r3, r4, r5⟩ := h
  have e0 : adds (seenA [] (t.take k)) (nth t k) = seenA [] (t.take k) ++ [nth t k] := by rw [adds, if_neg (by rintro (h | h); omega; exact hin h)]
  have e1 : seenA [] (t.take (k + 1)) = seenA [] (t.take k) ++ [nth t k] := by rw [seenA_take hk, e0]
  have e2 : nm (seenA [] (t.take k)) (nth t k) = -1 - ((seenA [] (t.take k)).length : Int) := by rw [nm, if_neg (by omega), e0, idxOf_new hin]
  rw [← e2, smo_set hk] at ho
  have hz : wr.heap.size + 1 ≤ w2.heap.size := by have := hg2.size; simpa using this
  refine ⟨ho, by rw [e1]; exact ownsRow_keep hs fun j hj => hg.block j (hs.lt j hj).2 (by have := (hs.lt j hj).1; simp; omega), ?_, r4, by have := hg.size; omega⟩
  exact ((r3.alloc r3.size ob).trans (below_of_grown hg2 (by have := r3.size; simp; omega) fun j hj => by have := (r2.lt j hj).1; omega)).trans (below_of_grown hg (by have := r3.size; omega) fun j hj => by cases hj; exact hG)

set_option maxRecDepth 100000 in
set_option maxHeartbeats 2000000 in
theorem plain_calls (t : List Int) (v : Value) (w : World) (ht : Signs t) (hne : t ≠ []) (htl : t.length ≤ 1000) (hv : IsInts Any w v t) :
    Calls Try.prog 106 #[v] w fun e w' => ∃ x, e = .returned x ∧ IsInts (Fr w.heap.size) w' x (smo [] t) ∧ Below w.heap.size w w' := by
  obtain ⟨i3, hi, hz, hsz, hby⟩ := info_parts Try.inf3
  have hv0 := Lib.hid hv
  obtain ⟨hlen, ⟨rfl, -⟩ | ⟨-, b, o, c, rfl, -, -, hlt, hc⟩⟩ := hv
  · exact absurd rfl hne
  have hC := Lib.hid hc
  have hS := Lib.hid ht
  clear hc ht
  have hO0 : Hid ((w.alloc (.cells #[] 3)).ownsRow w.heap.size 3 1 (.slice (some ⟨w.heap.size, 0, none⟩) 0 0) ([] : List Int).length (([] : List Int).map (Value.int .i64))) := World.ownsRow_made w #[] 0 (Nat.le_refl _) (by simp [maxLen]) (by simp)
  have hI0 : Hid (IsInts Any (w.alloc (.cells #[] 3)) (.slice (some ⟨b, o, none⟩) t.length c) t) := hv0.out.below (below_alloc _ _)
  go_enter Try.func106, Try.ntmps106
  have tok1 : True := trivial
  go_wp2_with (at_builtin; have _t := tok1; refine app_ints _ _ 24 rfl rfl w.heap.size i3 Try.underlying24 hi hz hsz hby hO0.out hI0.out ?c1 ?c2 ?c3; rotate_left 2; intro v' w1 hown1 hb1 hg1 _; clear tok1; rw [List.nil_append] at hown1; obtain ⟨G, C, rfl, hG1, hG2⟩ := ownsRow_at hown1 (List.length_pos_iff.2 hne))
  case c1 => simp; omega
  case c2 => simp
  have hst : Hid (PlRel w t G C w1.heap.size 0 (.slice none 0 0) w1) :=
    ⟨by simpa [smo] using hown1, World.ownsRow_nil _ _ _ _, ((below_alloc w _).trans (hb1.mono (Nat.le_refl _))), hG2, Nat.le_refl _⟩
  clear hown1 hb1 hg1
  go_loopw [3, 5] (fun sv i wr => ∃ k : Nat, k ≤ t.length ∧ i = .int .i64 k ∧ Hid (PlRel w t G C w1.heap.size k sv wr)) (fun _ i _ => t.length - (intOf i).toNat)
  case atStart => exact ⟨0, by omega, rfl, hst.out⟩
  case round =>
    clear hst
    obtain ⟨k, hk, rfl, hR⟩ := hrel
    by_cases hlt' : k < t.length
    · have hcell : wr.cell? ⟨b, o + k, none⟩ = some (.int .i64 (nth t k)) := (hR.out.2.2.1.cell (p := ⟨b, o + k, none⟩) hlt).trans (hC.out k hlt')
      by_cases h0 : 0 ≤ nth t k
      · go_wp2_with fail
        go_roundw
        case rel =>
          refine ⟨k + 1, by omega, by go_num, ?_⟩
          obtain ⟨r1, r2, r3⟩ := hR.out
          have e1 : seenA [] (t.take (k + 1)) = seenA [] (t.take k) := by rw [seenA_take hlt', adds, if_pos (.inl h0)]
          refine ⟨by rw [← smo_keep hlt' h0]; exact r1, by rw [e1]; exact r2, r3⟩
        case measure => simp [intOf]; omega
      · have hneg : nth t k < 0 := by omega
        obtain ⟨hn1, hn2⟩ := hS.out _ (nth_mem hlt')
        have hSl : (seenA [] (t.take k)).length ≤ 1000 := by
          have h1 := seenA_len [] (t.take k)
          have h2 : (t.take k).length ≤ 1000 := by simp; omega
          simp only [List.length_nil] at h1; omega
        have hSnd := Lib.hid (seenA_nodup (seen := []) (by simp) (t.take k))
        have hsizes := hR.out.2.2.2.2
        clear h0
        by_cases hse : seenA [] (t.take k) = []
        · have hin : Hid (nth t k ∉ seenA [] (t.take k)) := by rw [Hid, hse]; simp
          obtain ⟨a0, c0, hsv⟩ := (ints_of_own hR.out.2.1 (by omega)).isSlice
          rw [hse] at hsv
          have hR2 := hR
          have hX := Lib.hid (ints_one wr (nth t k) 3).any
          have hsel := Lib.hid hse
          have hl0 : (seenA [] (t.take k)).length = 0 := by rw [hse]; rfl
          clear hse
          obtain rfl := hsv
          simp only [List.length_nil]
          go_wp2_with fail
          refine wp_loop_rounds 1 ?_
          rw [rounds_succ]
          go_wp2_with (first
            | (at_builtin; refine app_ints _ _ 23 rfl rfl w1.heap.size i3 Try.underlying23 hi hz hsz hby (hR2.out.2.1.alloc _) hX.out ?x1 ?x2 ?x3; rotate_left 2; intro sv' w2 hown2 hb2 hg2 _)
            | ((with_reducible show wpList _ _ _ (Oper.mk none (Op.store _ _ _) _ _ _ _ :: _) _ _); refine store_ints _ _ rfl rfl rfl i3 hi hsz w.heap.size G k t.length C (smo [] (t.take k) ++ t.drop k) ?x4 rfl (ownsRow_keep hR2.out.1 ?x5) ?x6 (-1) rfl ?x7; rotate_left 3; intro w3 hown3 hg3 hz3))
          case x1 => simp only [List.length_cons, List.length_nil]; omega
          case x2 => have := hR2.out.2.2.2.2; simp; omega
          case x4 => rw [List.length_append, smo_length, List.length_take, List.length_drop]; omega
          case x5 =>
            intro j hj
            simp only [Value.ownBlock, Option.some.injEq] at hj
            subst hj
            have r5 := hR2.out.2.2.2.2
            rw [hg2.block _ (by simp; omega) (fun e => by have := (hR2.out.2.1.lt _ e.symm).1; have := hR2.out.2.2.2.1; omega), Below.heap_alloc _ _ _ (by omega)]
          case x6 => rw [List.length_append, smo_length, List.length_take, List.length_drop]; omega
          go_roundw
          case rel => exact ⟨k + 1, by omega, by go_num, hR2.out.new hG1 hlt' hneg hin.out hown2 hg2 (by have h := hown3; rw [hl0]; simpa using h) hg3⟩
          case measure => simp [intOf]; omega
        · obtain ⟨wo, rfl⟩ : ∃ wo : World, wo = wr := ⟨_, rfl⟩
          obtain ⟨g, c0, rfl, hg1, hg2⟩ := ownsRow_at hR.out.2.1 (List.length_pos_iff.2 hse)
          have hcs : Hid (∀ j, j < (seenA [] (t.take k)).length → wo.cell? ⟨g, j, none⟩ = some (.int .i64 (nth (seenA [] (t.take k)) j))) := fun j hj => by
            rw [hR.out.2.1.cellAt j (by omega), List.getElem?_map, List.getElem?_eq_getElem hj, nth_eq hj]; rfl
          clear hse
          go_wp2_with fail
          go_loopw [6, 7] (fun at_ i wx => ∃ j : Nat, j ≤ (seenA [] (t.take k)).length ∧ i = .int .i64 j ∧ at_ = .int .i64 (atI (seenA [] (t.take k)) (nth t k) j) ∧ Hid (∃ m, wx = wo.drewN m)) (fun _ i _ => (seenA [] (t.take k)).length - (intOf i).toNat)
          case atStart => exact ⟨0, by omega, rfl, by simp [atI], 0, rfl⟩
          case round =>
            obtain ⟨j, hj, rfl, rfl, hW⟩ := hrel
            have hcx : wr.cell? ⟨b, o + k, none⟩ = some (.int .i64 (nth t k)) := by obtain ⟨m, rfl⟩ := hW.out; exact hcell
            have hR2 : Hid (PlRel w t G C w1.heap.size k (.slice (some ⟨g, 0, none⟩) (seenA [] (t.take k)).length c0) wr) := by obtain ⟨m, rfl⟩ := hW.out; exact hR.out.drewN m
            have hsx : wo.heap.size ≤ wr.heap.size := by obtain ⟨m, rfl⟩ := hW.out; exact Nat.le_refl _
            by_cases hjl : j < (seenA [] (t.take k)).length
            · have hc3 : wr.cell? ⟨g, j, none⟩ = some (.int .i64 (nth (seenA [] (t.take k)) j)) := by obtain ⟨m, rfl⟩ := hW.out; exact hcs.out j hjl
              have hij : (j : Int) < (seenA [] (t.take k)).length := by omega
              have hik : (k : Int) < t.length := by omega
              have hidx : Hid (nth (seenA [] (t.take k)) j = nth t k ↔ (seenA [] (t.take k)).idxOf (nth t k) = j ∧ nth t k ∈ seenA [] (t.take k)) := by
                constructor
                · intro e
                  have hm : nth t k ∈ seenA [] (t.take k) := by rw [← e]; exact nth_mem hjl
                  refine ⟨?_, hm⟩
                  have hil := List.idxOf_lt_length_of_mem hm
                  have h1 : (seenA [] (t.take k))[(seenA [] (t.take k)).idxOf (nth t k)] = nth t k := List.getElem_idxOf hil
                  rw [nth_eq hjl] at e
                  rcases Nat.lt_trichotomy ((seenA [] (t.take k)).idxOf (nth t k)) j with hlt | h | hlt
                  · exact absurd (h1.trans e.symm) ((List.pairwise_iff_getElem.1 hSnd.out) _ _ hil hjl hlt)
                  · exact h
                  · exact absurd (e.trans h1.symm) ((List.pairwise_iff_getElem.1 hSnd.out) _ _ hjl hil hlt)
                · rintro ⟨e, hm⟩
                  have hil := List.idxOf_lt_length_of_mem hm
                  rw [nth_eq hjl]
                  have h1 : (seenA [] (t.take k))[(seenA [] (t.take k)).idxOf (nth t k)] = nth t k := List.getElem_idxOf hil
                  simpa [e] using h1
              cases heq : (nth (seenA [] (t.take k)) j == nth t k)
              · have hat : Hid (atI (seenA [] (t.take k)) (nth t k) (j + 1) = atI (seenA [] (t.take k)) (nth t k) j) := by
                  have hne2 : ¬ nth (seenA [] (t.take k)) j = nth t k := by simpa using heq
                  have := mt hidx.out.2 hne2
                  unfold Hid atI
                  by_cases hm : nth t k ∈ seenA [] (t.take k)
                  · have : (seenA [] (t.take k)).idxOf (nth t k) ≠ j := fun e => this ⟨e, hm⟩
                    by_cases h1 : (seenA [] (t.take k)).idxOf (nth t k) < j
                    · rw [if_pos ⟨by omega, hm⟩, if_pos ⟨h1, hm⟩]
                    · rw [if_neg (by rintro ⟨h, _⟩; omega), if_neg (by rintro ⟨h, _⟩; omega)]
                  · rw [if_neg (by rintro ⟨_, h⟩; exact hm h), if_neg (by rintro ⟨_, h⟩; exact hm h)]
                go_wp2_with fail
                go_quiet (fail)
                go_wp2_with fail
                go_roundw
                case rel => exact ⟨j + 1, by omega, by go_num, by rw [hat.out], by obtain ⟨m, rfl⟩ := hW.out; exact ⟨_, drewN_add _ _ _⟩⟩
                case measure => simp [intOf]; omega
              · have hat : Hid (atI (seenA [] (t.take k)) (nth t k) (j + 1) = j) := by
                  obtain ⟨e, hm⟩ := hidx.out.1 (by simpa using heq)
                  unfold Hid atI
                  rw [if_pos ⟨by omega, hm⟩, e]
                go_wp2_with fail
                go_quiet (fail)
                go_wp2_with fail
                go_roundw
                case rel => exact ⟨j + 1, by omega, by go_num, by rw [hat.out], by obtain ⟨m, rfl⟩ := hW.out; exact ⟨_, drewN_add _ _ _⟩⟩
                case measure => simp [intOf]; omega
            · have : j = (seenA [] (t.take k)).length := by omega
              subst this
              by_cases hin : nth t k ∈ seenA [] (t.take k)
              · have hil := List.idxOf_lt_length_of_mem hin
                have hat : atI (seenA [] (t.take k)) (nth t k) (seenA [] (t.take k)).length = ((seenA [] (t.take k)).idxOf (nth t k) : Int) := by
                  unfold atI; rw [if_pos ⟨hil, hin⟩]
                have hin := Lib.hid hin
                go_wp2_with ((with_reducible show wpList _ _ _ (Oper.mk none (Op.store _ _ _) _ _ _ _ :: _) _ _); refine store_ints _ _ rfl rfl rfl i3 hi hsz w.heap.size G k t.length C (smo [] (t.take k) ++ t.drop k) ?z4 rfl hR2.out.1 ?z6 (-1 - ((seenA [] (t.take k)).idxOf (nth t k) : Int)) rfl ?z7; rotate_left 2; intro w3 hown3 hg3 hz3)
                case z4 => rw [List.length_append, smo_length, List.length_take, List.length_drop]; omega
                case z6 => rw [List.length_append, smo_length, List.length_take, List.length_drop]; omega
                go_roundw
                case rel => exact ⟨k + 1, by omega, by go_num, hR2.out.found hG1 hlt' hneg hin.out hown3 hg3⟩
                case measure => simp [intOf]; omega
              · have hat : atI (seenA [] (t.take k)) (nth t k) (seenA [] (t.take k)).length = -1 := by
                  unfold atI; rw [if_neg (by rintro ⟨_, h⟩; exact hin h)]
                have hin := Lib.hid hin
                have hX := Lib.hid (ints_one wr (nth t k) 3).any
                go_wp2_with (first
                  | (at_builtin; refine app_ints _ _ 23 rfl rfl w1.heap.size i3 Try.underlying23 hi hz hsz hby (hR2.out.2.1.alloc _) hX.out ?y1 ?y2 ?y3; rotate_left 2; intro sv' w2 hown2 hb2 hg2 _)
                  | ((with_reducible show wpList _ _ _ (Oper.mk none (Op.store _ _ _) _ _ _ _ :: _) _ _); refine store_ints _ _ rfl rfl rfl i3 hi hsz w.heap.size G k t.length C (smo [] (t.take k) ++ t.drop k) ?y4 rfl (ownsRow_keep hR2.out.1 ?y5) ?y6 (-1 - ((seenA [] (t.take k)).length : Int)) rfl ?y7; rotate_left 3; intro w3 hown3 hg3 hz3))
                case y1 => simp only [List.length_cons, List.length_nil]; omega
                case y2 => have := hR2.out.2.2.2.2; simp; omega
                case y4 => rw [List.length_append, smo_length, List.length_take, List.length_drop]; omega
                case y5 =>
                  intro j hj
                  simp only [Value.ownBlock, Option.some.injEq] at hj
                  subst hj
                  have r5 := hR2.out.2.2.2.2
                  rw [hg2.block _ (by simp; omega) (fun e => by have := (hR2.out.2.1.lt _ e.symm).1; have := hR2.out.2.2.2.1; omega), Below.heap_alloc _ _ _ (by omega)]
                case y6 => rw [List.length_append, smo_length, List.length_take, List.length_drop]; omega
                go_roundw
                case rel => exact ⟨k + 1, by omega, by go_num, hR2.out.new hG1 hlt' hneg hin.out hown2 hg2 hown3 hg3⟩
                case measure => simp [intOf]; omega
    · have : k = t.length := by omega
      subst this
      go_wp2_with fail
      go_ret
      obtain ⟨r1, r2, r3, _⟩ := hR.out
      refine ⟨_, rfl, ?_, r3⟩
      have := ints_of_own r1 (by simp [smo_length]; omega)
      simpa using this

theorem PlainOf_calls (t : List Int) (v : Value) (w : World) (hv : IsInts Any w v t) :
    Calls Try.prog 43 #[v] w fun e w' => ∃ x, e = .returned (.tuple #[x, .int .i64 (chk t)]) ∧ IsInts (Fr w.heap.size) w' x (plT t) ∧ Below w.heap.size w w' := by
  have h1 := Lib.hid (TermError_calls t v w hv)
  obtain ⟨a, c, rfl⟩ := hv.isSlice
  by_cases h : chk t = 0
  · have hr : Hid (plT t = smo [] t) := by rw [Hid, plT, if_pos h]
    have hS := Lib.hid (plain_calls t _ w (signs_of_chk h) (ne_of_chk h) (by have := len_of_chk h; omega) hv)
    have hh := Lib.hid h
    clear hv
    go_enter Try.func43, Try.ntmps43
    go_wp2_with fail
    refine h1.out.mono ?_
    rintro e w' ⟨rfl, rfl⟩
    go_wp2_with fail
    refine hS.out.mono ?_
    rintro e w1 ⟨u, rfl, hX, hB⟩
    go_wp2_with fail
    go_ret2
    exact ⟨_, by rw [hh.out]; rfl, by rw [hr.out]; exact hX, hB⟩
  · have hr : Hid (plT t = []) := by rw [Hid, plT, if_neg h]
    have h' : (chk t != 0) = true := by simpa using h
    clear hv h
    go_enter Try.func43, Try.ntmps43
    go_wp2_with fail
    refine h1.out.mono ?_
    rintro e w' ⟨rfl, rfl⟩
    clear h1
    go_wp2_with fail
    go_ret2
    exact ⟨_, rfl, by rw [hr.out]; exact .nil _ _, .refl _ _⟩

end Go.Proofs.Ytepddehodmljeaa

namespace Go.Proofs.Ytepddehodmljeaa
open Go.RowKit Go.Maps

theorem ext_trans {a b c : World} (h : Below a.heap.size a b) (k : Below b.heap.size b c) : Below a.heap.size a c := h.trans (k.mono h.size)
theorem ext_alloc {a b : World} (h : Below a.heap.size a b) (o : Obj) : Below a.heap.size a (b.alloc o) := ext_trans h (below_alloc _ _)

theorem SameTerms_eq (t : List Int) (u v : Value) (w : World) (hu : IsInts Any w u t) (hv : IsInts Any w v t) :
    Calls Try.prog 39 #[u, v] w fun e w' => e = .returned (.bool true) ∧ Below w.heap.size w w' :=
  (SameTerms_calls t t u v w hu hv).mono fun e w' ⟨h, n, hn⟩ => ⟨by rw [h, decide_eq_true rfl], by rw [hn]; exact below_drewN _ _ _⟩
theorem SameSubs_eq (t : List (List Int)) (u v : Value) (w : World) (hu : IsTerms Any w u t) (hv : IsTerms Any w v t) :
    Calls Try.prog 44 #[u, v] w fun e w' => e = .returned (.bool true) ∧ Below w.heap.size w w' :=
  (SameSubs_calls t t u v w hu hv).mono fun e w' ⟨h, n, hn⟩ => ⟨by rw [h, decide_eq_true rfl], by rw [hn]; exact below_drewN _ _ _⟩

/-- f(x,g(a)). -/
def fxgaT : List Int := [4, -1, 2, 0]
theorem fxga_calls (w : World) : Calls Try.prog 103 #[] w fun e w' => ∃ x, e = .returned x ∧ IsInts (Fr w.heap.size) w' x fxgaT ∧ Below w.heap.size w w' := by
  go_enter Try.func103, Try.ntmps103
  go_wp2
  go_ret
  exact ⟨_, rfl, ints_lit w w.heap.size fxgaT 3 (Nat.le_refl _) (by decide), below_alloc _ _⟩

theorem OwnRow.terms {base : Nat} {w : World} {v : Value} {ts : List (List Int)} (h : OwnRow base 24 1 TermR (Fr base) w v ts) (hl : ts.length ≤ 1000000) : IsTerms (Fr base) w v ts :=
  h.isRow TermR.ok (fun _ h => h) (fun _ h => h) (by omega)
theorem IsRow.any {α : Type} {sz : Nat} {R : Rep α} (hR : R.Ok) {S : Blk} {w : World} {v : Value} {xs : List α} (h : IsRow sz R S w v xs) : IsRow sz R Any w v xs := h.mono hR .toAny

/-- x becomes g(y), y becomes x. -/
def someS : List (List Int) := [[2, -2], [-1], [-3], [-4], [-5], [-6], [-7], [-8]]

set_option maxRecDepth 100000 in
theorem some_calls (w : World) : Calls Try.prog 102 #[] w fun e w' => ∃ x, e = .returned x ∧ IsTerms (Fr w.heap.size) w' x someS ∧ Below w.heap.size w w' := by
  obtain ⟨i24, hi, hz, hsz, hby⟩ := info_parts Try.inf24
  go_enter Try.func102, Try.ntmps102
  go_wp2_with fail
  refine (NoneOf_calls w).mono ?_
  rintro e w1 ⟨v, rfl, hO, hB⟩
  obtain ⟨g, c, cur, rfl, hg, hgg, hcc⟩ := hO.at (by simp [noneS])
  have hgl := lt_of_block hgg
  have hO1 := Lib.hid ((hO.below TermR.ok (below_alloc w1 (.cells #[.int .i64 2, .int .i64 (-2)] 3))).below TermR.ok (below_alloc _ (.cells #[.int .i64 (-1)] 3)))
  have hs := hB.size
  have hA : Hid (TermR (Both' (Fr w.heap.size) fun b => b ≠ g) ((w1.alloc (.cells #[.int .i64 2, .int .i64 (-2)] 3)).alloc (.cells #[.int .i64 (-1)] 3)) [.slice (some ⟨w1.heap.size, 0, none⟩) 2 2] [2, -2]) :=
    ⟨_, rfl, ((ints_lit w1 w1.heap.size [2, -2] 3 (Nat.le_refl _) (by decide)).below (below_alloc _ _)).mono (.weak fun b hb => by have : w1.heap.size ≤ b := hb; exact ⟨by show w.heap.size ≤ b; omega, by omega⟩)⟩
  have hA2 : Hid (TermR (Both' (Fr w.heap.size) fun b => b ≠ g) ((w1.alloc (.cells #[.int .i64 2, .int .i64 (-2)] 3)).alloc (.cells #[.int .i64 (-1)] 3)) [.slice (some ⟨w1.heap.size + 1, 0, none⟩) 1 1] [-1]) := by
    refine ⟨_, rfl, ?_⟩
    have h := ints_one (w1.alloc (.cells #[.int .i64 2, .int .i64 (-2)] 3)) (-1) 3
    rw [World.size_alloc] at h
    exact h.mono (.weak fun b hb => by have : w1.heap.size + 1 ≤ b := hb; exact ⟨by show w.heap.size ≤ b; omega, by omega⟩)
  have hB' := Lib.hid (ext_alloc (ext_alloc hB (.cells #[.int .i64 2, .int .i64 (-2)] 3)) (.cells #[.int .i64 (-1)] 3))
  clear hO hgg hB
  simp only [noneS, List.length_cons, List.length_nil] at *
  have tok1 : True := trivial
  go_wp2_with (first
    | ((with_reducible show wpList _ _ _ (Oper.mk none (Op.store _ _ _) _ _ _ _ :: _) _ _); have _t := tok1; refine store_rows TermR.ok _ _ 24 rfl rfl rfl i24 hi hsz w.heap.size 24 (Fr w.heap.size) g 0 8 c _ rfl hO1.out (by decide) [2, -2] hA.out rfl ?_; intro w2 hown2 hg2 hz2; clear tok1)
    | ((with_reducible show wpList _ _ _ (Oper.mk none (Op.store _ _ _) _ _ _ _ :: _) _ _); refine store_rows TermR.ok _ _ 24 rfl rfl rfl i24 hi hsz w.heap.size 24 (Fr w.heap.size) g 1 8 c _ rfl hown2 (by decide) [-1] ?s1 rfl ?_; rotate_left 1; intro w3 hown3 hg3 hz3))
  case s1 => exact TermR.ok _ _ _ _ _ _ hA2.out ⟨hg2.size, fun b hb hl => ⟨hb, hg2.block b hl (fun e => hb.2 (by cases e; rfl))⟩⟩
  go_ret
  refine ⟨_, rfl, hown3.terms (by simp), ?_⟩
  have hsz2 := hg2.size
  simp at hsz2
  exact (hB'.out.trans (below_of_grown hg2 (by simp; omega) fun j hj => by cases hj; exact hg)).trans (below_of_grown hg3 (by omega) fun j hj => by cases hj; exact hg)

theorem lit_any (w : World) (xs : List Int) (hl : xs.length ≤ 1000) : IsInts Any (w.alloc (.cells (xs.map (Value.int .i64)).toArray 3)) (.slice (some ⟨w.heap.size, 0, none⟩) xs.length xs.length) xs :=
  (ints_lit w w.heap.size xs 3 (Nat.le_refl _) (by omega)).any

theorem row_cell {S : Blk} {w : World} {v : Value} {ts : List (List Int)} (h : IsTerms S w v ts) {j : Nat} (hj : j < ts.length) :
    ∃ b o c u, v = .slice (some ⟨b, o, none⟩) ts.length c ∧ w.cell? ⟨b, o + j, none⟩ = some u ∧ IsInts S w u (nthT ts j) := by
  obtain ⟨hlen, ⟨rfl, -⟩ | ⟨hne, b, o, c, rfl, -, -, hlt, cs, he, hc⟩⟩ := h
  · simp at hj
  · obtain ⟨u, h1, h2⟩ := terms_cell he hc hj
    exact ⟨b, o, c, u, rfl, h1, h2⟩

def aft2 : List (List Int) := [[2, -1], [2, -2], [-3], [-4], [-5], [-6], [-7], [-8]]
theorem k1 : applyE someS [4, -1, -2] = 0 ∧ applyT someS [4, -1, -2] = [4, 2, -2, -1] := by decide +kernel
theorem k2 : afterE someS someS = 0 ∧ afterT someS someS = aft2 := by decide +kernel
theorem k3 : chk [4, -5, 4, -2, -5] = 0 ∧ plT [4, -5, 4, -2, -5] = [4, -1, 4, -2, -1] := by decide +kernel
theorem k4 : applyE [] fxgaT = 1 := by decide +kernel
theorem k5 : chkS noneS = 0 := by decide +kernel

set_option maxRecDepth 100000 in
set_option maxHeartbeats 1000000 in
theorem subBegun_calls (w : World) : Calls Try.prog 36 #[] w fun e w' => e = .returned (.bool true) ∧ Below w.heap.size w w' := by
  go_enter Try.func36, Try.ntmps36
  go_wp2_with fail
  refine (some_calls w).mono ?_
  rintro e w1 ⟨x1, rfl, hx1, hB1⟩
  go_wp2_with fail
  refine (Apply_calls someS [4, -1, -2] _ _ _ (hx1.any TermR.ok |>.below TermR.ok (below_alloc w1 _)) (lit_any w1 [4, -1, -2] (by decide))).mono ?_
  rintro e w2 ⟨t, rfl, ht, hB2⟩
  rw [k1.1]
  rw [k1.2] at ht
  replace hB2 := ext_trans (ext_alloc hB1 _) hB2
  clear hx1 hB1
  obtain ⟨ta, tc, rfl⟩ := ht.isSlice
  replace ht := ht.any
  go_wp2_with fail
  refine (some_calls w2).mono ?_
  rintro e w3 ⟨x3, rfl, hx3, hB3⟩
  replace ht := ht.below hB3
  replace hB2 := ext_trans hB2 hB3
  clear hB3
  go_wp2_with fail
  refine (some_calls w3).mono ?_
  rintro e w4 ⟨x4, rfl, hx4, hB4⟩
  go_wp2_with fail
  refine (After_calls someS someS _ _ w4 (hx3.any TermR.ok |>.below TermR.ok hB4) (hx4.any TermR.ok)).mono ?_
  rintro e w5 ⟨u, rfl, hu, hB5⟩
  rw [k2.1]
  rw [k2.2] at hu
  replace ht := ht.below (ext_trans hB4 hB5)
  replace hB2 := ext_trans hB2 (ext_trans hB4 hB5)
  clear hx3 hx4 hB4 hB5
  replace hu := hu.any TermR.ok
  obtain ⟨b, o, c, -, rfl, -, -⟩ := row_cell hu (j := 0) (by decide)
  rw [show aft2.length = 8 from rfl] at hu ⊢
  go_wp2_with fail
  refine (Plain_calls [4, -5, 4, -2, -5] _ _ (lit_any w5 [4, -5, 4, -2, -5] (by decide))).mono ?_
  rintro e w6 ⟨p, rfl, hp, hB6⟩
  rw [k3.1]
  rw [k3.2] at hp
  replace hB6 := ext_trans (below_alloc w5 _) hB6
  replace ht := ht.below hB6
  replace hu := hu.below TermR.ok hB6
  replace hB2 := ext_trans hB2 hB6
  replace hp := hp.any
  clear hB6
  go_wp2_with fail
  refine (fxga_calls w6).mono ?_
  rintro e w7 ⟨f, rfl, hf, hB7⟩
  go_wp2_with fail
  refine (Apply_calls [] fxgaT _ _ w7 (.nil _ _) hf.any).mono ?_
  rintro e w8 ⟨y8, rfl, -, hB8⟩
  rw [k4]
  replace hB7 := ext_trans hB7 hB8
  replace ht := ht.below hB7
  replace hu := hu.below TermR.ok hB7
  replace hp := hp.below hB7
  replace hB2 := ext_trans hB2 hB7
  clear hB7 hB8 hf
  go_wp2_with fail
  refine (None_calls w8).mono ?_
  rintro e w9 ⟨n, rfl, hn, hB9⟩
  replace hn := (hn.terms (by decide)).any TermR.ok
  replace ht := ht.below hB9
  replace hu := hu.below TermR.ok hB9
  replace hp := hp.below hB9
  replace hB2 := ext_trans hB2 hB9
  clear hB9
  go_wp2_with fail
  refine (SameTerms_eq [4, 2, -2, -1] _ _ _ (ht.below (below_alloc w9 _)) (lit_any w9 [4, 2, -2, -1] (by decide))).mono ?_
  rintro e w10 ⟨rfl, hB10⟩
  replace hB10 := ext_trans (below_alloc w9 _) hB10
  replace hu := hu.below TermR.ok hB10
  replace hp := hp.below hB10
  replace hn := hn.below TermR.ok hB10
  replace hB2 := ext_trans hB2 hB10
  clear hB10 ht
  obtain ⟨b', o', c', u0, e, hc0, hu0⟩ := row_cell hu (j := 0) (by decide)
  cases e
  rw [Nat.add_zero] at hc0
  go_wp2_with fail
  refine (SameTerms_eq [2, -1] _ _ _ (hu0.below (below_alloc w10 _)) (lit_any w10 [2, -1] (by decide))).mono ?_
  rintro e w11 ⟨rfl, hB11⟩
  replace hB11 := ext_trans (below_alloc w10 _) hB11
  replace hu := hu.below TermR.ok hB11
  replace hp := hp.below hB11
  replace hn := hn.below TermR.ok hB11
  replace hB2 := ext_trans hB2 hB11
  clear hB11 hu0 hc0
  obtain ⟨b'', o'', c'', u1, e, hc1, hu1⟩ := row_cell hu (j := 1) (by decide)
  cases e
  go_wp2_with fail
  refine (SameTerms_eq [2, -2] _ _ _ (hu1.below (below_alloc w11 _)) (lit_any w11 [2, -2] (by decide))).mono ?_
  rintro e w12 ⟨rfl, hB12⟩
  replace hB12 := ext_trans (below_alloc w11 _) hB12
  replace hp := hp.below hB12
  replace hn := hn.below TermR.ok hB12
  replace hB2 := ext_trans hB2 hB12
  clear hB12 hu1 hc1 hu
  go_wp2_with fail
  refine (SameTerms_eq [4, -1, 4, -2, -1] _ _ _ (hp.below (below_alloc w12 _)) (lit_any w12 [4, -1, 4, -2, -1] (by decide))).mono ?_
  rintro e w13 ⟨rfl, hB13⟩
  replace hB13 := ext_trans (below_alloc w12 _) hB13
  replace hn := hn.below TermR.ok hB13
  replace hB2 := ext_trans hB2 hB13
  clear hB13 hp
  go_wp2_with fail
  refine (NoneOf_calls w13).mono ?_
  rintro e w14 ⟨m, rfl, hm, hB14⟩
  replace hm := (hm.terms (by decide)).any TermR.ok
  replace hn := hn.below TermR.ok hB14
  replace hB2 := ext_trans hB2 hB14
  clear hB14
  go_wp2_with fail
  refine (SameSubs_eq noneS _ _ _ hn hm).mono ?_
  rintro e w15 ⟨rfl, hB15⟩
  replace hn := hn.below TermR.ok hB15
  replace hB2 := ext_trans hB2 hB15
  clear hB15 hm
  go_wp2_with fail
  refine (SubCheck_calls noneS _ _ hn).mono ?_
  rintro e w16 ⟨rfl, rfl⟩
  rw [k5]
  go_wp2_with fail
  go_ret
  exact ⟨rfl, hB2⟩

set_option maxRecDepth 100000 in
set_option maxHeartbeats 1000000 in
theorem SubTells_calls (s : List (List Int)) (t : List Int) (u v : Value) (w : World) (hu : IsTerms Any w u s) (hv : IsInts Any w v t) :
    Calls Try.prog 3 #[u, v] w fun e w' => e = .returned (.bool true) ∧ Below w.heap.size w w' := by
  obtain ⟨a, c, rfl⟩ := hu.isSlice
  obtain ⟨a', c', rfl⟩ := hv.isSlice
  have hE : Hid (applyE s t = applyE s t) := rfl
  go_enter Try.func3, Try.ntmps3
  go_wp2_with fail
  refine (Apply_calls s t _ _ w hu hv).mono ?_
  rintro e w1 ⟨x, rfl, hx, hB1⟩
  replace hu := hu.below TermR.ok hB1
  replace hv := hv.below hB1
  replace hx := hx.any
  go_wp2_with fail
  refine (ApplyOf_calls s t _ _ w1 hu hv).mono ?_
  rintro e w2 ⟨y, rfl, hy, hB2⟩
  replace hu := hu.below TermR.ok hB2
  replace hx := hx.below hB2
  replace hy := hy.any
  replace hB1 := ext_trans hB1 hB2
  clear hB2 hv
  go_wp2_with fail
  refine (subBegun_calls w2).mono ?_
  rintro e w3 ⟨rfl, hB3⟩
  replace hu := hu.below TermR.ok hB3
  replace hx := hx.below hB3
  replace hy := hy.below hB3
  replace hB1 := ext_trans hB1 hB3
  clear hB3
  go_wp2_with fail
  refine (SubCheck_calls s _ w3 hu).mono ?_
  rintro e w4 ⟨rfl, rfl⟩
  go_wp2_with fail
  refine (SubError_calls s _ w3 hu).mono ?_
  rintro e w4 ⟨rfl, rfl⟩
  go_wp2_with fail
  refine (SameTerms_eq _ _ _ w3 hx hy).mono ?_
  rintro e w4 ⟨rfl, hB4⟩
  replace hB1 := ext_trans hB1 hB4
  go_wp2_with fail
  go_ret
  exact ⟨rfl, hB1⟩

end Go.Proofs.Ytepddehodmljeaa
