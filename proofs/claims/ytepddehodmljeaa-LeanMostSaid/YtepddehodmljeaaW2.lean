/- The matrix of haspref.above, as the code holds it; plain. -/
import Derived.Test.YtepddehodmljeaaW1
namespace Go.Proofs.Ytepddehodmljeaa
open Go.RowKit Go.Maps

def matL (F : Nat → Nat → Bool) : List Value := (List.range 900).map fun n => .bool (F (n / 30) (n % 30))
theorem matL_len (F : Nat → Nat → Bool) : (matL F).length = 900 := by simp [matL]
theorem matL_get (F : Nat → Nat → Bool) {i j : Nat} (hi : i < 30) (hj : j < 30) : (matL F)[i * 30 + j]? = some (.bool (F i j)) := by
  rw [matL, List.getElem?_map, List.getElem?_range (by omega)]
  simp only [Option.map_some]
  rw [show (i * 30 + j) / 30 = i by omega, show (i * 30 + j) % 30 = j by omega]
theorem matL_congr {F F' : Nat → Nat → Bool} (h : ∀ i j, i < 30 → j < 30 → F i j = F' i j) : matL F = matL F' := by
  unfold matL
  refine List.map_congr_left fun n hn => ?_
  have hn' : n < 900 := by simpa using hn
  rw [h (n / 30) (n % 30) (by omega) (by omega)]
theorem matL_set (F F' : Nat → Nat → Bool) {i j : Nat} (hi : i < 30) (hj : j < 30) (b : Bool) (h1 : F' i j = b) (h2 : ∀ x y, x < 30 → y < 30 → (x = i → y = j → False) → F' x y = F x y) : (matL F).set (i * 30 + j) (.bool b) = matL F' := by
  refine List.ext_getElem? fun n => ?_
  by_cases hn : n < 900
  · have e : n = n / 30 * 30 + n % 30 := by omega
    rw [List.getElem?_set, matL_len, if_pos (by omega : i * 30 + j < 900)]
    by_cases hx : i * 30 + j = n
    · rw [if_pos hx, ← hx, matL_get _ hi hj, h1]
    · rw [if_neg hx, e, matL_get _ (by omega) (by omega), matL_get _ (by omega) (by omega), h2 _ _ (by omega) (by omega) (by intro h3 h4; omega)]
  · rw [List.getElem?_eq_none (by simp [matL_len]; omega), List.getElem?_eq_none (by simp [matL_len]; omega)]

theorem zero195 : Try.zeroCells195 = (matL fun _ _ => false).toArray := by kernel_rfl

def MatIs (g : Nat) (w : World) (F : Nat → Nat → Bool) : Prop := w.ownsRow g 195 1 (.slice (some ⟨g, 0, none⟩) 900 900) 900 (matL F)
theorem MatIs.new (w : World) : MatIs w.heap.size (w.alloc (.cells Try.zeroCells195 195)) fun _ _ => false := by
  rw [zero195]
  have := lit_own w w.heap.size (matL fun _ _ => false) 195 (Nat.le_refl _) (by rw [matL_len]; omega)
  rwa [matL_len] at this
theorem MatIs.congr {g : Nat} {w : World} {F F' : Nat → Nat → Bool} (h : MatIs g w F) (e : ∀ i j, i < 30 → j < 30 → F i j = F' i j) : MatIs g w F' := by
  unfold MatIs
  rw [← matL_congr e]; exact h
theorem MatIs.lt {g : Nat} {w : World} {F : Nat → Nat → Bool} (h : MatIs g w F) : g < w.heap.size := (World.ownsRow.lt h g rfl).2
theorem MatIs.keep {g : Nat} {w w' : World} {F : Nat → Nat → Bool} (h : MatIs g w F) (hb : Below w.heap.size w w') : MatIs g w' F :=
  ownsRow_keep h fun k hk => hb.block k (World.ownsRow.lt h k hk).2
theorem MatIs.cell {g : Nat} {w : World} {F : Nat → Nat → Bool} (h : MatIs g w F) {i j : Nat} (hi : i < 30) (hj : j < 30) : w.cell? ⟨g, i * 30 + j, none⟩ = some (.bool (F i j)) := by
  rw [World.ownsRow.cellAt h (i * 30 + j) (by omega), matL_get F hi hj]
theorem MatIs.frozen {g : Nat} {w : World} {F : Nat → Nat → Bool} (h : MatIs g w F) (i j : Nat) : w.frozen? ⟨g, i * 30 + j, none⟩ = false := World.ownsRow.frozenAt h _
theorem MatIs.stored {g : Nat} {w : World} {F F' : Nat → Nat → Bool} (h : MatIs g w F) {i j : Nat} (hi : i < 30) (hj : j < 30) (b : Bool) (h1 : F' i j = b) (h2 : ∀ x y, x < 30 → y < 30 → (x = i → y = j → False) → F' x y = F x y) :
    MatIs g (w.setCell ⟨g, i * 30 + j, none⟩ (.bool b)) F' ∧ w.grownBy (w.setCell ⟨g, i * 30 + j, none⟩ (.bool b)) (some g) := by
  obtain ⟨h3, h4⟩ := World.ownsRow.stored h (i * 30 + j) (.bool b)
  rw [matL_set F F' hi hj b h1 h2] at h3
  exact ⟨h3, h4⟩

/-- The matrix while it is filled: rows from i on are done, of row i - 1 the columns from j on, and its place j - 1 holds c. -/
def mtF (G : Nat → Nat → Bool) (la lb i j : Nat) (c : Bool) : Nat → Nat → Bool := fun x y =>
  if x + 1 = i ∧ y + 1 = j then c else decide (x < la ∧ y < lb ∧ (i ≤ x ∨ (x + 1 = i ∧ j ≤ y))) && G x y
theorem mtF_here {G : Nat → Nat → Bool} {la lb i j : Nat} {c : Bool} : mtF G la lb (i + 1) (j + 1) c i j = c := if_pos ⟨rfl, rfl⟩
theorem mtF_down {G : Nat → Nat → Bool} {la lb i j x y : Nat} {c : Bool} (h1 : i < x) (h2 : x < la) (h3 : y < lb) : mtF G la lb (i + 1) (j + 1) c x y = G x y := by
  rw [mtF, if_neg (by omega), decide_eq_true (by omega), Bool.true_and]
theorem mtF_right {G : Nat → Nat → Bool} {la lb i j y : Nat} {c : Bool} (h1 : j < y) (h2 : i < la) (h3 : y < lb) : mtF G la lb (i + 1) (j + 1) c i y = G i y := by
  rw [mtF, if_neg (by omega), decide_eq_true (by omega), Bool.true_and]
theorem mtF_else {G : Nat → Nat → Bool} {la lb i j x y : Nat} {c c' : Bool} (h : x = i → y = j → False) : mtF G la lb (i + 1) (j + 1) c' x y = mtF G la lb (i + 1) (j + 1) c x y := by
  have hn : ¬ (x + 1 = i + 1 ∧ y + 1 = j + 1) := fun hh => h (by omega) (by omega)
  rw [mtF, mtF, if_neg hn, if_neg hn]
theorem mtF_start {G : Nat → Nat → Bool} {la lb x y : Nat} : mtF G la lb la lb false x y = false := by
  rw [mtF]
  split
  · rfl
  · rw [decide_eq_false (by omega), Bool.false_and]
theorem mtF_next {G : Nat → Nat → Bool} {la lb i j x y : Nat} (hi : i < la) (hj : j < lb) : mtF G la lb (i + 1) (j + 1) (G i j) x y = mtF G la lb (i + 1) j false x y := by
  unfold mtF
  by_cases h : x = i ∧ y = j
  · obtain ⟨rfl, rfl⟩ := h
    rw [if_pos ⟨rfl, rfl⟩, if_neg (by omega), decide_eq_true (by omega), Bool.true_and]
  · rw [if_neg (by omega)]
    by_cases h2 : x + 1 = i + 1 ∧ y + 1 = j
    · rw [if_pos h2, decide_eq_false (by omega), Bool.false_and]
    · rw [if_neg h2]
      congr 1
      rw [Bool.eq_iff_iff, decide_eq_true_iff, decide_eq_true_iff]
      omega
theorem mtF_row {G : Nat → Nat → Bool} {la lb i x y : Nat} : mtF G la lb (i + 1) 0 false x y = mtF G la lb i lb false x y := by
  unfold mtF
  rw [if_neg (by omega)]
  by_cases h2 : x + 1 = i ∧ y + 1 = lb
  · rw [if_pos h2, decide_eq_false (by omega), Bool.false_and]
  · rw [if_neg h2]
    congr 1
    rw [Bool.eq_iff_iff, decide_eq_true_iff, decide_eq_true_iff]
    omega
theorem mtF_end {G : Nat → Nat → Bool} {la lb : Nat} (ha : 0 < la) (hb : 0 < lb) : mtF G la lb 0 lb false 0 0 = G 0 0 := by
  rw [mtF, if_neg (by omega), decide_eq_true (by omega), Bool.true_and]

theorem below_put {w wq w3 : World} {g : Nat} (h : Below w.heap.size w wq) (hg : wq.grownBy w3 (some g)) (hgl : w.heap.size ≤ g) : Below w.heap.size w w3 :=
  ⟨hg.os.trans h.os, hg.tape.trans h.tape, hg.output.trans h.output, Nat.le_trans h.size hg.size, fun k hk => (hg.block k (Nat.lt_of_lt_of_le hk h.size) (fun e => by cases e; omega)).trans (h.block k hk)⟩

/-- While the place (i, j) is under way: the matrix, and the places of the parts of both. -/
structure AbSt (w : World) (G : Nat → Nat → Bool) (la lb i j : Nat) (pv qv : Value) (xs ys : List Int) (c : Bool) (wk : World) : Prop where
  mat : MatIs w.heap.size wk (mtF G la lb (i + 1) (j + 1) c)
  bel : Below w.heap.size w wk
  p : IsInts (fun b => b ≠ w.heap.size) wk pv xs
  q : IsInts (fun b => b ≠ w.heap.size) wk qv ys
theorem AbSt.keep {w wk wk' : World} {G : Nat → Nat → Bool} {la lb i j : Nat} {pv qv : Value} {xs ys : List Int} {c : Bool} (h : AbSt w G la lb i j pv qv xs ys c wk) (hb : Below wk.heap.size wk wk') : AbSt w G la lb i j pv qv xs ys c wk' :=
  ⟨h.mat.keep hb, ext_trans h.bel hb, h.p.mono (.of_below hb), h.q.mono (.of_below hb)⟩
theorem AbSt.store {w wk : World} {G : Nat → Nat → Bool} {la lb i j : Nat} {pv qv : Value} {xs ys : List Int} {c : Bool} (h : AbSt w G la lb i j pv qv xs ys c wk) (hi : i < 30) (hj : j < 30) (b : Bool) : AbSt w G la lb i j pv qv xs ys b (wk.setCell ⟨w.heap.size, i * 30 + j, none⟩ (.bool b)) := by
  obtain ⟨h1, h2⟩ := h.mat.stored (F' := mtF G la lb (i + 1) (j + 1) b) hi hj b mtF_here fun x y _ _ hh => mtF_else hh
  have hs : Sok (fun b => b ≠ w.heap.size) (fun b => b ≠ w.heap.size) wk (wk.setCell ⟨w.heap.size, i * 30 + j, none⟩ (.bool b)) :=
    ⟨h2.size, fun x hx hl => ⟨hx, h2.block x hl fun e => hx (by cases e; rfl)⟩⟩
  exact ⟨h1, below_put h.bel h2 (Nat.le_refl _), h.p.mono hs, h.q.mono hs⟩

/-! ### The three ends of a place -/
section
variable {r a b : List Int} {i j : Nat}
theorem ab_neg (ha : chk a = 0) (hb : chk b = 0) (hi : i < a.length) (hj : j < b.length) (h : nth a i < 0 ∨ nth b j < 0) : gt (rkF r) ((tmOf a).sub i) ((tmOf b).sub j) = byPt (rkF r) ((tmOf a).sub i) ((tmOf b).sub j) := by
  obtain ⟨g1, -, g3⟩ := sub_flat ha hi
  obtain ⟨k1, -, k3⟩ := sub_flat hb hj
  rw [gt_two g1 k1, byHt_neg (by rw [g3, k3]; exact h), Bool.or_false]
theorem ab_pt (ha : chk a = 0) (hb : chk b = 0) (hi : i < a.length) (hj : j < b.length) (h : byPt (rkF r) ((tmOf a).sub i) ((tmOf b).sub j) = true) : gt (rkF r) ((tmOf a).sub i) ((tmOf b).sub j) = true := by
  obtain ⟨g1, -, g3⟩ := sub_flat ha hi
  obtain ⟨k1, -, k3⟩ := sub_flat hb hj
  rw [gt_two g1 k1, h, Bool.true_or]
def allT (r a b : List Int) (i j : Nat) : Bool := (psT b j).all fun k => gt (rkF r) ((tmOf a).sub i) ((tmOf b).sub k)
theorem ab_pos (ha : chk a = 0) (hb : chk b = 0) (hi : i < a.length) (hj : j < b.length) (h : 0 ≤ nth a i) (h' : 0 ≤ nth b j) (h3 : byPt (rkF r) ((tmOf a).sub i) ((tmOf b).sub j) = false) :
    gt (rkF r) ((tmOf a).sub i) ((tmOf b).sub j) = (allT r a b i j && (if nth a i ≠ nth b j then decide (nth r (nth b j).toNat < nth r (nth a i).toNat) else lexM (rkF r) ((psT a i).map fun k => (tmOf a).sub k) ((psT b j).map fun k => (tmOf b).sub k))) := by
  obtain ⟨g1, -, g3⟩ := sub_flat ha hi
  obtain ⟨k1, -, k3⟩ := sub_flat hb hj
  rw [gt_two g1 k1, h3, Bool.false_or, byHt_pos (by rw [g3]; exact h) (by rw [k3]; exact h'), parts_ps ha hi, parts_ps hb hj, g3, k3, List.all_map]
  rfl
end

end Go.Proofs.Ytepddehodmljeaa
