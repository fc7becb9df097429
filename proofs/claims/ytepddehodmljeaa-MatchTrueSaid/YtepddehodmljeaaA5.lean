/- Base: a range over a map that the call made: laws for the walk. -/
import Derived.Test.YtepddehodmljeaaA3
import Derived.Maps.RangeWalk
namespace Go.Proofs.Ytepddehodmljeaa
open Go.RowKit Go.Maps Go.ChangeMaps

/-- A range over the map in block b is under way, its walk in block r: todo is still to come. -/
def RngIs (w : World) (r b : Nat) (todo : List (Value × Value)) : Prop :=
  ∃ es clock since seen c0, w.heap[b]? = some (.map es clock) ∧ w.heap[r]? = some (.mapIter (some b) since seen c0) ∧ (∀ x ∈ es.toList, x.born < since) ∧ since ≤ c0 ∧ since ≤ clock ∧
    (es.toList.map (·.key)).Nodup ∧ (es.toList.map (·.born)).Nodup ∧ todo = (leftOf es seen).toList.map fun e => (e.key, e.val)

theorem RngIs.keep {w w' : World} {r b : Nat} {todo : List (Value × Value)} (h : RngIs w r b todo) (hb : w'.heap[b]? = w.heap[b]?) (hr : w'.heap[r]? = w.heap[r]?) : RngIs w' r b todo := by
  obtain ⟨es, clock, since, seen, c0, h1, h2, h3⟩ := h
  exact ⟨es, clock, since, seen, c0, hb.trans h1, hr.trans h2, h3⟩
theorem RngIs.lt {w : World} {r b : Nat} {todo : List (Value × Value)} (h : RngIs w r b todo) : b < w.heap.size ∧ r < w.heap.size := by
  obtain ⟨es, clock, since, seen, c0, h1, h2, h3⟩ := h
  exact ⟨(Array.getElem?_eq_some_iff.1 h1).1, (Array.getElem?_eq_some_iff.1 h2).1⟩

theorem rng_start {P : Program} {k : TypeId} {w : World} {b : Nat} {l : List (Value × Value)} (h : MapIs P k w b l) : ∃ clock, RngIs (w.alloc (.mapIter (some b) clock #[] clock)) w.heap.size b l ∧ ∃ es, w.heap[b]? = some (.map es clock) := by
  have hlt := h.lt
  obtain ⟨es, clock, hb, rfl, -, hn, hbn, hbl⟩ := h
  refine ⟨clock, ⟨es, clock, clock, #[], clock, (Below.heap_alloc _ _ _ hlt).trans hb, Array.getElem?_push_size, hbl, Nat.le_refl _, Nat.le_refl _, ?_, hbn, ?_⟩, es, hb⟩
  · rw [List.map_map] at hn; exact hn
  · simp only [leftOf, Array.toList_filter]
    rw [List.filter_eq_self.2 (by simp)]

section laws
variable {P : Program} {w : World} {ops : Array Oper} {rest : List Oper} {o : Oper} {a : Act} {Q : Exit → Act → World → Prop}

theorem range_map (m : Operand) (t : TypeId) (hg : o.guard = none) (hop : o.op = Op.range t m) (k e : TypeId) (ht : P.underlying t = some (.map k e)) (kk : TypeId)
    (b : Nat) (l : List (Value × Value)) (hm : a.eval m = .map (some b)) (h : MapIs P kk w b l)
    (hK : ∀ w', RngIs w' w.heap.size b l → Below w.heap.size w w' → w'.heap.size = w.heap.size + 1 → wpList P ops Q rest (a.put o.dst (.pointer (some ⟨w.heap.size, 0, none⟩))) w') : wpList P ops Q (o :: rest) a w := by
  refine wpList_plain hg fun K' hK' => ?_
  obtain ⟨clock, hr, es, hb⟩ := rng_start h
  have hrun := run_range_map (P := P) w t k e b es clock ht hb
  unfold Oper.wp
  simp [execOp, hop, hm, hrun, Result.andThen]
  exact hK' _ _ (hK _ hr ((Below.refl _ _).alloc (Nat.le_refl _) _) (by simp))

theorem born_key {es : List MapEntry} (hn : (es.map (·.key)).Nodup) (hbn : (es.map (·.born)).Nodup) {x y : MapEntry} (hx : x ∈ es) (hy : y ∈ es) : x.born = y.born ↔ x.key = y.key := by
  induction es with
  | nil => cases hx
  | cons e es ih =>
    simp only [List.map_cons, List.nodup_cons, List.mem_map, not_exists, not_and] at hn hbn
    rcases List.mem_cons.1 hx with hx' | hx' <;> rcases List.mem_cons.1 hy with hy' | hy'
    · rw [hx', hy']; simp
    · rw [hx']; exact ⟨fun h => absurd h.symm (hbn.1 y hy'), fun h => absurd h.symm (hn.1 y hy')⟩
    · rw [hy']; exact ⟨fun h => absurd h (hbn.1 x hx'), fun h => absurd h (hn.1 x hx')⟩
    · exact ih hn.2 hbn.2 hx' hy'

theorem next_map (it : Operand) (hg : o.guard = none) (hop : o.op = Op.next it false) (b r : Nat) (todo : List (Value × Value)) (hit : a.eval it = .pointer (some ⟨r, 0, none⟩)) (h : RngIs w r b todo)
    (hDone : todo = [] → wpList P ops Q rest (a.put o.dst (.tuple #[.bool false])) w)
    (hMore : ∀ (x v : Value) (todo' : List (Value × Value)) (w' : World), (x, v) ∈ todo → (∀ q, q ∈ todo' ↔ q ∈ todo ∧ q.1 ≠ x) → todo'.length < todo.length → RngIs w' r b todo' → Keeps (fun i => i = r) w w' → w'.heap.size = w.heap.size →
      (Instr.entry (.pointer (some ⟨r, 0, none⟩))).run P w' = .ok (.tuple #[x, v]) w' → wpList P ops Q rest (a.put o.dst (.tuple #[.bool true, x, v])) w') : wpList P ops Q (o :: rest) a w := by
  refine wpList_plain hg fun K' hK' => ?_
  obtain ⟨es, clock, since, seen, c0, h1, h2, h3, h4, hlast, h5, h6, rfl⟩ := h
  have hlt := (Array.getElem?_eq_some_iff.1 h2).1
  unfold Oper.wp
  rcases run_next_at (P := P) w o.type r b since c0 seen es clock h2 h1 h3 h4 with ⟨g0, hrun⟩ | ⟨e, he, w1, hw1, hrun⟩
  · simp [execOp, hop, hit, hrun, Result.andThen]
    refine hK' _ _ (hDone ?_)
    rw [Array.eq_empty_of_size_eq_zero g0]; rfl
  · simp [execOp, hop, hit, hrun, Result.andThen]
    have hw1s : w1.heap = w.heap := by rcases hw1 with rfl | rfl <;> rfl
    have hbr : b ≠ r := by rintro rfl; rw [h1] at h2; cases h2
    have hes : e ∈ es.toList := by
      have := he
      simp [leftOf] at this
      simpa using this.1
    have hesn : e.born ∉ seen := by
      have := he
      simp [leftOf] at this
      exact this.2
    have hb' : (setBlock w1 r (.mapIter (some b) since (seen.push e.born) clock)).heap[b]? = some (.map es clock) := by
      simp only [setBlock, Array.getElem?_setIfInBounds, hw1s]
      rw [if_neg (fun h => hbr h.symm)]; exact h1
    have hr' : (setBlock w1 r (.mapIter (some b) since (seen.push e.born) clock)).heap[r]? = some (.mapIter (some b) since (seen.push e.born) clock) := by
      simp [setBlock, hw1s, hlt]
    refine hK' _ _ (hMore e.key e.val ((leftOf es (seen.push e.born)).toList.map fun e => (e.key, e.val)) _ (List.mem_map.2 ⟨e, he, rfl⟩) ?_ ?_ ⟨es, clock, since, seen.push e.born, clock, hb', hr', h3, hlast, hlast, h5, h6, rfl⟩ ?_ ?_ ?_)
    · intro q
      simp only [List.mem_map]
      constructor
      · rintro ⟨x, hx, rfl⟩
        simp [leftOf] at hx
        refine ⟨⟨x, by simp [leftOf]; exact ⟨hx.1, hx.2.1⟩, rfl⟩, fun e1 => ?_⟩
        exact hx.2.2 ((born_key h5 h6 (by simpa using hx.1) hes).2 e1)
      · rintro ⟨⟨x, hx, rfl⟩, hq⟩
        simp [leftOf] at hx
        refine ⟨x, ?_, rfl⟩
        simp [leftOf]
        exact ⟨hx.1, hx.2, fun e1 => hq ((born_key h5 h6 (by simpa using hx.1) hes).1 e1)⟩
    · simp only [List.length_map, Array.length_toList]
      exact left_shrinks es seen e he
    · refine ⟨?_, ?_, ?_, ?_, ?_⟩
      · rcases hw1 with rfl | rfl <;> rfl
      · rcases hw1 with rfl | rfl <;> rfl
      · rcases hw1 with rfl | rfl <;> rfl
      · simp [setBlock, hw1s]
      · intro i _ hi
        simp only [setBlock, Array.getElem?_setIfInBounds, hw1s]
        rw [if_neg (fun h => hi h.symm)]
    · simp [setBlock, hw1s]
    · exact run_entry_at _ r b since seen es clock e hr' hb' hes h6
end laws

theorem RngIs.left {w : World} {r b : Nat} {todo : List (Value × Value)} (h : RngIs w r b todo) : w.rangeLeft b r = todo.length := by
  obtain ⟨es, clock, since, seen, c0, h1, h2, -, -, -, -, -, rfl⟩ := h
  simp [World.rangeLeft, h1, h2]
theorem MapIs.keys {P : Program} {k : TypeId} {w : World} {b : Nat} {l : List (Value × Value)} (h : MapIs P k w b l) : (l.map (·.1)).Nodup := by
  obtain ⟨es, clock, -, -, -, h, -⟩ := h; exact h

end Go.Proofs.Ytepddehodmljeaa
