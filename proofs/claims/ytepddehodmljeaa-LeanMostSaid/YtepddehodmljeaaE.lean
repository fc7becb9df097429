/- How arguments are read, and how a law's row is closed. -/
import Derived.Test.YtepddehodmljeaaRows
import Derived.Test.YtepddehodmljeaaG1
import Derived.ProofKit
import Derived.Deep.Slices
namespace Go.Proofs.Ytepddehodmljeaa
open Go.ChangeShapes Go.WideShapes Go.ChangeAt Go.RowKit

theorem Try.own : ownKnob Try.prog.godebug = none := by kernel_rfl
theorem Try.laidOut : laidOutB Try.prog = true := by kernel_rfl
theorem Try.cells3 : Try.prog.cellsOf 3 = 1 := by kernel_rfl
theorem Try.cells24 : Try.prog.cellsOf 24 = 1 := by kernel_rfl

theorem maxLen_le {n : Nat} (h : n ≤ maxLen) : n ≤ 9223372036854775807 := by unfold maxLen at h; omega

variable {H : Type} {enc : TypeId × Value → H} {W : World}

set_option maxRecDepth 100000 in
/-- Ints, as the reader read them. -/
theorem open_ints_cells {t : TypeId} {v : Value} {x : DataW H × List MemPlace} {fuel : Nat} (ht : Try.prog.underlying t = some (.slice 3)) (hv : v.cells = #[v])
    (h : DataW.trod enc Try.prog W 0 (fun _ => true) true fuel t [v] = some x) : ∃ xs, IsInts Any W v xs := by
  rcases open_ints ht Try.underlying3 Try.cells3 h with ⟨hcs, hx⟩ | ⟨a, len, cap, zs, hcs, _, hl, hm, hz, hx, hcell, hwz⟩
  · simp only [List.cons.injEq, and_true] at hcs
    subst hcs
    exact ⟨[], .nil _ _⟩
  · simp only [List.cons.injEq, and_true] at hcs
    subst hcs
    simp only [if_true] at hz
    have hm' := maxLen_le hm
    refine ⟨zs.take len, by rw [List.length_take]; omega, ?_⟩
    have hlen : (zs.take len).length = len := by rw [List.length_take]; omega
    by_cases hl0 : len = 0
    · subst hl0; exact .inl ⟨by simp, _, cap, rfl, by simp⟩
    · obtain ⟨b, off, spot⟩ := a
      have hspot : spot = none := by simpa [Addr.add] using World.cell?_spot (hcell 0 (by omega))
      subst hspot
      have hb : b < W.heap.size := World.block_lt_of_cell? _ _ (hcell 0 (by omega))
      refine .inr ⟨fun h => by rw [h] at hlen; simp at hlen; omega, b, off, cap, by rw [hlen], by omega, trivial, hb, fun j hj => ?_⟩
      rw [hlen] at hj
      have := hcell j (by omega)
      rw [add_plain] at this
      rw [this, nth_take hj]
      rfl

set_option maxRecDepth 100000 in
theorem open_ints_arg {t : TypeId} {v : Value} {d : DataW H} {p : List MemPlace} {r : Reach} {b0 : Nat} (ht : Try.prog.underlying t = some (.slice 3)) (hval : Value.okWide Try.prog W r b0 t v)
    (h : DataW.Trod enc Try.prog W 0 (fun _ => true) true t v d p) : ∃ xs, IsInts Any W v xs := by
  obtain ⟨a0, len, cap, rfl⟩ := okWide_slice ht hval
  obtain ⟨fuel, hf⟩ := h
  exact open_ints_cells ht rfl hf

theorem cells?_get {b n : Nat} {a : Addr} {us : List Value} (h : W.cells? b a n = some us) : us.length = n ∧ ∀ r, r < n → W.cell? (a.add r) = us[r]? := by
  unfold World.cells? at h
  split at h
  · exact ⟨by simpa using mapM_some_length h, fun r hr => by simpa using mapM_some_get h r r (by simp [hr])⟩
  · cases h

/-- Whatever each element reads as. -/
theorem elems_of {α : Type} {sz : Nat} {R : Rep α} {S : Blk} {w : World} : ∀ (n : Nat) (V : Nat → List Value), (∀ i, i < n → (V i).length = sz ∧ ∃ x, R S w (V i) x) → ∃ xs : List α, xs.length = n ∧ Elems sz R S w ((List.range n).flatMap V) xs
  | 0, _, _ => ⟨[], rfl, rfl⟩
  | n + 1, V, h => by
    obtain ⟨xs, hl, he⟩ := elems_of n V (fun i hi => h i (by omega))
    obtain ⟨h1, x, hx⟩ := h n (by omega)
    refine ⟨xs ++ [x], by simp [hl], ?_⟩
    rw [List.range_succ, List.flatMap_append]
    refine he.append ?_
    simp only [List.flatMap_cons, List.flatMap_nil, List.append_nil]
    exact Elems.one h1 hx

theorem flat_get {sz : Nat} {V : Nat → List Value} : ∀ (n : Nat), (∀ i, i < n → (V i).length = sz) → ∀ j u, ((List.range n).flatMap V)[j]? = some u → ∃ i r, i < n ∧ r < sz ∧ j = i * sz + r ∧ (V i)[r]? = some u
  | 0, _, j, u, h => by simp at h
  | n + 1, hl, j, u, h => by
    have hlen : ((List.range n).flatMap V).length = n * sz := by
      clear h
      induction n with
      | zero => simp
      | succ n ih => rw [List.range_succ, List.flatMap_append, List.length_append, ih (fun i hi => hl i (by omega))]; simp [hl n (by omega), Nat.add_mul]
    rw [List.range_succ, List.flatMap_append] at h
    simp only [List.flatMap_cons, List.flatMap_nil, List.append_nil] at h
    by_cases hj : j < n * sz
    · rw [List.getElem?_append_left (by omega)] at h
      obtain ⟨i, r, h1, h2⟩ := flat_get n (fun i hi => hl i (by omega)) j u h
      exact ⟨i, r, by omega, h2⟩
    · rw [List.getElem?_append_right (by omega), hlen] at h
      have hr : j - n * sz < sz := by
        obtain ⟨hh, _⟩ := List.getElem?_eq_some_iff.1 h
        rw [hl n (by omega)] at hh; exact hh
      exact ⟨n, j - n * sz, by omega, hr, by omega, h⟩

set_option maxRecDepth 100000 in
/-- A slice whose elements take sz cells and read as R tells. -/
theorem open_rows {α : Type} {sz : Nat} {R : Rep α} {t e : TypeId} {v : Value} {x : DataW H × List MemPlace} {fuel : Nat} (hsz : 0 < sz) (ht : Try.prog.underlying t = some (.slice e)) (hce : Try.prog.cellsOf e = sz)
    (hR : ∀ (n : Nat) (us : List Value) (y : DataW H × List MemPlace), us.length = sz → DataW.trod enc Try.prog W 0 (fun _ => true) true n e us = some y → ∃ z, R Any W us z)
    (h : DataW.trod enc Try.prog W 0 (fun _ => true) true fuel t [v] = some x) : ∃ xs, IsRow sz R Any W v xs := by
  rcases Go.Deep.open_slice ht h with ⟨hcs, hx⟩ | ⟨a, len, cap, m, n, D, Pl, hcs, _, hl, hm, hmm, hx, hcell⟩
  · simp only [List.cons.injEq, and_true] at hcs
    subst hcs
    exact ⟨[], .nil _ _⟩
  · simp only [List.cons.injEq, and_true] at hcs
    subst hcs
    simp only [if_true] at hmm
    have hm' := maxLen_le hm
    rw [hce] at hcell
    have hc2 : ∀ i, i < len → ∃ us : List Value, us.length = sz ∧ (∀ r, r < sz → W.cell? ((a.add (i * sz)).add r) = us[r]?) ∧ ∃ z, R Any W us z := by
      intro i hi
      obtain ⟨us, h1, h2⟩ := hcell i (by omega)
      obtain ⟨h3, h4⟩ : us.length = sz ∧ ∀ r, r < sz → W.cell? ((a.add (i * sz)).add r) = us[r]? := cells?_get h1
      exact ⟨us, h3, h4, hR n us _ h3 h2⟩
    by_cases hl0 : len = 0
    · subst hl0; exact ⟨[], by simp, .inl ⟨rfl, _, cap, rfl, by simp⟩⟩
    · obtain ⟨us0, l0, g0, -⟩ := hc2 0 (by omega)
      obtain ⟨b, off, spot⟩ := a
      have hh0 : W.cell? ⟨b, off, spot⟩ = some us0[0] := by
        have := g0 0 hsz
        rw [List.getElem?_eq_getElem (by omega)] at this
        simpa [Addr.add] using this
      have hspot : spot = none := by simpa using World.cell?_spot hh0
      subst hspot
      have hb : b < W.heap.size := World.block_lt_of_cell? _ _ hh0
      have hch : ∃ V : Nat → List Value, ∀ i, i < len → (V i).length = sz ∧ (∀ r, r < sz → W.cell? ((Addr.add ⟨b, off, none⟩ (i * sz)).add r) = (V i)[r]?) ∧ ∃ z, R Any W (V i) z :=
        ⟨fun i => if h : i < len then Classical.choose (hc2 i h) else [], fun i hi => by simp only [hi, dite_true]; exact Classical.choose_spec (hc2 i hi)⟩
      obtain ⟨V, hV⟩ := hch
      obtain ⟨xs, hxl, hel⟩ := elems_of (R := R) (S := Any) (w := W) len V (fun i hi => ⟨(hV i hi).1, (hV i hi).2.2⟩)
      refine ⟨xs, by omega, .inr ⟨fun h => by rw [h] at hxl; simp at hxl; omega, b, off, cap, by rw [hxl], by omega, trivial, hb, _, hel, fun j u hj => ?_⟩⟩
      obtain ⟨i, r, h1, h2, rfl, h3⟩ := flat_get len (fun i hi => (hV i hi).1) j u hj
      have := (hV i h1).2.1 r h2
      rw [add_plain, add_plain, h3] at this
      rw [← this, Nat.add_assoc]

set_option maxRecDepth 100000 in
/-- A list of terms. -/
theorem open_terms_arg {v : Value} {d : DataW H} {p : List MemPlace} {r : Reach} {b0 : Nat} (hval : Value.okWide Try.prog W r b0 22 v)
    (h : DataW.Trod enc Try.prog W 0 (fun _ => true) true 22 v d p) : ∃ ts, IsTerms Any W v ts := by
  obtain ⟨a0, len, cap, rfl⟩ := okWide_slice Try.underlying22 hval
  obtain ⟨fuel, hf⟩ := h
  refine open_rows (by decide) Try.underlying22 Try.cells24 (fun n us y hl hy => ?_) hf
  obtain ⟨u, rfl⟩ : ∃ u, us = [u] := by match us, hl with | [u], _ => exact ⟨u, rfl⟩
  have hu : u.cells = #[u] := by
    rcases Go.Deep.open_slice Try.underlying24 hy with ⟨e, _⟩ | ⟨_, _, _, _, _, _, _, e, _⟩ <;> (simp only [List.cons.injEq, and_true] at e; subst e; rfl)
  obtain ⟨xs, hxs⟩ := open_ints_cells Try.underlying24 hu hy
  exact ⟨xs, u, rfl, hxs⟩

theorem trodAll_below (hr : ∀ t : TypeId, t ∈ [3, 4, 9, 22, 23, 24, 49, 50, 57, 65] → Try.prog.readableRec t = true ∧ t < Try.prog.types.size) {W' : World} (hb : Below W.heap.size W W') :
    ∀ {ts : List TypeId} {vs : List Value} {ds : List (DataW H)} {p : List MemPlace}, (∀ t ∈ ts, t ∈ [3, 4, 9, 22, 23, 24, 49, 50, 57, 65]) → DataW.TrodAll enc Try.prog W 0 (fun _ => true) true ts vs ds p → (∀ x ∈ p, x.block < W.heap.size) →
      DataW.TrodAll enc Try.prog W' 0 (fun b => decide (b < W.heap.size)) true ts vs ds p
  | [], vs, ds, p, _, h, _ => by
    obtain ⟨rfl, rfl, rfl⟩ := trodAll_nil h
    exact trodAll_mk0
  | t :: ts, vs, ds, p, ht, h, hlt => by
    obtain ⟨v, vs', d, ds', p1, p2, rfl, rfl, rfl, h1, h2⟩ := trodAll_cons h
    have h3 := hr t (ht t (by simp))
    exact ⟨p1, p2, Below.trod Try.laidOut h3.1 h3.2 h1 hb fun x hx => hlt x (List.mem_append.2 (.inl hx)),
      trodAll_below hr hb (fun x hx => ht x (List.mem_cons_of_mem _ hx)) h2 fun x hx => hlt x (List.mem_append.2 (.inr hx)), rfl⟩

theorem Try.readable : ∀ t : TypeId, t ∈ [3, 4, 9, 22, 23, 24, 49, 50, 57, 65] → Try.prog.readableRec t = true ∧ t < Try.prog.types.size := by
  have h : ([3, 4, 9, 22, 23, 24, 49, 50, 57, 65] : List TypeId).all (fun t => Try.prog.readableRec t && decide (t < Try.prog.types.size)) = true := by kernel_rfl
  intro t ht
  have := List.all_eq_true.1 h t ht
  simpa using this

/-- A law that answers true and lets all be: its row's end. -/
theorem law_post {fn : Func} {s : ChangeSpec} (hres : fn.resultTypes = #[4]) (hvars : s.vars = []) (hts : ∀ t ∈ fn.params.toList, t ∈ [3, 4, 9, 22, 23, 24, 49, 50, 57, 65])
    {args : Array Value} {ds gs : List (DataW H)} {before : List MemPlace} (hW : DataW.Whole enc Try.prog fn.params.toList s.vars false W args.toList ds gs before)
    (hfn : s.fn H (ds ++ gs) = { results := [.lit (.bool true)], args := ds }) {W' : World} (hb : Below W.heap.size W W') :
    s.post enc Try.prog fn false true false false W args (.bool true) W' := by
  have hW' := hW
  obtain ⟨p, q, hA, hV, rfl, hfz, hnd⟩ := hW
  rw [hvars] at hV
  obtain ⟨rfl, rfl⟩ := trodVars_none hV
  refine ⟨ds, [], p ++ [], [], p, [], hW', ?_, ?_, ?_, hb.frame _, fun h => by cases h⟩
  · rw [hfn, hres]
    exact trodAll_mk1 (shut_bool Try.underlying4 true)
  · rw [hfn]
    exact trodAll_below Try.readable hb hts hA fun x hx => hW'.lt x (by simpa using hx)
  · rw [hfn, hvars]; rfl

end Go.Proofs.Ytepddehodmljeaa
