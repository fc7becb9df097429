/- Rules and forms: walks of Check, Steps, Form, Is and of their references. -/
import Derived.Deep.DeepCutAuto
import Derived.Deep.RegionWith
import Derived.Test.YtepddehodmljeaaG3
import Derived.Test.YtepddehodmljeaaG4
import Derived.Test.YtepddehodmljeaaG2
import Derived.Test.YtepddehodmljeaaG5
namespace Go.Proofs.Ytepddehodmljeaa
open Go.RowKit

/-! ### Pairs of terms -/
def RuleR : Rep (List Int × List Int) := fun S w us r => ∃ u v, us = [u, v] ∧ IsInts S w u r.1 ∧ IsInts S w v r.2
theorem RuleR.ok : Rep.Ok RuleR := fun _ _ _ _ _ _ ⟨u, v, h, k1, k2⟩ hk => ⟨u, v, h, k1.mono hk, k2.mono hk⟩
abbrev IsRules (S : Blk) (w : World) (v : Value) (l : List (List Int × List Int)) : Prop := IsRow 2 RuleR S w v l

def nthR (l : List (List Int × List Int)) (j : Nat) : List Int × List Int := l.getD j ([], [])
theorem nthR_eq {l : List (List Int × List Int)} {j : Nat} (h : j < l.length) : nthR l j = l[j] := by simp [nthR, h]
theorem nthR_mem {l : List (List Int × List Int)} {j : Nat} (h : j < l.length) : nthR l j ∈ l := by rw [nthR_eq h]; exact List.getElem_mem h

theorem rules_cell {S : Blk} {w : World} {b o : Nat} {l : List (List Int × List Int)} {cs : List Value} (he : Elems 2 RuleR S w cs l) (hc : ∀ j u, cs[j]? = some u → w.cell? ⟨b, o + j, none⟩ = some u) {j : Nat} (hj : j < l.length) :
    ∃ u v, w.cell? ⟨b, o + j * 2, none⟩ = some u ∧ w.cell? ⟨b, o + j * 2 + 1, none⟩ = some v ∧ IsInts S w u (nthR l j).1 ∧ IsInts S w v (nthR l j).2 := by
  obtain ⟨us, hl, hget, u, v, rfl, hu, hv⟩ := he.get j hj
  have h0 := hget 0 (by omega)
  have h1 := hget 1 (by omega)
  simp at h0 h1
  refine ⟨u, v, ?_, ?_, by rw [nthR_eq hj]; exact hu, by rw [nthR_eq hj]; exact hv⟩
  · exact hc _ u h0
  · rw [Nat.add_assoc]; exact hc _ v h1

/-! ### Specifications -/
def ownB (t : List Int) : Bool := t.all fun n => decide (-4 ≤ n)
def hasB (t : List Int) (n : Int) : Bool := t.contains n
theorem hasB_yes {t : List Int} {n : Int} (h : n ∈ t) : hasB t n = true := by rw [hasB, List.contains_iff_mem]; exact h
theorem hasB_no {t : List Int} {n : Int} (h : n ∉ t) : hasB t n = false := by rw [hasB, Bool.eq_false_iff, Ne, List.contains_iff_mem]; exact h
def freeB (l r : List Int) : Bool := r.any fun n => decide (n < 0) && !(hasB l n)
def ruleE (r : List Int × List Int) : Int :=
  if chk2 r.1 r.2 = 0 then (if (ownB r.1 && ownB r.2) = true then (if nth r.1 0 < 0 then 1 else if freeB r.1 r.2 = true then 4 else 0) else 3) else chk2 r.1 r.2
def rulesL : List (List Int × List Int) → Int
  | [] => 0
  | r :: l => if ruleE r = 0 then rulesL l else ruleE r
def rulesE (l : List (List Int × List Int)) : Int := if 8 < l.length then 2 else rulesL l

theorem rulesL_zero {l : List (List Int × List Int)} : rulesL l = 0 ↔ ∀ r ∈ l, ruleE r = 0 := by
  induction l with
  | nil => simp [rulesL]
  | cons r l ih =>
    rw [rulesL]
    split
    · rename_i h; rw [ih]; simp [h]
    · rename_i h; simp [h]
theorem rulesL_first {l : List (List Int × List Int)} : ∀ {k : Nat}, k < l.length → (∀ j, j < k → ruleE (nthR l j) = 0) → ruleE (nthR l k) ≠ 0 → rulesL l = ruleE (nthR l k) := by
  induction l with
  | nil => intro k h; simp at h
  | cons r l ih =>
    intro k hk h0 h1
    cases k with
    | zero => rw [rulesL, if_neg (by simpa [nthR] using h1)]; simp [nthR]
    | succ k =>
      have := h0 0 (by omega)
      rw [rulesL, if_pos (by simpa [nthR] using this)]
      exact ih (by simpa using hk) (fun j hj => by have := h0 (j + 1) (by omega); simpa [nthR] using this) (by simpa [nthR] using h1)

/-! ### haspref.own, stands -/
theorem own_calls (t : List Int) (v : Value) (w : World) (hv : IsInts Any w v t) :
    Calls Try.prog 129 #[v] w fun e w' => e = .returned (.bool (ownB t)) ∧ w = w' := by
  obtain ⟨hlen, ⟨rfl, a, c, rfl, -⟩ | ⟨hne, b, o, c, rfl, -, -, hlt, hc⟩⟩ := hv
  · go_enter Try.func129, Try.ntmps129
    go_wp2_with fail
    refine wp_loop_rounds 1 ?_
    rw [rounds_succ]
    go_wp2_with fail
    go_ret
    exact ⟨rfl, rfl⟩
  · go_enter Try.func129, Try.ntmps129
    go_wp2_with fail
    go_loop [3] (fun i => ∃ k : Nat, k ≤ t.length ∧ i = .int .i64 k ∧ ∀ j, j < k → -4 ≤ nth t j) (fun i => t.length - (intOf i).toNat)
    case atStart => exact ⟨0, Nat.zero_le _, rfl, fun _ h => by omega⟩
    case round =>
      obtain ⟨k, hk, rfl, hp⟩ := hrel
      have hP := Lib.hid hp
      clear hp
      by_cases hlt' : k < t.length
      · have hcell := hc k hlt'
        have hC := Lib.hid hc
        clear hc
        by_cases hx : nth t k < -4
        · have hr : Hid (ownB t = false) := by
            rw [Hid, ownB, List.all_eq_false]
            exact ⟨nth t k, nth_mem hlt', by simpa using hx⟩
          go_wp2_with fail
          go_ret
          exact ⟨ret_bool hr.out.symm, rfl⟩
        · have hx' : -4 ≤ nth t k := by omega
          go_wp2_with fail
          go_round
          case rel =>
            refine ⟨k + 1, by omega, by go_num, fun j hj => ?_⟩
            by_cases e : j = k
            · rw [e]; exact hx'
            · exact hP.out j (by omega)
          case measure => simp [intOf]; omega
      · have hkl : k = t.length := by omega
        subst hkl
        have hr : Hid (ownB t = true) := by
          rw [Hid, ownB, List.all_eq_true]
          intro x hx
          obtain ⟨j, hj, rfl⟩ := List.getElem_of_mem hx
          have := hP.out j hj
          rw [nth_eq hj] at this
          simpa using this
        clear hc
        go_wp2_with fail
        go_ret
        exact ⟨ret_bool hr.out.symm, rfl⟩

theorem stands_calls (t : List Int) (n : Int) (v : Value) (w : World) (hv : IsInts Any w v t) :
    Calls Try.prog 130 #[v, .int .i64 n] w fun e w' => e = .returned (.bool (hasB t n)) ∧ w = w' := by
  obtain ⟨hlen, ⟨rfl, a, c, rfl, -⟩ | ⟨hne, b, o, c, rfl, -, -, hlt, hc⟩⟩ := hv
  · go_enter Try.func130, Try.ntmps130
    go_wp2_with fail
    refine wp_loop_rounds 1 ?_
    rw [rounds_succ]
    go_wp2_with fail
    go_ret
    exact ⟨rfl, rfl⟩
  · go_enter Try.func130, Try.ntmps130
    go_wp2_with fail
    go_loop [5] (fun i => ∃ k : Nat, k ≤ t.length ∧ i = .int .i64 k ∧ ∀ j, j < k → nth t j ≠ n) (fun i => t.length - (intOf i).toNat)
    case atStart => exact ⟨0, Nat.zero_le _, rfl, fun _ h => by omega⟩
    case round =>
      obtain ⟨k, hk, rfl, hp⟩ := hrel
      have hP := Lib.hid hp
      clear hp
      by_cases hlt' : k < t.length
      · have hcell := hc k hlt'
        have hC := Lib.hid hc
        clear hc
        by_cases hx : nth t k = n
        · have hr : Hid (hasB t n = true) := hasB_yes (by rw [← hx]; exact nth_mem hlt')
          have hx' : (nth t k == n) = true := by simpa using hx
          clear hx
          go_wp2_with fail
          go_ret
          exact ⟨ret_bool hr.out.symm, rfl⟩
        · have hx' : (nth t k == n) = false := by simpa using hx
          go_wp2_with fail
          go_round
          case rel =>
            refine ⟨k + 1, by omega, by go_num, fun j hj => ?_⟩
            by_cases e : j = k
            · rw [e]; exact hx
            · exact hP.out j (by omega)
          case measure => simp [intOf]; omega
      · have hkl : k = t.length := by omega
        subst hkl
        have hr : Hid (hasB t n = false) := by
          refine hasB_no fun hx => ?_
          obtain ⟨j, hj, e⟩ := List.getElem_of_mem hx
          have := hP.out j hj
          rw [nth_eq hj] at this
          exact this e
        clear hc
        go_wp2_with fail
        go_ret
        exact ⟨ret_bool hr.out.symm, rfl⟩

/-! ### slices.Index, Contains -/
theorem Index_calls (t : List Int) (n : Int) (v : Value) (w : World) (hv : IsInts Any w v t) :
    Calls Try.prog 207 #[v, .int .i64 n] w fun e w' => (∃ i : Int, e = .returned (.int .i64 i) ∧ decide (0 ≤ i) = hasB t n) ∧ w = w' := by
  obtain ⟨hlen, ⟨rfl, a, c, rfl, -⟩ | ⟨hne, b, o, c, rfl, -, -, hlt, hc⟩⟩ := hv
  · go_enter Try.func207, Try.ntmps207
    go_wp2_with fail
    refine wp_loop_rounds 1 ?_
    rw [rounds_succ]
    go_wp2_with fail
    go_ret
    exact ⟨⟨_, rfl, rfl⟩, rfl⟩
  · go_enter Try.func207, Try.ntmps207
    go_wp2_with fail
    go_loop [8] (fun i => ∃ k : Nat, k ≤ t.length ∧ i = .int .i64 k ∧ ∀ j, j < k → nth t j ≠ n) (fun i => t.length - (intOf i).toNat)
    case atStart => exact ⟨0, Nat.zero_le _, rfl, fun _ h => by omega⟩
    case round =>
      obtain ⟨k, hk, rfl, hp⟩ := hrel
      have hP := Lib.hid hp
      clear hp
      by_cases hlt' : k < t.length
      · have hcell := hc k hlt'
        have hC := Lib.hid hc
        clear hc
        by_cases hx : nth t k = n
        · have hr : Hid (hasB t n = true) := hasB_yes (by rw [← hx]; exact nth_mem hlt')
          have hx' : (n == nth t k) = true := by simpa using hx.symm
          clear hx
          go_wp2_with fail
          go_ret
          exact ⟨⟨_, rfl, by rw [hr.out]; simp⟩, rfl⟩
        · have hx' : (n == nth t k) = false := by simpa using fun h => hx h.symm
          go_wp2_with fail
          go_round
          case rel =>
            refine ⟨k + 1, by omega, by go_num, fun j hj => ?_⟩
            by_cases e : j = k
            · rw [e]; exact hx
            · exact hP.out j (by omega)
          case measure => simp [intOf]; omega
      · have hkl : k = t.length := by omega
        subst hkl
        have hr : Hid (hasB t n = false) := by
          refine hasB_no fun hx => ?_
          obtain ⟨j, hj, e⟩ := List.getElem_of_mem hx
          have := hP.out j hj
          rw [nth_eq hj] at this
          exact this e
        clear hc
        go_wp2_with fail
        go_ret
        exact ⟨⟨_, rfl, by rw [hr.out]; rfl⟩, rfl⟩

theorem Contains_calls (t : List Int) (n : Int) (v : Value) (w : World) (hv : IsInts Any w v t) :
    Calls Try.prog 191 #[v, .int .i64 n] w fun e w' => e = .returned (.bool (hasB t n)) ∧ w = w' := by
  have h := Lib.hid (Index_calls t n v w hv)
  clear hv
  go_enter Try.func191, Try.ntmps191
  go_wp2_with fail
  refine h.out.mono ?_
  rintro e w' ⟨⟨i, rfl, hi⟩, rfl⟩
  have hI := Lib.hid hi
  clear hi h
  go_wp2_with fail
  go_ret
  exact ⟨ret_bool hI.out, rfl⟩

/-! ### slices.Min -/
theorem Min_calls (t : List Int) (hne : t ≠ []) (v : Value) (w : World) (hv : IsInts Any w v t) :
    Calls Try.prog 193 #[v] w fun e w' => (∃ i : Int, e = .returned (.int .i64 i) ∧ decide (i < -4) = !(ownB t)) ∧ w = w' := by
  obtain ⟨hlen, ⟨rfl, a, c, rfl, -⟩ | ⟨-, b, o, c, rfl, -, -, hlt, hc⟩⟩ := hv
  · exact absurd rfl hne
  · have hpos : 0 < t.length := by cases t with | nil => exact absurd rfl hne | cons => simp
    have h1 : ((t.length : Int) < 1) = False := by simp; omega
    have hc0 := hc 0 hpos
    simp only [Nat.add_zero] at hc0
    have hC := Lib.hid hc
    clear hc
    go_enter Try.func193, Try.ntmps193
    go_wp2_with fail
    go_loop [3, 4] (fun m i => ∃ k : Nat, k ≤ t.length ∧ 1 ≤ k ∧ i = .int .i64 k ∧ ∃ z : Int, m = .int .i64 z ∧ (∃ j, j < k ∧ nth t j = z) ∧ ∀ j, j < k → z ≤ nth t j) (fun _ i => t.length - (intOf i).toNat)
    case atStart => exact ⟨1, hpos, Nat.le_refl _, rfl, _, rfl, ⟨0, by omega, rfl⟩, fun j hj => by rw [show j = 0 by omega]; exact Int.le_refl _⟩
    case round =>
      obtain ⟨k, hk, hk1, rfl, z, rfl, hz⟩ := hrel
      have hZ := Lib.hid hz
      clear hz
      by_cases hlt' : k < t.length
      · have hcell := hC.out k hlt'
        go_wp2_with fail
        go_round
        case rel =>
          refine ⟨k + 1, by omega, by omega, by go_num, _, rfl, ?_, fun j hj => ?_⟩
          · split
            · exact ⟨k, by omega, rfl⟩
            · obtain ⟨⟨j, hj, e⟩, -⟩ := hZ.out
              exact ⟨j, by omega, e⟩
          · by_cases e : j = k
            · subst e; split <;> omega
            · have := hZ.out.2 j (by omega)
              split <;> omega
        case measure => simp [intOf]; omega
      · have hkl : k = t.length := by omega
        subst hkl
        have hr : Hid (decide (z < -4) = !(ownB t)) := by
          obtain ⟨⟨j, hj, e⟩, hall⟩ := hZ.out
          rw [Hid]
          by_cases hz : z < -4
          · have : ownB t = false := by
              rw [ownB, List.all_eq_false]
              exact ⟨nth t j, nth_mem hj, by rw [e]; simpa using hz⟩
            rw [this]; simpa using hz
          · have : ownB t = true := by
              rw [ownB, List.all_eq_true]
              intro x hx
              obtain ⟨j, hj, rfl⟩ := List.getElem_of_mem hx
              have := hall j hj
              rw [nth_eq hj] at this
              simp; omega
            rw [this]; simpa using hz
        go_wp2_with fail
        go_ret
        exact ⟨⟨_, rfl, hr.out⟩, rfl⟩

/-! ### rules.Own -/
def ownL (ts : List (List Int)) : Bool := ts.all ownB
theorem Own_calls (ts : List (List Int)) (hne : ∀ t ∈ ts, t ≠ []) (v : Value) (w : World) (hv : IsTerms Any w v ts) :
    Calls Try.prog 160 #[v] w fun e w' => e = .returned (.bool (ownL ts)) ∧ w = w' := by
  obtain ⟨hlen, ⟨rfl, a, c, rfl, -⟩ | ⟨-, b, o, c, rfl, -, -, hlt, cs, he, hc⟩⟩ := hv
  · go_enter Try.func160, Try.ntmps160
    go_wp2_with fail
    refine wp_loop_rounds 1 ?_
    rw [rounds_succ]
    go_wp2_with fail
    go_ret
    exact ⟨rfl, rfl⟩
  · have hC : Hid (∀ j, j < ts.length → ∃ u, w.cell? ⟨b, o + j, none⟩ = some u ∧ IsInts Any w u (nthT ts j)) := fun j hj => terms_cell he hc hj
    have hN := Lib.hid hne
    clear hc he hne
    go_enter Try.func160, Try.ntmps160
    go_wp2_with fail
    go_loop [7] (fun i => ∃ k : Nat, k ≤ ts.length ∧ i = .int .i64 k ∧ ∀ j, j < k → ownB (nthT ts j) = true) (fun i => ts.length - (intOf i).toNat)
    case atStart => exact ⟨0, Nat.zero_le _, rfl, fun _ h => by omega⟩
    case round =>
      obtain ⟨k, hk, rfl, hp⟩ := hrel
      have hP := Lib.hid hp
      clear hp
      by_cases hlt' : k < ts.length
      · obtain ⟨u, hcell, hu⟩ := hC.out k hlt'
        have hM := Lib.hid (Min_calls _ (hN.out _ (nthT_mem hlt')) u w hu)
        clear hu
        go_wp2_with fail
        refine hM.out.mono ?_
        rintro e w' ⟨⟨i, rfl, hi⟩, rfl⟩
        cases hx : ownB (nthT ts k)
        · have hi' : i < -4 := by rw [hx] at hi; simpa using hi
          have hr : Hid (ownL ts = false) := by
            rw [Hid, ownL, List.all_eq_false]
            exact ⟨_, nthT_mem hlt', by simp [hx]⟩
          clear hM hi hx
          go_wp2_with fail
          go_ret
          exact ⟨ret_bool hr.out.symm, rfl⟩
        · have hi' : -4 ≤ i := by rw [hx] at hi; simpa using hi
          have hx' := Lib.hid hx
          clear hM hi hx
          go_wp2_with fail
          go_round
          case rel =>
            refine ⟨k + 1, by omega, by go_num, fun j hj => ?_⟩
            by_cases e : j = k
            · rw [e]; exact hx'.out
            · exact hP.out j (by omega)
          case measure => simp [intOf]; omega
      · have hkl : k = ts.length := by omega
        subst hkl
        have hr : Hid (ownL ts = true) := by
          rw [Hid, ownL, List.all_eq_true]
          intro x hx
          obtain ⟨j, hj, rfl⟩ := List.getElem_of_mem hx
          have := hP.out j hj
          rw [nthT_eq hj] at this
          exact this
        go_wp2_with fail
        go_ret
        exact ⟨ret_bool hr.out.symm, rfl⟩

/-! ### rules.one -/
theorem one1_calls (l : List Int) (n : Int) (B : Nat) (u : Value) (w : World) (hu : IsInts Any w u l) (hB : w.cell? ⟨B, 0, none⟩ = some u) :
    Calls Try.prog 190 #[.int .i64 n, .pointer (some ⟨B, 0, none⟩)] w fun e w' => e = .returned (.bool (decide (n < 0) && !(hasB l n))) ∧ w = w' := by
  have h := Lib.hid (Contains_calls l n u w hu)
  clear hu
  by_cases hn : n < 0
  · have hr : Hid ((decide (n < 0) && !(hasB l n)) = !(hasB l n)) := by rw [Hid]; simp [hn]
    go_enter Try.func190, Try.ntmps190
    go_wp2_with fail
    refine h.out.mono ?_
    rintro e w' ⟨rfl, rfl⟩
    go_wp2_with fail
    go_ret
    exact ⟨ret_bool hr.out.symm, rfl⟩
  · have hr : Hid ((decide (n < 0) && !(hasB l n)) = false) := by rw [Hid]; simp [hn]
    go_enter Try.func190, Try.ntmps190
    go_wp2_with fail
    go_ret
    exact ⟨ret_bool hr.out.symm, rfl⟩

/-- Two terms in a new slice. -/
theorem two_terms {w : World} {u v : Value} {a b : List Int} (hu : IsInts Any w u a) (hv : IsInts Any w v b) (e : TypeId) :
    IsTerms Any (w.alloc (.cells #[u, v] e)) (.slice (some ⟨w.heap.size, 0, none⟩) 2 2) [a, b] := by
  have hb := below_alloc w (.cells #[u, v] e)
  refine ⟨by simp, .inr ⟨by simp, w.heap.size, 0, 2, rfl, by simp, trivial, by simp, [u, v], ⟨[u], [v], rfl, rfl, ⟨u, rfl, (hu.below hb)⟩, [v], [], rfl, rfl, ⟨v, rfl, hv.below hb⟩, rfl⟩, fun j x hj => ?_⟩⟩
  rw [Nat.zero_add, World.cell?_alloc_at _ _ _ _ rfl]
  match j, hj with
  | 0, hj => simpa using hj
  | 1, hj => simpa using hj
  | j + 2, hj => simp at hj

set_option maxRecDepth 100000 in
theorem one_calls (r : List Int × List Int) (u v : Value) (w : World) (hu : IsInts Any w u r.1) (hv : IsInts Any w v r.2) :
    Calls Try.prog 157 #[.agg #[u, v]] w fun e w' => e = .returned (.int .i64 (ruleE r)) ∧ Below w.heap.size w w' := by
  have hb := below_alloc w (.cells #[u, v] 102)
  have h1 := Lib.hid (Both_calls r.1 r.2 u v _ (hu.below hb) (hv.below hb))
  by_cases h : chk2 r.1 r.2 = 0
  · have hn1 := ne_of_chk (chk2_zero h).1
    have hn2 := ne_of_chk (chk2_zero h).2
    have hbb := hb.trans ((below_alloc (w.alloc (.cells #[u, v] 102)) (.cells #[u, v] 24)).mono (by simp))
    have h2 := Lib.hid (Own_calls [r.1, r.2] (by simp [hn1, hn2]) _ _ (two_terms (hu.below hb) (hv.below hb) 24))
    rw [show (w.alloc (.cells #[u, v] 102)).heap.size = w.heap.size + 1 by simp] at h2
    have ho : ownL [r.1, r.2] = (ownB r.1 && ownB r.2) := by simp [ownL]
    have hB := Lib.hid hbb
    have h3 := Lib.hid (ContainsFunc_calls r.2 v 190 #[.pointer (some ⟨w.heap.size, 0, none⟩)] (fun n => decide (n < 0) && !(hasB r.1 n)) _ (hv.below hbb) (enters_fn Try.func190 (by kernel_rfl) rfl)
      (fun x _ => one1_calls r.1 x w.heap.size u _ (hu.below hbb) (((below_alloc _ _).cell (p := ⟨w.heap.size, 0, none⟩) (by simp)).trans (World.cell?_alloc_at _ _ _ _ rfl))))
    have hh := Lib.hid h
    cases hO : (ownB r.1 && ownB r.2)
    · have hr : Hid (ruleE r = 3) := by rw [Hid, ruleE, if_pos h, hO, if_neg (by simp)]
      rw [ho, hO] at h2
      clear h3 hO ho hbb hb hn1 hn2 h
      obtain ⟨a1, c1, rfl⟩ := hu.isSlice
      obtain ⟨a2, c2, rfl⟩ := hv.isSlice
      clear hu hv
      go_enter Try.func157, Try.ntmps157
      go_wp2_with fail
      refine h1.out.mono ?_
      rintro e w' ⟨rfl, rfl⟩
      rw [hh.out]
      go_wp2_with fail
      refine h2.out.mono ?_
      rintro e w' ⟨rfl, rfl⟩
      go_wp2_with fail
      go_ret
      exact ⟨ret_int hr.out.symm, hB.out⟩
    · rw [ho, hO] at h2
      obtain ⟨-, ⟨he, -⟩ | ⟨-, b, o, c, rfl, -, -, hlt, hc⟩⟩ := hu
      · exact absurd he hn1
      have hpos : 0 < r.1.length := by cases hq : r.1 with | nil => exact absurd hq hn1 | cons => simp
      have hc0 := hc 0 hpos
      simp only [Nat.add_zero] at hc0
      obtain ⟨a2, c2, rfl⟩ := hv.isSlice
      by_cases hneg : nth r.1 0 < 0
      · have hr : Hid (ruleE r = 1) := by rw [Hid, ruleE, if_pos h, hO, if_pos rfl, if_pos hneg]
        clear h3 hO ho hbb hn1 hn2 h hv hc
        go_enter Try.func157, Try.ntmps157
        go_wp2_with fail
        refine h1.out.mono ?_
        rintro e w' ⟨rfl, rfl⟩
        rw [hh.out]
        go_wp2_with fail
        refine h2.out.mono ?_
        rintro e w' ⟨rfl, rfl⟩
        go_wp2_with fail
        go_ret
        exact ⟨ret_int hr.out.symm, hB.out⟩
      · have hneg' : 0 ≤ nth r.1 0 := by omega
        cases hF : freeB r.1 r.2
        · have hr : Hid (ruleE r = 0) := by rw [Hid, ruleE, if_pos h, hO, if_pos rfl, if_neg hneg, hF, if_neg (by simp)]
          rw [show (r.2.any fun n => decide (n < 0) && !(hasB r.1 n)) = false from hF] at h3
          clear hO ho hbb hn1 hn2 h hv hc hneg hF
          go_enter Try.func157, Try.ntmps157
          go_wp2_with fail
          refine h1.out.mono ?_
          rintro e w' ⟨rfl, rfl⟩
          rw [hh.out]
          go_wp2_with fail
          refine h2.out.mono ?_
          rintro e w' ⟨rfl, rfl⟩
          go_wp2_with fail
          refine h3.out.mono ?_
          rintro e w' ⟨rfl, rfl⟩
          go_wp2_with fail
          go_ret
          exact ⟨ret_int hr.out.symm, hB.out⟩
        · have hr : Hid (ruleE r = 4) := by rw [Hid, ruleE, if_pos h, hO, if_pos rfl, if_neg hneg, hF, if_pos rfl]
          rw [show (r.2.any fun n => decide (n < 0) && !(hasB r.1 n)) = true from hF] at h3
          clear hO ho hbb hn1 hn2 h hv hc hneg hF
          go_enter Try.func157, Try.ntmps157
          go_wp2_with fail
          refine h1.out.mono ?_
          rintro e w' ⟨rfl, rfl⟩
          rw [hh.out]
          go_wp2_with fail
          refine h2.out.mono ?_
          rintro e w' ⟨rfl, rfl⟩
          go_wp2_with fail
          refine h3.out.mono ?_
          rintro e w' ⟨rfl, rfl⟩
          go_wp2_with fail
          go_ret
          exact ⟨ret_int hr.out.symm, hB.out⟩
  · have hr : Hid (ruleE r = chk2 r.1 r.2) := by rw [Hid, ruleE, if_neg h]
    have h' : (chk2 r.1 r.2 != 0) = true := by simpa using h
    obtain ⟨a1, c1, rfl⟩ := hu.isSlice
    obtain ⟨a2, c2, rfl⟩ := hv.isSlice
    clear hu hv h
    go_enter Try.func157, Try.ntmps157
    go_wp2_with fail
    refine h1.out.mono ?_
    rintro e w' ⟨rfl, rfl⟩
    clear h1
    go_wp2_with fail
    go_ret
    exact ⟨ret_int hr.out.symm, hb⟩

end Go.Proofs.Ytepddehodmljeaa

namespace Go.Proofs.Ytepddehodmljeaa
open Go.RowKit

theorem IsRules.cells {S : Blk} {w : World} {v : Value} {l : List (List Int × List Int)} (h : IsRules S w v l) : l.length ≤ 9223372036854775807 ∧ ((l = [] ∧ ∃ a c, v = .slice a 0 c) ∨
    ∃ b o c, v = .slice (some ⟨b, o, none⟩) l.length c ∧ b < w.heap.size ∧ S b ∧ ∀ j, j < l.length → ∃ u x, w.cell? ⟨b, o + j * 2, none⟩ = some u ∧ w.cell? ⟨b, o + j * 2 + 1, none⟩ = some x ∧ IsInts S w u (nthR l j).1 ∧ IsInts S w x (nthR l j).2) := by
  obtain ⟨hl, ⟨rfl, a, c, rfl, -⟩ | ⟨hne, b, o, c, rfl, -, hS, hlt, cs, he, hc⟩⟩ := h
  · exact ⟨hl, .inl ⟨rfl, a, c, rfl⟩⟩
  · exact ⟨hl, .inr ⟨b, o, c, rfl, hlt, hS, fun j hj => rules_cell he hc hj⟩⟩

theorem IsInts.cells' {S : Blk} {w : World} {v : Value} {t : List Int} (h : IsInts S w v t) : t = [] ∨
    ∃ b o c, v = .slice (some ⟨b, o, none⟩) t.length c ∧ b < w.heap.size ∧ ∀ j, j < t.length → w.cell? ⟨b, o + j, none⟩ = some (.int .i64 (nth t j)) := by
  obtain ⟨-, ⟨rfl, -⟩ | ⟨-, b, o, c, rfl, -, -, hlt, hc⟩⟩ := h
  · exact .inl rfl
  · exact .inr ⟨b, o, c, rfl, hlt, hc⟩

theorem RCheck_calls (l : List (List Int × List Int)) (v : Value) (w : World) (hv : IsRules Any w v l) :
    Calls Try.prog 91 #[v] w fun e w' => e = .returned (.int .i64 (rulesE l)) ∧ Below w.heap.size w w' := by
  by_cases h1 : 8 < l.length
  · obtain ⟨a, c, rfl⟩ := hv.isSlice
    have hr : Hid (rulesE l = 2) := by rw [Hid, rulesE, if_pos h1]
    have : 8 < (l.length : Int) := by omega
    clear hv
    go_enter Try.func91, Try.ntmps91
    go_wp2_with fail
    go_ret
    exact ⟨ret_int hr.out.symm, .refl _ _⟩
  · have h1' : (l.length : Int) ≤ 8 := by omega
    have hE : Hid (rulesE l = rulesL l) := by rw [Hid, rulesE, if_neg h1]
    obtain ⟨hlen, ⟨rfl, a, c, rfl⟩ | ⟨b, o, c, rfl, hlt, -, hc⟩⟩ := hv.cells
    · clear hv
      go_enter Try.func91, Try.ntmps91
      go_wp2_with fail
      refine wp_loop_rounds 1 ?_
      rw [rounds_succ]
      go_wp2_with fail
      go_ret
      exact ⟨rfl, .refl _ _⟩
    · have hC := Lib.hid hc
      clear hc hv h1
      go_enter Try.func91, Try.ntmps91
      go_wp2_with fail
      go_loopw [11] (fun i wr => ∃ k : Nat, k ≤ l.length ∧ i = .int .i64 k ∧ Hid (Below w.heap.size w wr ∧ ∀ j, j < k → ruleE (nthR l j) = 0)) (fun i _ => l.length - (intOf i).toNat)
      case atStart => exact ⟨0, Nat.zero_le _, rfl, .refl _ _, fun _ h => by omega⟩
      case round =>
        obtain ⟨k, hk, rfl, hR⟩ := hrel
        by_cases hlt' : k < l.length
        · obtain ⟨u, x, hu, hx, hiu, hix⟩ := hC.out k hlt'
          obtain ⟨a1, c1, e1⟩ := hiu.isSlice
          obtain ⟨a2, c2, e2⟩ := hix.isSlice
          subst e1 e2
          have hcu := (hR.out.1.cell (p := ⟨b, o + k * 2, none⟩) hlt).trans hu
          have hcx := (hR.out.1.cell (p := ⟨b, o + k * 2 + 1, none⟩) hlt).trans hx
          have hb1 := hR.out.1.trans ((below_alloc wr (.cells #[.slice a1 (nthR l k).1.length c1, .slice a2 (nthR l k).2.length c2] 102)).mono hR.out.1.size)
          have hO := Lib.hid (one_calls (nthR l k) _ _ (wr.alloc (.cells #[.slice a1 (nthR l k).1.length c1, .slice a2 (nthR l k).2.length c2] 102)) (hiu.below hb1) (hix.below hb1))
          have hB1 := Lib.hid hb1
          clear hiu hix hu hx hb1
          go_wp2_with fail
          refine hO.out.mono ?_
          rintro e w' ⟨rfl, hb2⟩
          have hB2 := Lib.hid (hB1.out.trans (hb2.mono hB1.out.size))
          clear hO hb2
          by_cases he : ruleE (nthR l k) = 0
          · have he' := Lib.hid he
            rw [he]
            clear he
            go_wp2_with fail
            go_roundw
            case rel =>
              refine ⟨k + 1, by omega, by go_num, hB2.out, fun j hj => ?_⟩
              by_cases e : j = k
              · rw [e]; exact he'.out
              · exact hR.out.2 j (by omega)
            case measure => simp [intOf]; omega
          · have he' : (ruleE (nthR l k) != 0) = true := by simpa using he
            have hr := Lib.hid (rulesL_first hlt' hR.out.2 he)
            clear he
            go_wp2_with fail
            go_ret
            exact ⟨ret_int (by rw [hE.out, hr.out]), hB2.out⟩
        · have hkl : k = l.length := by omega
          subst hkl
          have hr : Hid (rulesL l = 0) := by
            refine rulesL_zero.2 fun r hr => ?_
            obtain ⟨j, hj, rfl⟩ := List.getElem_of_mem hr
            have := hR.out.2 j hj
            rwa [nthR_eq hj] at this
          go_wp2_with fail
          go_ret
          exact ⟨ret_int (by rw [hE.out, hr.out]), hR.out.1⟩

def askE (l : List (List Int × List Int)) (t : List Int) : Int := if rulesE l = 0 then chk t else rulesE l
theorem Asked_calls (l : List (List Int × List Int)) (t : List Int) (v x : Value) (w : World) (hv : IsRules Any w v l) (hx : IsInts Any w x t) :
    Calls Try.prog 142 #[v, x] w fun e w' => e = .returned (.int .i64 (askE l t)) ∧ Below w.heap.size w w' := by
  have h1 := Lib.hid (RCheck_calls l v w hv)
  have h2 := Lib.hid fun W (hb : Below w.heap.size w W) => Check_calls t x W (hx.below hb)
  by_cases h : rulesE l = 0
  · have hr : Hid (askE l t = chk t) := by rw [Hid, askE, if_pos h]
    have hh := Lib.hid h
    clear hv hx h
    go_enter Try.func142, Try.ntmps142
    go_wp2_with fail
    refine h1.out.mono ?_
    rintro e w1 ⟨rfl, hB⟩
    have hC := Lib.hid (h2.out w1 hB)
    have hB' := Lib.hid hB
    rw [hh.out]
    clear h1 h2 hB
    go_wp2_with fail
    refine hC.out.mono ?_
    rintro e w' ⟨rfl, rfl⟩
    go_wp2_with fail
    go_ret
    exact ⟨ret_int hr.out.symm, hB'.out⟩
  · have hr : Hid (askE l t = rulesE l) := by rw [Hid, askE, if_neg h]
    have h' : (rulesE l != 0) = true := by simpa using h
    clear hv hx h h2
    go_enter Try.func142, Try.ntmps142
    go_wp2_with fail
    refine h1.out.mono ?_
    rintro e w1 ⟨rfl, hB⟩
    have hB' := Lib.hid hB
    clear h1 hB
    go_wp2_with fail
    go_ret
    exact ⟨ret_int hr.out.symm, hB'.out⟩

set_option maxHeartbeats 1000000 in
set_option maxRecDepth 100000 in
theorem RulesError_calls (l : List (List Int × List Int)) (v : Value) (w : World) (hv : IsRules Any w v l) :
    Calls Try.prog 61 #[v] w fun e w' => e = .returned (.int .i64 (rulesE l)) ∧ Below w.heap.size w w' := by
  by_cases h1 : 8 < l.length
  · obtain ⟨a, c, rfl⟩ := hv.isSlice
    have hr : Hid (rulesE l = 2) := by rw [Hid, rulesE, if_pos h1]
    have : 8 < (l.length : Int) := by omega
    clear hv
    go_enter Try.func61, Try.ntmps61
    go_wp2_with fail
    go_ret
    exact ⟨ret_int hr.out.symm, .refl _ _⟩
  · have h1' : (l.length : Int) ≤ 8 := by omega
    have hE : Hid (rulesE l = rulesL l) := by rw [Hid, rulesE, if_neg h1]
    obtain ⟨hlen, ⟨rfl, a, c, rfl⟩ | ⟨b, o, c, rfl, hlt, -, hc⟩⟩ := hv.cells
    · clear hv
      go_enter Try.func61, Try.ntmps61
      go_wp2_with fail
      refine wp_loop_rounds 1 ?_
      rw [rounds_succ]
      go_wp2_with fail
      go_ret
      exact ⟨rfl, .refl _ _⟩
    · have hC := Lib.hid hc
      clear hc hv h1
      go_enter Try.func61, Try.ntmps61
      go_wp2_with fail
      go_loopw [3] (fun i wr => ∃ k : Nat, k ≤ l.length ∧ i = .int .i64 k ∧ Hid (Below w.heap.size w wr ∧ ∀ j, j < k → ruleE (nthR l j) = 0)) (fun i _ => l.length - (intOf i).toNat)
      case atStart => exact ⟨0, Nat.zero_le _, rfl, .refl _ _, fun _ h => by omega⟩
      case round =>
        obtain ⟨k, hk, rfl, hR⟩ := hrel
        by_cases hlt' : k < l.length
        · obtain ⟨u, x, hu, hx, hiu, hix⟩ := hC.out k hlt'
          obtain ⟨a1, c1, e1⟩ := hiu.isSlice
          obtain ⟨a2, c2, e2⟩ := hix.isSlice
          subst e1 e2
          have hcu := (hR.out.1.cell (p := ⟨b, o + k * 2, none⟩) hlt).trans hu
          have hcx := (hR.out.1.cell (p := ⟨b, o + k * 2 + 1, none⟩) hlt).trans hx
          have hb1 := hR.out.1.trans ((below_alloc wr (.cells #[.slice a1 (nthR l k).1.length c1, .slice a2 (nthR l k).2.length c2] 102)).mono hR.out.1.size)
          have hO := Lib.hid (twoErrors_calls (nthR l k).1 (nthR l k).2 _ _ (wr.alloc (.cells #[.slice a1 (nthR l k).1.length c1, .slice a2 (nthR l k).2.length c2] 102)) (hiu.below hb1) (hix.below hb1))
          have hO1 := Lib.hid (own_calls (nthR l k).1 _ (wr.alloc (.cells #[.slice a1 (nthR l k).1.length c1, .slice a2 (nthR l k).2.length c2] 102)) (hiu.below hb1))
          have hO2 := Lib.hid (own_calls (nthR l k).2 _ (wr.alloc (.cells #[.slice a1 (nthR l k).1.length c1, .slice a2 (nthR l k).2.length c2] 102)) (hix.below hb1))
          have hU := Lib.hid (hiu.below hb1)
          have hX := Lib.hid (hix.below hb1)
          have hB1 := Lib.hid hb1
          clear hiu hix hu hx hb1
          have hfirst := Lib.hid (rulesL_first hlt' hR.out.2)
          cases hce : decide (chk2 (nthR l k).1 (nthR l k).2 = 0)
          · have h := of_decide_eq_false hce
            have hr : Hid (ruleE (nthR l k) = chk2 (nthR l k).1 (nthR l k).2) := by rw [Hid, ruleE, if_neg h]
            have h' : (chk2 (nthR l k).1 (nthR l k).2 != 0) = true := by simpa using h
            have hr2 := Lib.hid (hfirst.out (by rw [hr.out]; exact h))
            clear hce h hfirst
            go_wp2_with fail
            refine hO.out.mono ?_
            rintro e w' ⟨rfl, rfl⟩
            go_wp2_with fail
            go_ret
            exact ⟨ret_int (by rw [hE.out, hr2.out, hr.out]), hB1.out⟩
          · have hh := Lib.hid (of_decide_eq_true hce)
            clear hce
            cases ho1 : ownB (nthR l k).1
            · have hr : Hid (ruleE (nthR l k) = 3) := by rw [Hid, ruleE, if_pos hh.out, ho1, Bool.false_and, if_neg (by simp)]
              have hr2 := Lib.hid (hfirst.out (by rw [hr.out]; simp))
              rw [ho1] at hO1
              clear hfirst ho1
              go_wp2_with fail
              refine hO.out.mono ?_
              rintro e w' ⟨rfl, rfl⟩
              rw [hh.out]
              go_wp2_with fail
              refine hO1.out.mono ?_
              rintro e w' ⟨rfl, rfl⟩
              go_wp2_with fail
              go_ret
              exact ⟨ret_int (by rw [hE.out, hr2.out, hr.out]), hB1.out⟩
            · rw [ho1] at hO1
              cases ho2 : ownB (nthR l k).2
              · have hr : Hid (ruleE (nthR l k) = 3) := by rw [Hid, ruleE, if_pos hh.out, ho1, ho2, Bool.true_and, if_neg (by simp)]
                have hr2 := Lib.hid (hfirst.out (by rw [hr.out]; simp))
                rw [ho2] at hO2
                clear hfirst ho1 ho2
                go_wp2_with fail
                refine hO.out.mono ?_
                rintro e w' ⟨rfl, rfl⟩
                rw [hh.out]
                go_wp2_with fail
                refine hO1.out.mono ?_
                rintro e w' ⟨rfl, rfl⟩
                go_wp2_with fail
                refine hO2.out.mono ?_
                rintro e w' ⟨rfl, rfl⟩
                go_wp2_with fail
                go_ret
                exact ⟨ret_int (by rw [hE.out, hr2.out, hr.out]), hB1.out⟩
              · have hne1 := ne_of_chk (chk2_zero hh.out).1
                have hl30 := len_of_chk (chk2_zero hh.out).2
                rw [ho2] at hO2
                obtain ⟨-, ⟨he, -⟩ | ⟨-, b1, o1, c1', e1, -, -, hlt1, hc1⟩⟩ := hU.out
                · exact absurd he hne1
                cases e1
                have hpos : 0 < (nthR l k).1.length := by cases hq : (nthR l k).1 with | nil => exact absurd hq hne1 | cons => simp
                have hc10 := hc1 0 hpos
                simp only [Nat.add_zero] at hc10
                have ho12 := Lib.hid (And.intro ho1 ho2)
                have hrE : Hid (ruleE (nthR l k) = if nth (nthR l k).1 0 < 0 then 1 else if freeB (nthR l k).1 (nthR l k).2 = true then 4 else 0) := by
                  rw [Hid, ruleE, if_pos hh.out, ho1, ho2, Bool.true_and, if_pos rfl]
                clear ho1 ho2 hc1 hne1
                by_cases hneg : nth (nthR l k).1 0 < 0
                · have hr : Hid (ruleE (nthR l k) = 1) := by rw [Hid, hrE.out, if_pos hneg]
                  have hr2 := Lib.hid (hfirst.out (by rw [hr.out]; simp))
                  clear hfirst
                  go_wp2_with fail
                  refine hO.out.mono ?_
                  rintro e w' ⟨rfl, rfl⟩
                  rw [hh.out]
                  go_wp2_with fail
                  refine hO1.out.mono ?_
                  rintro e w' ⟨rfl, rfl⟩
                  go_wp2_with fail
                  refine hO2.out.mono ?_
                  rintro e w' ⟨rfl, rfl⟩
                  go_wp2_with fail
                  go_ret
                  exact ⟨ret_int (by rw [hE.out, hr2.out, hr.out]), hB1.out⟩
                · have hneg' : 0 ≤ nth (nthR l k).1 0 := by omega
                  have hng := Lib.hid hneg
                  clear hneg
                  go_wp2_with fail
                  refine hO.out.mono ?_
                  rintro e w' ⟨rfl, rfl⟩
                  rw [hh.out]
                  go_wp2_with fail
                  refine hO1.out.mono ?_
                  rintro e w' ⟨rfl, rfl⟩
                  go_wp2_with fail
                  refine hO2.out.mono ?_
                  rintro e w' ⟨rfl, rfl⟩
                  go_wp2_with fail
                  have hS := Lib.hid fun n W (hb : Below (wr.alloc (.cells #[.slice (some ⟨b1, o1, none⟩) (nthR l k).1.length c1, .slice a2 (nthR l k).2.length c2] 102)).heap.size (wr.alloc (.cells #[.slice (some ⟨b1, o1, none⟩) (nthR l k).1.length c1, .slice a2 (nthR l k).2.length c2] 102)) W) => stands_calls (nthR l k).1 n _ W (hU.out.below hb)
                  have hBC0 : Hid ((wr.alloc (.cells #[.slice (some ⟨b1, o1, none⟩) (nthR l k).1.length c1, .slice a2 (nthR l k).2.length c2] 102)).cell? ⟨wr.heap.size, 0, none⟩ = some (.slice (some ⟨b1, o1, none⟩) (nthR l k).1.length c1) ∧
                    (wr.alloc (.cells #[.slice (some ⟨b1, o1, none⟩) (nthR l k).1.length c1, .slice a2 (nthR l k).2.length c2] 102)).cell? ⟨wr.heap.size, 1, none⟩ = some (.slice a2 (nthR l k).2.length c2)) :=
                    ⟨World.cell?_alloc_at _ _ _ _ rfl, World.cell?_alloc_at _ _ _ _ rfl⟩
                  have hN := Lib.hid (hX.out.cells')
                  have hwz : wr.heap.size < (wr.alloc (.cells #[.slice (some ⟨b1, o1, none⟩) (nthR l k).1.length c1, .slice a2 (nthR l k).2.length c2] 102)).heap.size := by simp
                  clear hO hO1 hO2 hc10 hcu hcx hneg' hlt1
                  generalize hwn : (wr.alloc (.cells #[.slice (some ⟨b1, o1, none⟩) (nthR l k).1.length c1, .slice a2 (nthR l k).2.length c2] 102)) = wn at *
                  clear hwn
                  obtain ⟨wo, hwo⟩ : ∃ wo, wo = wr := ⟨_, rfl⟩
                  subst hwo
                  go_loopw [6] (fun i wi => ∃ m : Nat, m ≤ (nthR l k).2.length ∧ i = .int .i64 m ∧ Hid (Below wn.heap.size wn wi ∧ ∀ j, j < m → (decide (nth (nthR l k).2 j < 0) && !(hasB (nthR l k).1 (nth (nthR l k).2 j))) = false)) (fun i _ => (nthR l k).2.length - (intOf i).toNat)
                  case atStart => exact ⟨0, Nat.zero_le _, rfl, .refl _ _, fun _ h => by omega⟩
                  case round =>
                    obtain ⟨m, hm, rfl, hI⟩ := hrel
                    have hbc0 := (hI.out.1.cell (p := ⟨wo.heap.size, 0, none⟩) hwz).trans hBC0.out.1
                    have hbc1 := (hI.out.1.cell (p := ⟨wo.heap.size, 1, none⟩) hwz).trans hBC0.out.2
                    have hBi := Lib.hid (hB1.out.trans (hI.out.1.mono hB1.out.size))
                    by_cases hmt : m < (nthR l k).2.length
                    · rcases hN.out with hnil | ⟨b3, o3, c3, e3, hlt3, hc3⟩
                      · rw [hnil] at hmt; simp at hmt
                      cases e3
                      have hcm := (hI.out.1.cell (p := ⟨b3, o3 + m, none⟩) hlt3).trans (hc3 m hmt)
                      have hP := Lib.hid hI.out.2
                      by_cases hz : nth (nthR l k).2 m < 0
                      · have hz' : decide (nth (nthR l k).2 m < 0) = true := decide_eq_true hz
                        have hq : Hid (∀ n, Calls Try.prog 130 #[.slice (some ⟨b1, o1, none⟩) (nthR l k).1.length c1, .int .i64 (nth (nthR l k).2 m)] (wr.drewN n) fun e w' => e = .returned (.bool (hasB (nthR l k).1 (nth (nthR l k).2 m))) ∧ ∃ j, w' = (wr.drewN n).drewN j) := fun n =>
                          (hS.out _ (wr.drewN n) (hI.out.1.trans ((below_drewN _ _ _).mono hI.out.1.size))).mono fun e w' h => ⟨h.1, 0, h.2.symm⟩
                        cases hb : hasB (nthR l k).1 (nth (nthR l k).2 m)
                        · have hF : Hid (freeB (nthR l k).1 (nthR l k).2 = true) := by
                            rw [Hid, freeB, List.any_eq_true]
                            exact ⟨_, nth_mem hmt, by rw [hb, hz']; rfl⟩
                          have hr : Hid (ruleE (nthR l k) = 4) := by rw [Hid, hrE.out, if_neg (by have := hng.out; omega), if_pos hF.out]
                          have hr2 := Lib.hid (hfirst.out (by rw [hr.out]; simp))
                          rw [hb] at hq
                          clear hfirst hb hz hc3 hwz
                          go_wp2_with fail
                          go_quiet ((go_at_call 130; exact Calls.quiet_of (hq.out _)))
                          go_wp2_with fail
                          go_ret
                          exact ⟨ret_int (by rw [hE.out, hr2.out, hr.out]), ext_trans hBi.out (below_drewN _ _ _)⟩
                        · have hb' := Lib.hid hb
                          rw [hb] at hq
                          clear hfirst hb hz hc3 hwz
                          go_wp2_with fail
                          go_quiet ((go_at_call 130; exact Calls.quiet_of (hq.out _)))
                          go_wp2_with fail
                          go_roundw
                          case rel =>
                            refine ⟨m + 1, by omega, by go_num, ext_trans hI.out.1 (below_drewN _ _ _), fun j hj => ?_⟩
                            by_cases e : j = m
                            · rw [e, hb'.out]; simp
                            · exact hP.out j (by omega)
                          case measure => simp [intOf]; omega
                      · have hz' : decide (nth (nthR l k).2 m < 0) = false := decide_eq_false hz
                        have hz2 := Lib.hid hz'
                        clear hfirst hz hc3 hwz
                        go_wp2_with fail
                        go_quiet (fail)
                        go_wp2_with fail
                        go_roundw
                        case rel =>
                          refine ⟨m + 1, by omega, by go_num, ext_trans hI.out.1 (below_drewN _ _ _), fun j hj => ?_⟩
                          by_cases e : j = m
                          · rw [e, hz2.out]; rfl
                          · exact hP.out j (by omega)
                        case measure => simp [intOf]; omega
                    · obtain rfl : m = (nthR l k).2.length := by omega
                      have hF : Hid (freeB (nthR l k).1 (nthR l k).2 = false) := by
                        rw [Hid, freeB, List.any_eq_false]
                        intro x hx
                        obtain ⟨j, hj, rfl⟩ := List.getElem_of_mem hx
                        have := hI.out.2 j hj
                        rw [nth_eq hj] at this
                        simpa using this
                      have hr : Hid (ruleE (nthR l k) = 0) := by rw [Hid, hrE.out, if_neg (by have := hng.out; omega), hF.out, if_neg (by simp)]
                      clear hfirst hwz
                      go_wp2_with fail
                      go_roundw
                      case rel =>
                        refine ⟨k + 1, by omega, by go_num, hBi.out, fun j hj => ?_⟩
                        by_cases e : j = k
                        · rw [e]; exact hr.out
                        · exact hR.out.2 j (by omega)
                      case measure => simp [intOf]; omega
        · have hkl : k = l.length := by omega
          subst hkl
          have hr : Hid (rulesL l = 0) := by
            refine rulesL_zero.2 fun r hr => ?_
            obtain ⟨j, hj, rfl⟩ := List.getElem_of_mem hr
            have := hR.out.2 j hj
            rwa [nthR_eq hj] at this
          go_wp2_with fail
          go_ret
          exact ⟨ret_int (by rw [hE.out, hr.out]), hR.out.1⟩

end Go.Proofs.Ytepddehodmljeaa

namespace Go.Proofs.Ytepddehodmljeaa
open Go.RowKit

theorem fitL_right {p t : List Int} (hp : chk p = 0) (ht : chk t = 0) {s : List (List Int)} (h : fitL p t = some s) : RightS s := by
  unfold fitL at h
  cases hb : fitM (tmOf p) (tmOf t) [] with
  | none => rw [hb] at h; cases h
  | some bl => rw [hb] at h; cases h; exact outS_right hp ht hb

/-- Right rules. -/
def Rul (l : List (List Int × List Int)) : Prop := l.length ≤ 8 ∧ ∀ r ∈ l, ruleE r = 0
theorem rulesE_zero {l : List (List Int × List Int)} : rulesE l = 0 ↔ Rul l := by
  unfold rulesE Rul
  split
  · rename_i h; simp; omega
  · rename_i h; rw [rulesL_zero]; simp; omega
theorem ruleE_chk {r : List Int × List Int} (h : ruleE r = 0) : chk r.1 = 0 ∧ chk r.2 = 0 := by
  unfold ruleE at h
  split at h
  · rename_i h2; exact chk2_zero h2
  · contradiction
theorem Rul.chk {l : List (List Int × List Int)} (h : Rul l) {n : Nat} (hn : n < l.length) : chk (nthR l n).1 = 0 ∧ chk (nthR l n).2 = 0 := ruleE_chk (h.2 _ (nthR_mem hn))

/-! ### Steps -/
abbrev Stp := Nat × Nat × List Int
def StepR : Rep Stp := fun S w us s => ∃ v, us = [.int .i64 s.1, .int .i64 s.2.1, v] ∧ IsInts S w v s.2.2
theorem StepR.ok : Rep.Ok StepR := fun _ _ _ _ _ _ ⟨v, h, k⟩ hk => ⟨v, h, k.mono hk⟩
abbrev IsSteps (S : Blk) (w : World) (v : Value) (l : List Stp) : Prop := IsRow 3 StepR S w v l

def stp (l : List (List Int × List Int)) (t : List Int) (k n : Nat) : Option Stp := (fitL (nthR l n).1 (paT t k)).map fun s => (n, k, puT t k (app s (nthR l n).2))
def rowP (l : List (List Int × List Int)) (t : List Int) (k n : Nat) : List Stp := (List.range n).filterMap (stp l t k)
def allP (l : List (List Int × List Int)) (t : List Int) (k : Nat) : List Stp := (List.range k).flatMap fun k => rowP l t k l.length
def bigB (s : Stp) : Bool := decide (30 < s.2.2.length)
def stB (l : List (List Int × List Int)) (t : List Int) : Bool := (allP l t t.length).any bigB
def stE (l : List (List Int × List Int)) (t : List Int) : Int := if stB l t = true then 2 else 0
def stL (l : List (List Int × List Int)) (t : List Int) : List Stp := if stB l t = true then [] else allP l t t.length

theorem rowP_zero (l : List (List Int × List Int)) (t : List Int) (k : Nat) : rowP l t k 0 = [] := rfl
theorem rowP_none {l : List (List Int × List Int)} {t : List Int} {k n : Nat} (h : stp l t k n = none) : rowP l t k (n + 1) = rowP l t k n := by
  simp [rowP, List.range_succ, h]
theorem rowP_some {l : List (List Int × List Int)} {t : List Int} {k n : Nat} {s : Stp} (h : stp l t k n = some s) : rowP l t k (n + 1) = rowP l t k n ++ [s] := by
  simp [rowP, List.range_succ, h]
theorem allP_succ (l : List (List Int × List Int)) (t : List Int) (k : Nat) : allP l t (k + 1) = allP l t k ++ rowP l t k l.length := by
  simp [allP, List.range_succ]
theorem rowP_len (l : List (List Int × List Int)) (t : List Int) (k n : Nat) : (rowP l t k n).length ≤ n := by
  unfold rowP; exact Nat.le_trans (List.length_filterMap_le _ _) (by simp)
theorem allP_len (l : List (List Int × List Int)) (t : List Int) (hl : l.length ≤ 8) : ∀ k, (allP l t k).length ≤ 8 * k
  | 0 => by simp [allP]
  | k + 1 => by
    have := allP_len l t hl k
    have := rowP_len l t k l.length
    rw [allP_succ, List.length_append]; omega
theorem stB_hit {l : List (List Int × List Int)} {t : List Int} {k n : Nat} {s : Stp} (hk : k < t.length) (hn : n < l.length) (h : stp l t k n = some s) (hb : 30 < s.2.2.length) : stB l t = true := by
  unfold stB
  rw [List.any_eq_true]
  refine ⟨s, ?_, by simpa [bigB] using hb⟩
  unfold allP rowP
  rw [List.mem_flatMap]
  exact ⟨k, List.mem_range.2 hk, List.mem_filterMap.2 ⟨n, List.mem_range.2 hn, h⟩⟩
theorem stB_no {l : List (List Int × List Int)} {t : List Int} (h : (allP l t t.length).any bigB = false) : stE l t = 0 ∧ stL l t = allP l t t.length := by
  unfold stE stL stB; rw [h]; exact ⟨rfl, rfl⟩
theorem stB_yes {l : List (List Int × List Int)} {t : List Int} (h : stB l t = true) : stE l t = 2 ∧ stL l t = [] := by
  unfold stE stL; rw [h]; exact ⟨rfl, rfl⟩

theorem Try.inf96 : (Try.prog.info? 96).map (fun i => (i.zero, i.size, i.bytes)) = some (some (.agg #[.int .i64 0, .int .i64 0, .slice none 0 0]), 3, 40) := by kernel_rfl

set_option maxHeartbeats 1000000 in
set_option maxRecDepth 100000 in
theorem All_calls (l : List (List Int × List Int)) (t : List Int) (hl : Rul l) (ht : chk t = 0) (v x : Value) (w : World) (hv : IsRules Any w v l) (hx : IsInts Any w x t) :
    Calls Try.prog 155 #[v, x] w fun e w' => ∃ y, e = .returned (.tuple #[y, .int .i64 (stE l t)]) ∧ IsSteps (Fr w.heap.size) w' y (stL l t) ∧ Below w.heap.size w w' := by
  obtain ⟨i96, hi, hz, hsz, hby⟩ := info_parts Try.inf96
  have HV := Lib.hid hv
  have HX := Lib.hid hx
  have HL := Lib.hid hl
  have HT := Lib.hid ht
  have htl := len_of_chk ht
  have hll := hl.1
  have hC := Lib.hid hv.cells
  obtain ⟨lo, lc, e1⟩ := hv.isSlice
  obtain ⟨xo, xc, e2⟩ := hx.isSlice
  subst e1 e2
  clear hv hx hl ht
  go_enter Try.func155, Try.ntmps155
  go_wp2_with fail
  go_loopw [6, 17] (fun out i wr => ∃ k : Nat, k ≤ t.length ∧ i = .int .i64 k ∧ Hid (OwnRow w.heap.size 96 3 StepR (Fr w.heap.size) wr out (allP l t k) ∧ Below w.heap.size w wr ∧ (allP l t k).any bigB = false)) (fun _ i _ => t.length - (intOf i).toNat)
  case atStart => exact ⟨0, Nat.zero_le _, rfl, OwnRow.nil _ _ _ _, .refl _ _, rfl⟩
  case round =>
    obtain ⟨k, hk, rfl, hR⟩ := hrel
    by_cases hlt : k < t.length
    · have hp := part_at HT.out hlt
      have hA := Lib.hid (At_calls (Low Any w.heap.size) t (small_of_signs (signs_of_chk HT.out)) _ k (enT t k) wr (HX.out.low.mono ⟨hR.out.2.1.size, fun b hb hl => ⟨hb, hR.out.2.1.block b hl⟩⟩) hp.1 hp.2.1 hp.2.2.1)
      clear hp
      go_wp2_with fail
      refine hA.out.mono ?_
      rintro e w' ⟨pv, rfl, hpv, rfl⟩
      have hP : Hid (IsInts (Low Any w.heap.size) wr pv (paT t k)) := hpv
      clear hpv hA
      go_wp2_with fail
      obtain ⟨wo, hwo⟩ : ∃ wo, wo = wr := ⟨_, rfl⟩
      subst hwo
      go_loopw [6, 25] (fun out i wi => ∃ n : Nat, n ≤ l.length ∧ i = .int .i64 n ∧ Hid (OwnRow w.heap.size 96 3 StepR (Fr w.heap.size) wi out (allP l t k ++ rowP l t k n) ∧ Below w.heap.size w wi ∧ (∀ b, b < w.heap.size → wi.heap[b]? = wo.heap[b]?) ∧ wo.heap.size ≤ wi.heap.size ∧ (allP l t k ++ rowP l t k n).any bigB = false)) (fun _ i _ => l.length - (intOf i).toNat)
      case atStart => exact ⟨0, Nat.zero_le _, rfl, by rw [rowP_zero, List.append_nil]; exact hR.out.1, hR.out.2.1, fun _ _ => rfl, Nat.le_refl _, by rw [rowP_zero, List.append_nil]; exact hR.out.2.2⟩
      case round =>
        obtain ⟨n, hn, rfl, hI⟩ := hrel
        have hB0 := Lib.hid hI.out.2.1
        have hPr : Hid (IsInts Any wr pv (paT t k)) := hP.out.mono ⟨hI.out.2.2.2.1, fun b hb _ => ⟨trivial, hI.out.2.2.1 b hb.2⟩⟩
        by_cases hnl : n < l.length
        · rcases hC.out.2 with ⟨hl0, -⟩ | ⟨b, o, c, e, hbl, -, hcs⟩
          · rw [hl0] at hnl; simp at hnl
          cases e
          obtain ⟨u, x, hu, hx, hiu, hix⟩ := hcs n hnl
          obtain ⟨a1, c1, e1⟩ := hiu.isSlice
          obtain ⟨a2, c2, e2⟩ := hix.isSlice
          subst e1 e2
          have hcu := (hB0.out.cell (p := ⟨b, o + n * 2, none⟩) hbl).trans hu
          have hcx := (hB0.out.cell (p := ⟨b, o + n * 2 + 1, none⟩) hbl).trans hx
          obtain ⟨hch1, hch2⟩ := HL.out.chk hnl
          have hba := below_alloc wr (.cells #[.slice a1 (nthR l n).1.length c1, .slice a2 (nthR l n).2.length c2] 102)
          have hb1 := Lib.hid (hB0.out.trans (hba.mono hB0.out.size))
          have hW := Lib.hid (With_calls (nthR l n).1 (paT t k) hch1 (chk_paT HT.out hlt) _ pv (wr.alloc (.cells #[.slice a1 (nthR l n).1.length c1, .slice a2 (nthR l n).2.length c2] 102)) (hiu.below hb1.out) (hPr.out.below hba))
          have HX2 := Lib.hid (hix.below hb1.out)
          have hfr := Lib.hid fun σ (h : fitL (nthR l n).1 (paT t k) = some σ) => fitL_right hch1 (chk_paT HT.out hlt) h
          have hR2 := Lib.hid (And.intro (signs_of_chk hch2) (len_of_chk hch2))
          have hnn : (n : Int) < l.length := by omega
          clear hu hx hiu hix hcs hch1 hch2 hba
          go_wp2_with fail
          refine hW.out.mono ?_
          rintro e w2 ⟨y, rfl, hy, hB2⟩
          obtain ⟨ya, yc, rfl⟩ := hy.isSlice
          have HB2 := Lib.hid hB2
          have HX3 := Lib.hid (HX2.out.below hB2)
          have HT3 := Lib.hid (HX.out.below (ext_trans hb1.out hB2))
          have hbox : Hid (w2.cell? ⟨wr.heap.size, 1, none⟩ = some (.slice a2 (nthR l n).2.length c2)) := (hB2.cell (p := ⟨wr.heap.size, 1, none⟩) (by simp)).trans (World.cell?_alloc_at _ _ _ _ rfl)
          clear hB2 hW HX2
          cases hf : fitL (nthR l n).1 (paT t k) with
          | none =>
            have hN : Hid (rowP l t k (n + 1) = rowP l t k n) := rowP_none (by rw [stp, hf]; rfl)
            have hO2 := Lib.hid ((hI.out.1.below StepR.ok (below_alloc _ _)).below StepR.ok HB2.out)
            have hBo := Lib.hid (ext_trans hb1.out HB2.out)
            clear hy hfr hf
            go_wp2_with fail
            go_roundw
            case rel =>
              refine ⟨n + 1, by omega, by go_num, ?_, hBo.out, fun b hb => ?_, ?_, ?_⟩
              · rw [hN.out]; exact hO2.out
              · rw [hBo.out.block b hb, ← hI.out.2.1.block b hb]; exact hI.out.2.2.1 b hb
              · exact Nat.le_trans hI.out.2.2.2.1 (ext_trans (below_alloc wr _) HB2.out).size
              · rw [hN.out]; exact hI.out.2.2.2.2
            case measure => simp [intOf]; omega
          | some σ =>
            rw [hf] at hy
            have hσ := Lib.hid (hfr.out σ hf)
            have hN : Hid (stp l t k n = some (n, k, puT t k (app σ (nthR l n).2))) := by rw [Hid, stp, hf]; rfl
            have hBy := Lib.hid (By_calls σ (nthR l n).2 _ _ w2 hσ.out hR2.out.1 (by have := hR2.out.2; omega) (hy.any TermR.ok) HX3.out)
            have hcb := hbox.out
            simp only [Option.isSome_some, Option.getD_some]
            clear hy hfr hf
            have hO2 := Lib.hid ((hI.out.1.below StepR.ok (below_alloc _ _)).below StepR.ok HB2.out)
            have hBo := Lib.hid (ext_trans hb1.out HB2.out)
            go_wp2_with fail
            refine hBy.out.mono ?_
            rintro e w3 ⟨z, rfl, hz3, hB3⟩
            obtain ⟨za, zc, rfl⟩ := hz3.isSlice
            have hLa := Lib.hid (Laid_calls t (app σ (nthR l n).2) _ _ k w3 HT.out (by have := app_len hσ.out hR2.out.1; have := hR2.out.2; omega) hlt (HT3.out.below hB3) hz3.any)
            have hO3 := Lib.hid (hO2.out.below StepR.ok hB3)
            have hsz3 : Hid (w2.heap.size ≤ w3.heap.size) := hB3.size
            have hBo3 := Lib.hid (ext_trans hBo.out hB3)
            clear hz3 hB3 hBy hO2 hBo
            go_wp2_with fail
            refine hLa.out.mono ?_
            rintro e w4 ⟨z4, rfl, hz4, hB4⟩
            obtain ⟨qa, qc, rfl⟩ := hz4.isSlice
            have hO4 := Lib.hid (hO3.out.below StepR.ok hB4)
            have hsz4 : Hid (wr.heap.size ≤ w4.heap.size) := Nat.le_trans (ext_trans (below_alloc wr (.cells #[.slice a1 (nthR l n).1.length c1, .slice a2 (nthR l n).2.length c2] 102)) HB2.out).size (Nat.le_trans hsz3.out hB4.size)
            have hBo4 := Lib.hid (ext_trans hBo3.out hB4)
            have hZ4 := Lib.hid hz4
            have hw3 : w.heap.size ≤ w3.heap.size := hBo3.out.size
            have hwr3 : ∀ b, u6.ownBlock = some b → b < w3.heap.size := fun b hb => (hO3.out.block b hb).2
            clear hLa hB4 hO3 hBo3 hz4
            by_cases hbig : 30 < (puT t k (app σ (nthR l n).2)).length
            · have hF := Lib.hid (Fits_big _ _ w4 hZ4.out.any hbig)
              have hE := Lib.hid (stB_yes (stB_hit hlt hnl hN.out hbig))
              clear hbig
              go_wp2_with fail
              refine hF.out.mono ?_
              rintro e w' ⟨rfl, rfl⟩
              go_wp2_with fail
              go_ret2
              rw [hE.out.1, hE.out.2]
              exact ⟨_, rfl, .nil _ _, hBo4.out⟩
            · have hF := Lib.hid (Fits_ok _ _ w4 hZ4.out.any (by omega))
              have hN2 := Lib.hid (rowP_some hN.out)
              have hsm := Lib.hid hbig
              clear hbig
              go_wp2_with fail
              refine hF.out.mono ?_
              rintro e w' ⟨rfl, rfl⟩
              have hel : Hid (StepR (Both' (Fr w.heap.size) (Off u6)) w4 [.int .i64 n, .int .i64 k, .slice qa (puT t k (app σ (nthR l n).2)).length qc] (n, k, puT t k (app σ (nthR l n).2))) :=
                ⟨_, rfl, hZ4.out.mono (.weak fun b hb => by
                  have h1 : w3.heap.size ≤ b := hb
                  exact ⟨by show w.heap.size ≤ b; omega, fun e => by have := hwr3 b e; omega⟩)⟩
              have hl1 : Hid (((allP l t k ++ rowP l t k n).length + 1) * 40 ≤ 100000000) := by
                have := allP_len l t hll k
                have := rowP_len l t k n
                rw [Hid, List.length_append]; omega
              have hw4 : Hid (w.heap.size ≤ w4.heap.size) := hBo4.out.size
              go_wp2_with (at_builtin; refine app_one StepR.ok _ _ 92 rfl rfl w.heap.size 96 i96 (.agg #[.int .i64 0, .int .i64 0, .slice none 0 0]) 40 Try.underlying92 hi hz hsz hby rfl (by decide) hO4.out (us := [.int .i64 n, .int .i64 k, .slice qa (puT t k (app σ (nthR l n).2)).length qc]) (y := (n, k, puT t k (app σ (nthR l n).2))) rfl rfl rfl ?c1 hel.out hl1.out (by decide) hw4.out ?c4; rotate_left 1; intro v' w5 hown5 hb5 hk5 _)
              case c1 => intro u hu; simp at hu; rcases hu with rfl | rfl | rfl <;> rfl
              go_roundw
              case rel =>
                have hb6 := hBo4.out.trans hb5
                refine ⟨n + 1, by omega, by go_num, ?_, hb6, fun b hb => ?_, ?_, ?_⟩
                · rw [hN2.out, ← List.append_assoc]; exact hown5
                · rw [hb6.block b hb, ← hI.out.2.1.block b hb]; exact hI.out.2.2.1 b hb
                · exact Nat.le_trans hI.out.2.2.2.1 (Nat.le_trans hsz4.out hk5.size)
                · rw [hN2.out, ← List.append_assoc, List.any_append, hI.out.2.2.2.2]
                  simp [bigB]; have := hsm.out; omega
              case measure => simp [intOf]; omega
        · obtain rfl : n = l.length := by omega
          have hN := Lib.hid (allP_succ l t k)
          go_wp2_with fail
          go_roundw
          case rel =>
            refine ⟨k + 1, by omega, by go_num, ?_, hB0.out, ?_⟩
            · rw [hN.out]; exact hI.out.1
            · rw [hN.out]; exact hI.out.2.2.2.2
          case measure => simp [intOf]; omega
    · obtain rfl : k = t.length := by omega
      have hE := Lib.hid (stB_no hR.out.2.2)
      go_wp2_with fail
      go_ret2
      rw [hE.out.1, hE.out.2]
      refine ⟨_, rfl, hR.out.1.isRow StepR.ok (fun b h => h) (fun b h => h) ?_, hR.out.2.1⟩
      have := allP_len l t hll t.length
      omega

end Go.Proofs.Ytepddehodmljeaa

namespace Go.Proofs.Ytepddehodmljeaa
open Go.RowKit

set_option maxHeartbeats 2000000 in
set_option maxRecDepth 100000 in
theorem steps_calls (l : List (List Int × List Int)) (t : List Int) (hl : Rul l) (ht : chk t = 0) (v x : Value) (w : World) (hv : IsRules Any w v l) (hx : IsInts Any w x t) :
    Calls Try.prog 158 #[v, x] w fun e w' => ∃ y, e = .returned (.tuple #[y, .int .i64 (stE l t)]) ∧ IsSteps (Fr w.heap.size) w' y (stL l t) ∧ Below w.heap.size w w' := by
  obtain ⟨i96, hi, hz, hsz, hby⟩ := info_parts Try.inf96
  have HX := Lib.hid hx
  have HL := Lib.hid hl
  have HT := Lib.hid ht
  have htl := len_of_chk ht
  have hll := hl.1
  have hC := Lib.hid hv.cells
  obtain ⟨lo, lc, e1⟩ := hv.isSlice
  obtain ⟨xo, xc, e2⟩ := hx.isSlice
  subst e1 e2
  clear hv hx hl ht
  go_enter Try.func158, Try.ntmps158
  go_wp2_with fail
  go_loopw [6, 7] (fun out i wr => ∃ k : Nat, k ≤ t.length ∧ i = .int .i64 k ∧ Hid (OwnRow w.heap.size 96 3 StepR (Fr w.heap.size) wr out (allP l t k) ∧ Below w.heap.size w wr ∧ (allP l t k).any bigB = false)) (fun _ i _ => t.length - (intOf i).toNat)
  case atStart => exact ⟨0, Nat.zero_le _, rfl, OwnRow.nil _ _ _ _, .refl _ _, rfl⟩
  case round =>
    obtain ⟨k, hk, rfl, hR⟩ := hrel
    by_cases hlt : k < t.length
    · have hkk : (k : Int) < t.length := by omega
      go_wp2_with fail
      obtain ⟨wo, hwo⟩ : ∃ wo, wo = wr := ⟨_, rfl⟩
      subst hwo
      go_loopw [6, 8] (fun out i wi => ∃ n : Nat, n ≤ l.length ∧ i = .int .i64 n ∧ Hid (OwnRow w.heap.size 96 3 StepR (Fr w.heap.size) wi out (allP l t k ++ rowP l t k n) ∧ Below w.heap.size w wi ∧ (allP l t k ++ rowP l t k n).any bigB = false)) (fun _ i _ => l.length - (intOf i).toNat)
      case atStart => exact ⟨0, Nat.zero_le _, rfl, by rw [rowP_zero, List.append_nil]; exact hR.out.1, hR.out.2.1, by rw [rowP_zero, List.append_nil]; exact hR.out.2.2⟩
      case round =>
        obtain ⟨n, hn, rfl, hI⟩ := hrel
        have hB0 := Lib.hid hI.out.2.1
        by_cases hnl : n < l.length
        · rcases hC.out.2 with ⟨hl0, -⟩ | ⟨b, o, c, e, hbl, -, hcs⟩
          · rw [hl0] at hnl; simp at hnl
          cases e
          obtain ⟨u, x, hu, hx, hiu, hix⟩ := hcs n hnl
          obtain ⟨a1, c1, e1⟩ := hiu.isSlice
          obtain ⟨a2, c2, e2⟩ := hix.isSlice
          subst e1 e2
          have hcu := (hB0.out.cell (p := ⟨b, o + n * 2, none⟩) hbl).trans hu
          obtain ⟨hch1, hch2⟩ := HL.out.chk hnl
          have hfr := Lib.hid fun σ (h : fitL (nthR l n).1 (paT t k) = some σ) => fitL_right hch1 (chk_paT HT.out hlt) h
          have hR2 := Lib.hid (And.intro (signs_of_chk hch2) (len_of_chk hch2))
          have hP1 := Lib.hid fun W (h : Below w.heap.size w W) => partOf_calls t HT.out (.slice xo t.length xc) k hlt W (HX.out.mono ⟨h.size, fun b _ hb => ⟨trivial, h.block b hb⟩⟩)
          have hP2 := Lib.hid fun W y (h : Below w.heap.size w W) hy => fitted_calls (nthR l n).1 (paT t k) hch1 (chk_paT HT.out hlt) (.slice a1 (nthR l n).1.length c1) y W (hiu.mono ⟨h.size, fun b _ hb => ⟨trivial, h.block b hb⟩⟩) hy
          have hX2 := Lib.hid (And.intro hx hix)
          have hnn : (n : Int) < l.length := by omega
          have hcD : Hid (∀ W, Below w.heap.size w W → W.cell? ⟨b, o + n * 2, none⟩ = some (.slice a1 (nthR l n).1.length c1)) := fun W h => (h.cell (p := ⟨b, o + n * 2, none⟩) hbl).trans hu
          clear hu hx hiu hix hcs hch1 hch2
          go_wp2_with fail
          go_cut [9, 10] (fun s9 s10 wx => ∃ yo yc, s9 = .slice yo ((fitL (nthR l n).1 (paT t k)).getD []).length yc ∧ s10 = .bool (fitL (nthR l n).1 (paT t k)).isSome ∧ Hid (IsTerms Any wx s9 ((fitL (nthR l n).1 (paT t k)).getD []) ∧ Below wr.heap.size wr wx))
          case first =>
            have hA1 := Lib.hid (hP1.out wr hB0.out)
            have hA2 := Lib.hid (hP1.out wr.drew (ext_trans hB0.out (below_drew _ wr)))
            go_region_with (first
              | (go_at_call 112; (with_reducible refine hA1.out.mono ?_); rintro e wa ⟨y, rfl, hy, hBa⟩; have hBw := ext_trans hB0.out hBa; have hG := Lib.hid (hP2.out wa y hBw hy.any); have hcq := hcD.out wa hBw; have HBa := Lib.hid hBa; clear hy)
              | (go_at_call 112; (with_reducible refine hA2.out.mono ?_); rintro e wa ⟨y, rfl, hy, hBa⟩; have hBw := ext_trans hB0.out (ext_trans (below_drew _ wr) hBa); have hG := Lib.hid (hP2.out wa y hBw hy.any); have hcq := hcD.out wa hBw; have HBa := Lib.hid (ext_trans (below_drew _ wr) hBa); clear hy)
              | (go_at_call 110; refine hG.out.mono ?_; rintro e wb ⟨z, rfl, hz5, hBb⟩; obtain ⟨z1, z2, rfl⟩ := hz5.isSlice; have hZ := Lib.hid (And.intro (hz5.any TermR.ok) (ext_trans HBa.out hBb)); clear hz5))
            all_goals (go_wp2_with fail; go_meet; case rel => exact ⟨_, _, rfl, rfl, hZ.out⟩)
          case rest =>
            obtain ⟨ya, yc, rfl, rfl, hc⟩ := hcut
            have hBc := Lib.hid (ext_trans hB0.out hc.out.2)
            have hO2 := Lib.hid (hI.out.1.below StepR.ok hc.out.2)
            have hcx : wc.cell? ⟨b, o + n * 2 + 1, none⟩ = some (.slice a2 (nthR l n).2.length c2) := (hBc.out.cell (p := ⟨b, o + n * 2 + 1, none⟩) hbl).trans hX2.out.1
            have HX3 := Lib.hid (hX2.out.2.mono (S' := Any) (w' := wc) ⟨hBc.out.size, fun b _ hb => ⟨trivial, hBc.out.block b hb⟩⟩)
            have HT3 := Lib.hid (HX.out.mono (S' := Any) (w' := wc) ⟨hBc.out.size, fun b _ hb => ⟨trivial, hBc.out.block b hb⟩⟩)
            clear hcu hP1 hP2 hcD
            cases hf : fitL (nthR l n).1 (paT t k) with
            | none =>
              have hN : Hid (rowP l t k (n + 1) = rowP l t k n) := rowP_none (by rw [stp, hf]; rfl)
              clear hfr hf
              go_wp2_with fail
              go_roundw
              case rel =>
                refine ⟨n + 1, by omega, by go_num, ?_, hBc.out, ?_⟩
                · rw [hN.out]; exact hO2.out
                · rw [hN.out]; exact hI.out.2.2
              case measure => simp [intOf]; omega
            | some σ =>
              rw [hf] at hc
              have hσ := Lib.hid (hfr.out σ hf)
              have hN : Hid (stp l t k n = some (n, k, puT t k (app σ (nthR l n).2))) := by rw [Hid, stp, hf]; rfl
              have hBy := Lib.hid (applied_calls σ (nthR l n).2 _ _ wc hσ.out hR2.out.1 (by have := hR2.out.2; omega) hc.out.1 HX3.out)
              have hIN := Lib.hid hI.out.2.2
              simp only [Option.isSome_some, Option.getD_some]
              clear hc hfr hf hI
              go_wp2_with fail
              refine hBy.out.mono ?_
              rintro e w3 ⟨z, rfl, hz3, hB3⟩
              obtain ⟨za, zc, rfl⟩ := hz3.isSlice
              have hLa := Lib.hid (put_calls t (app σ (nthR l n).2) HT.out (by have := app_len hσ.out hR2.out.1; have := hR2.out.2; omega) _ _ k hlt w3 (HT3.out.below hB3) hz3.any)
              have hO3 := Lib.hid (hO2.out.below StepR.ok hB3)
              have hBo3 := Lib.hid (ext_trans hBc.out hB3)
              clear hz3 hB3 hBy hO2 hBc
              go_wp2_with fail
              refine hLa.out.mono ?_
              rintro e w4 ⟨z4, rfl, hz4, hB4⟩
              obtain ⟨qa, qc, rfl⟩ := hz4.isSlice
              have hO4 := Lib.hid (hO3.out.below StepR.ok hB4)
              have hBo4 := Lib.hid (ext_trans hBo3.out hB4)
              have hZ4 := Lib.hid hz4
              have hw3 : w.heap.size ≤ w3.heap.size := hBo3.out.size
              have hwr3 : ∀ b, u6.ownBlock = some b → b < w3.heap.size := fun b hb => (hO3.out.block b hb).2
              clear hLa hB4 hO3 hBo3 hz4
              by_cases hbig : 30 < (puT t k (app σ (nthR l n).2)).length
              · have hE := Lib.hid (stB_yes (stB_hit hlt hnl hN.out hbig))
                have hbi : (30 : Int) < (puT t k (app σ (nthR l n).2)).length := by omega
                clear hbig
                go_wp2_with fail
                go_ret2
                rw [hE.out.1, hE.out.2]
                exact ⟨_, rfl, .nil _ _, hBo4.out⟩
              · have hN2 := Lib.hid (rowP_some hN.out)
                have hsm := Lib.hid hbig
                have hbi : ((puT t k (app σ (nthR l n).2)).length : Int) ≤ 30 := by omega
                clear hbig
                have hel : Hid (StepR (Both' (Fr w.heap.size) (Off u6)) w4 [.int .i64 n, .int .i64 k, .slice qa (puT t k (app σ (nthR l n).2)).length qc] (n, k, puT t k (app σ (nthR l n).2))) :=
                  ⟨_, rfl, hZ4.out.mono (.weak fun b hb => by
                    have h1 : w3.heap.size ≤ b := hb
                    exact ⟨by show w.heap.size ≤ b; omega, fun e => by have := hwr3 b e; omega⟩)⟩
                have hl1 : Hid (((allP l t k ++ rowP l t k n).length + 1) * 40 ≤ 100000000) := by
                  have := allP_len l t hll k
                  have := rowP_len l t k n
                  rw [Hid, List.length_append]; omega
                have hw4 : Hid (w.heap.size ≤ w4.heap.size) := hBo4.out.size
                go_wp2_with (at_builtin; refine app_one StepR.ok _ _ 92 rfl rfl w.heap.size 96 i96 (.agg #[.int .i64 0, .int .i64 0, .slice none 0 0]) 40 Try.underlying92 hi hz hsz hby rfl (by decide) hO4.out (us := [.int .i64 n, .int .i64 k, .slice qa (puT t k (app σ (nthR l n).2)).length qc]) (y := (n, k, puT t k (app σ (nthR l n).2))) rfl rfl rfl ?c1 hel.out hl1.out (by decide) hw4.out ?c4; rotate_left 1; intro v' w5 hown5 hb5 hk5 _)
                case c1 => intro u hu; simp at hu; rcases hu with rfl | rfl | rfl <;> rfl
                go_roundw
                case rel =>
                  have hb6 := hBo4.out.trans hb5
                  refine ⟨n + 1, by omega, by go_num, ?_, hb6, ?_⟩
                  · rw [hN2.out, ← List.append_assoc]; exact hown5
                  · rw [hN2.out, ← List.append_assoc, List.any_append, hIN.out]
                    simp [bigB]; have := hsm.out; omega
                case measure => simp [intOf]; omega
        · obtain rfl : n = l.length := by omega
          have hN := Lib.hid (allP_succ l t k)
          go_wp2_with fail
          go_roundw
          case rel =>
            refine ⟨k + 1, by omega, by go_num, ?_, hB0.out, ?_⟩
            · rw [hN.out]; exact hI.out.1
            · rw [hN.out]; exact hI.out.2.2
          case measure => simp [intOf]; omega
    · obtain rfl : k = t.length := by omega
      have hE := Lib.hid (stB_no hR.out.2.2)
      go_wp2_with fail
      go_ret2
      rw [hE.out.1, hE.out.2]
      refine ⟨_, rfl, hR.out.1.isRow StepR.ok (fun b h => h) (fun b h => h) ?_, hR.out.2.1⟩
      have := allP_len l t hll t.length
      omega

end Go.Proofs.Ytepddehodmljeaa

namespace Go.Proofs.Ytepddehodmljeaa

abbrev Rus := List (List Int × List Int)

/-- From a term on, n steps behind the start, f of them left: the form, how many steps, the error. -/
def ofR (l : Rus) : Nat → Nat → List Int → List Int × Nat × Int
  | 0, n, t => if stE l t = 0 then (match stL l t with | [] => (t, n, 0) | _ :: _ => ([], 0, 2)) else ([], 0, stE l t)
  | f + 1, n, t => if stE l t = 0 then (match stL l t with | [] => (t, n, 0) | s :: _ => ofR l f (n + 1) s.2.2) else ([], 0, stE l t)

theorem ofR_err {l : Rus} {t : List Int} (h : stE l t ≠ 0) (f n : Nat) : ofR l f n t = ([], 0, stE l t) := by
  cases f <;> rw [ofR, if_neg h]
theorem ofR_end {l : Rus} {t : List Int} (h : stE l t = 0) (h2 : stL l t = []) (f n : Nat) : ofR l f n t = (t, n, 0) := by
  cases f <;> rw [ofR, if_pos h, h2]
theorem ofR_many {l : Rus} {t : List Int} (h : stE l t = 0) {s : Stp} {r : List Stp} (h2 : stL l t = s :: r) (n : Nat) : ofR l 0 n t = ([], 0, 2) := by
  rw [ofR, if_pos h, h2]
theorem ofR_step {l : Rus} {t : List Int} (h : stE l t = 0) {s : Stp} {r : List Stp} (h2 : stL l t = s :: r) (f n : Nat) : ofR l (f + 1) n t = ofR l f (n + 1) s.2.2 := by
  rw [ofR, if_pos h, h2]

def formE (l : Rus) (t : List Int) : Int := if askE l t = 0 then (ofR l 60 0 t).2.2 else askE l t
def formT (l : Rus) (t : List Int) : List Int := if askE l t = 0 then (ofR l 60 0 t).1 else []
def formN (l : Rus) (t : List Int) : Nat := if askE l t = 0 then (ofR l 60 0 t).2.1 else 0
def stepsE (l : Rus) (t : List Int) : Int := if askE l t = 0 then stE l t else askE l t
def stepsL (l : Rus) (t : List Int) : List Stp := if askE l t = 0 then stL l t else []
def isB (l : Rus) (t : List Int) : Bool := decide (stepsE l t = 0) && (stepsL l t).isEmpty

theorem stE_two (l : Rus) (t : List Int) : stE l t = 0 ∨ stE l t = 2 := by
  unfold stE; split
  · exact .inr rfl
  · exact .inl rfl
theorem stL_of {l : Rus} {t : List Int} (h : stE l t = 0) : stL l t = allP l t t.length ∧ ∀ s ∈ allP l t t.length, s.2.2.length ≤ 30 := by
  cases hb : (allP l t t.length).any bigB with
  | true =>
    have : stE l t = 2 := by unfold stE stB; rw [hb]; rfl
    omega
  | false =>
    refine ⟨(stB_no hb).2, fun s hs => ?_⟩
    have := List.any_eq_false.1 hb s hs
    simpa [bigB] using this
theorem stL_err {l : Rus} {t : List Int} (h : stE l t ≠ 0) : stL l t = [] := by
  cases hb : (allP l t t.length).any bigB with
  | true => exact (stB_yes hb).2
  | false => exact absurd (stB_no hb).1 h

theorem mem_all {l : Rus} {t : List Int} {s : Stp} : s ∈ allP l t t.length ↔ ∃ k, k < t.length ∧ ∃ n, n < l.length ∧ stp l t k n = some s := by
  unfold allP rowP
  rw [List.mem_flatMap]
  constructor
  · rintro ⟨k, hk, hs⟩
    obtain ⟨n, hn, hs⟩ := List.mem_filterMap.1 hs
    exact ⟨k, List.mem_range.1 hk, n, List.mem_range.1 hn, hs⟩
  · rintro ⟨k, hk, n, hn, hs⟩
    exact ⟨k, List.mem_range.2 hk, List.mem_filterMap.2 ⟨n, List.mem_range.2 hn, hs⟩⟩

theorem stp_some {l : Rus} {t : List Int} {k n : Nat} {s : Stp} (h : stp l t k n = some s) : ∃ σ, fitL (nthR l n).1 (paT t k) = some σ ∧ s = (n, k, puT t k (app σ (nthR l n).2)) := by
  unfold stp at h
  cases hf : fitL (nthR l n).1 (paT t k) with
  | none => rw [hf] at h; cases h
  | some σ => rw [hf] at h; cases h; exact ⟨σ, rfl, rfl⟩

theorem puT_len_le (t : List Int) (k : Nat) (u : List Int) : u.length ≤ (puT t k u).length := by
  simp [puT]; omega

/-- What a step leads to is a right term. -/
theorem step_chk {l : Rus} {t : List Int} (hl : Rul l) (ht : chk t = 0) {s : Stp} (hs : s ∈ allP l t t.length) (h30 : s.2.2.length ≤ 30) : chk s.2.2 = 0 := by
  obtain ⟨k, hk, n, hn, he⟩ := mem_all.1 hs
  obtain ⟨σ, hf, rfl⟩ := stp_some he
  obtain ⟨h1, h2⟩ := hl.chk hn
  have h30' : (puT t k (app σ (nthR l n).2)).length ≤ 30 := h30
  have := puT_len_le t k (app σ (nthR l n).2)
  exact chk_puT ht (chk_app (fitL_right h1 (chk_paT ht hk) hf) h2 (by omega)) hk h30'
theorem step_chk' {l : Rus} {t : List Int} (hl : Rul l) (ht : chk t = 0) (h : stE l t = 0) {s : Stp} (hs : s ∈ stL l t) : chk s.2.2 = 0 := by
  obtain ⟨h1, h2⟩ := stL_of h
  rw [h1] at hs
  exact step_chk hl ht hs (h2 s hs)

theorem ofR_zero {l : Rus} : ∀ (f n : Nat) (t x : List Int) (m : Nat), ofR l f n t = (x, m, 0) → stE l t = 0 := by
  intro f n t x m h
  rcases stE_two l t with h1 | h1
  · exact h1
  · rw [ofR_err (by omega)] at h
    have := congrArg (fun p => p.2.2) h
    simp at this; omega

theorem ofR_shift {l : Rus} : ∀ (f n : Nat) (t x : List Int) (m : Nat), ofR l f n t = (x, m, 0) → n ≤ m ∧ ∀ d n', ofR l (f + d) n' t = (x, m - n + n', 0)
  | f, n, t, x, m, h => by
    have hz := ofR_zero f n t x m h
    cases hs : stL l t with
    | nil =>
      rw [ofR_end hz hs] at h
      cases h
      exact ⟨Nat.le_refl _, fun d n' => by rw [ofR_end hz hs, Nat.sub_self, Nat.zero_add]⟩
    | cons s r =>
      cases f with
      | zero =>
        rw [ofR_many hz hs] at h
        have := congrArg (fun p => p.2.2) h
        simp at this
      | succ f =>
        rw [ofR_step hz hs] at h
        obtain ⟨h1, h2⟩ := ofR_shift f (n + 1) s.2.2 x m h
        refine ⟨by omega, fun d n' => ?_⟩
        rw [show f + 1 + d = (f + d) + 1 by omega, ofR_step hz hs, h2 d (n' + 1)]
        congr 2
        omega
theorem ofR_last {l : Rus} : ∀ (f n : Nat) (t x : List Int) (m : Nat), ofR l f n t = (x, m, 0) → stE l x = 0 ∧ stL l x = []
  | f, n, t, x, m, h => by
    have hz := ofR_zero f n t x m h
    cases hs : stL l t with
    | nil =>
      rw [ofR_end hz hs] at h
      cases h
      exact ⟨hz, hs⟩
    | cons s r =>
      cases f with
      | zero =>
        rw [ofR_many hz hs] at h
        have := congrArg (fun p => p.2.2) h
        simp at this
      | succ f =>
        rw [ofR_step hz hs] at h
        exact ofR_last f (n + 1) s.2.2 x m h
theorem ofR_chk {l : Rus} (hl : Rul l) : ∀ (f n : Nat) (t x : List Int) (m : Nat), chk t = 0 → ofR l f n t = (x, m, 0) → chk x = 0
  | f, n, t, x, m, ht, h => by
    have hz := ofR_zero f n t x m h
    cases hs : stL l t with
    | nil =>
      rw [ofR_end hz hs] at h
      cases h
      exact ht
    | cons s r =>
      cases f with
      | zero =>
        rw [ofR_many hz hs] at h
        have := congrArg (fun p => p.2.2) h
        simp at this
      | succ f =>
        rw [ofR_step hz hs] at h
        exact ofR_chk hl f (n + 1) s.2.2 x m (step_chk' hl ht hz (by rw [hs]; exact List.mem_cons_self ..)) h

theorem askE_zero {l : Rus} {t : List Int} (h : askE l t = 0) : Rul l ∧ chk t = 0 := by
  unfold askE at h
  split at h
  · rename_i h1; exact ⟨rulesE_zero.1 h1, h⟩
  · contradiction
theorem askE_of {l : Rus} {t : List Int} (h : Rul l) (k : chk t = 0) : askE l t = 0 := by
  unfold askE; rw [if_pos (rulesE_zero.2 h)]; exact k

theorem form_zero {l : Rus} {t : List Int} (h : formE l t = 0) : askE l t = 0 ∧ ofR l 60 0 t = (formT l t, formN l t, 0) := by
  by_cases ha : askE l t = 0
  · refine ⟨ha, ?_⟩
    rw [formE, if_pos ha] at h
    rw [formT, formN, if_pos ha, if_pos ha, ← h]
  · rw [formE, if_neg ha] at h; contradiction
theorem form_of {l : Rus} {t x : List Int} {n : Nat} (ha : askE l t = 0) (h : ofR l 60 0 t = (x, n, 0)) : formE l t = 0 ∧ formT l t = x ∧ formN l t = n := by
  refine ⟨?_, ?_, ?_⟩
  · rw [formE, if_pos ha, h]
  · rw [formT, if_pos ha, h]
  · rw [formN, if_pos ha, h]

theorem form_chk {l : Rus} {t : List Int} (h : formE l t = 0) : chk (formT l t) = 0 := by
  obtain ⟨h1, h2⟩ := form_zero h
  obtain ⟨h3, h4⟩ := askE_zero h1
  exact ofR_chk h3 _ _ _ _ _ h4 h2

/-- A form is one, and its own. -/
theorem norm_own {l : Rus} {t : List Int} (h : formE l t = 0) : stepsE l (formT l t) = 0 ∧ isB l (formT l t) = true ∧ formE l (formT l t) = 0 ∧ formT l (formT l t) = formT l t ∧ formN l (formT l t) = 0 := by
  obtain ⟨h1, h2⟩ := form_zero h
  obtain ⟨h3, h4⟩ := askE_zero h1
  have h5 := askE_of h3 (form_chk h)
  obtain ⟨h6, h7⟩ := ofR_last _ _ _ _ _ h2
  have h8 : stepsE l (formT l t) = 0 := by rw [stepsE, if_pos h5, h6]
  refine ⟨h8, ?_, form_of h5 (ofR_end h6 h7 60 0)⟩
  rw [isB, h8, stepsL, if_pos h5, h7]; rfl

theorem norm_steps {l : Rus} {t : List Int} (h : formE l t = 0) : stepsE l t = 0 ∧ (stepsL l t = [] → formN l t = 0 ∧ formT l t = t) ∧
    (∀ s r, stepsL l t = s :: r → formE l s.2.2 = 0 ∧ formT l s.2.2 = formT l t ∧ formN l t = formN l s.2.2 + 1) := by
  obtain ⟨h1, h2⟩ := form_zero h
  obtain ⟨h3, h4⟩ := askE_zero h1
  have hz := ofR_zero _ _ _ _ _ h2
  have hL : stepsL l t = stL l t := by rw [stepsL, if_pos h1]
  refine ⟨by rw [stepsE, if_pos h1, hz], fun hs => ?_, fun s r hs => ?_⟩
  · rw [hL] at hs
    rw [ofR_end hz hs] at h2
    have e1 := congrArg (fun p => p.1) h2
    have e2 := congrArg (fun p => p.2.1) h2
    exact ⟨e2.symm, e1.symm⟩
  · rw [hL] at hs
    have hc := step_chk' h3 h4 hz (s := s) (by rw [hs]; exact List.mem_cons_self ..)
    rw [ofR_step hz hs] at h2
    obtain ⟨h5, h6⟩ := ofR_shift _ _ _ _ _ h2
    have h7 := h6 1 0
    obtain ⟨h8, h9, h10⟩ := form_of (askE_of h3 hc) h7
    exact ⟨h8, h9, by omega⟩

end Go.Proofs.Ytepddehodmljeaa

namespace Go.Proofs.Ytepddehodmljeaa
open Go.RowKit

def nthS (l : List Stp) (j : Nat) : Stp := l.getD j (0, 0, [])
theorem nthS_eq {l : List Stp} {j : Nat} (h : j < l.length) : nthS l j = l[j] := by simp [nthS, h]
theorem nthS_mem {l : List Stp} {j : Nat} (h : j < l.length) : nthS l j ∈ l := by rw [nthS_eq h]; exact List.getElem_mem h

theorem steps_cell {S : Blk} {w : World} {v : Value} {l : List Stp} (h : IsSteps S w v l) {j : Nat} (hj : j < l.length) :
    ∃ b o c u, v = .slice (some ⟨b, o, none⟩) l.length c ∧ b < w.heap.size ∧ w.cell? ⟨b, o + j * 3, none⟩ = some (.int .i64 (nthS l j).1) ∧ w.cell? ⟨b, o + j * 3 + 1, none⟩ = some (.int .i64 (nthS l j).2.1) ∧
      w.cell? ⟨b, o + j * 3 + 2, none⟩ = some u ∧ IsInts S w u (nthS l j).2.2 := by
  obtain ⟨hl, ⟨rfl, -⟩ | ⟨hne, b, o, c, rfl, -, hS, hlt, cs, he, hc⟩⟩ := h
  · simp at hj
  obtain ⟨us, hul, hget, u, rfl, hu⟩ := he.get j hj
  refine ⟨b, o, c, u, rfl, hlt, ?_, ?_, ?_, by rw [nthS_eq hj]; exact hu⟩
  · have := hget 0 (by omega)
    rw [nthS_eq hj, hc (j * 3) _ (by simpa using this)]
  · have := hget 1 (by omega)
    rw [nthS_eq hj, Nat.add_assoc, hc (j * 3 + 1) _ (by simpa using this)]
  · have := hget 2 (by omega)
    rw [Nat.add_assoc, hc (j * 3 + 2) _ (by simpa using this)]

theorem ofR_chk_step {l : Rus} {t : List Int} (hl : Rul l) (ht : chk t = 0) (hz : stE l t = 0) {s : Stp} {r : List Stp} (hs : stL l t = s :: r) : chk s.2.2 = 0 := step_chk' hl ht hz (by rw [hs]; exact List.mem_cons_self ..)

set_option maxHeartbeats 1000000 in
set_option maxRecDepth 100000 in
theorem Of_calls (l : Rus) (t : List Int) (hl : Rul l) (ht : chk t = 0) (v x : Value) (w : World) (hv : IsRules Any w v l) (hx : IsInts Any w x t) :
    Calls Try.prog 143 #[v, x] w fun e w' => ∃ y, e = .returned (.tuple #[y, .int .i64 (ofR l 60 0 t).2.1, .int .i64 (ofR l 60 0 t).2.2]) ∧ IsInts (Fr w.heap.size) w' y (ofR l 60 0 t).1 ∧ Below w.heap.size w w' := by
  have HV := Lib.hid hv
  have HX := Lib.hid hx
  have HL := Lib.hid hl
  have HT := Lib.hid ht
  clear hv hx hl ht
  go_enter Try.func143, Try.ntmps143
  go_wp2_with fail
  go_loopw [1, 7] (fun tv i wr => ∃ (m : Nat) (tc : List Int), m ≤ 60 ∧ i = .int .i64 m ∧ Hid (IsInts Any wr tv tc ∧ chk tc = 0 ∧ ofR l (60 - m) m tc = ofR l 60 0 t ∧ Below w.heap.size w wr)) (fun _ i _ => 61 - (intOf i).toNat)
  case atStart => exact ⟨0, t, by omega, rfl, HX.out, HT.out, rfl, .refl _ _⟩
  case round =>
    obtain ⟨m, tc, hm, rfl, hR⟩ := hrel
    have hA := Lib.hid (All_calls l tc HL.out hR.out.2.1 v _ wr (HV.out.below RuleR.ok hR.out.2.2.2) hR.out.1)
    obtain ⟨ta, tb, rfl⟩ := hR.out.1.isSlice
    go_wp2_with fail
    refine hA.out.mono ?_
    rintro e w1 ⟨y, rfl, hy, hB1⟩
    have hBw := Lib.hid (ext_trans hR.out.2.2.2 hB1)
    clear hA
    by_cases hz : stE l tc = 0
    · have hz2 := Lib.hid hz
      rw [hz]
      cases hs : stL l tc with
      | nil =>
        have hr : Hid (ofR l 60 0 t = (tc, m, 0)) := by rw [Hid, ← hR.out.2.2.1]; exact ofR_end hz hs _ _
        rw [hs] at hy
        obtain ⟨ya, yc, rfl⟩ := hy.isSlice
        have hcl := Lib.hid (Clone_calls tc _ w1 (ne_of_chk hR.out.2.1) (by have := len_of_chk hR.out.2.1; omega) (hR.out.1.below hB1))
        clear hy hB1 hs hz
        go_wp2_with fail
        refine hcl.out.mono ?_
        rintro e w2 ⟨z, rfl, hz2, hB2⟩
        go_wp2_with fail
        go_ret3
        rw [hr.out]
        exact ⟨_, rfl, hz2.mono (.weak fun b hb => Nat.le_trans hBw.out.size hb), ext_trans hBw.out hB2⟩
      | cons s r =>
        rw [hs] at hy
        obtain ⟨b, o, c, u, rfl, hbl, -, -, hcu, hu⟩ := steps_cell hy (j := 0) (by simp)
        simp only [Nat.zero_mul, Nat.add_zero] at hcu
        have hu' : Hid (IsInts Any w1 u s.2.2) := hu.any
        obtain ⟨ua, ub, rfl⟩ := hu.isSlice
        have hlen : (0 : Int) < (s :: r).length := by simp
        have hst : Hid (m < 60 → ofR l (60 - (m + 1)) (m + 1) s.2.2 = ofR l 60 0 t) := fun h => by
          rw [← hR.out.2.2.1, show 60 - m = (60 - (m + 1)) + 1 by omega, ofR_step hz hs]
        have hlast : Hid (m = 60 → ofR l 60 0 t = ([], 0, 2)) := fun h => by
          rw [← hR.out.2.2.1, h]; exact ofR_many hz hs _
        have hsc := Lib.hid (ofR_chk_step HL.out hR.out.2.1 hz hs)
        generalize (s :: r) = sr at *
        clear hy hu hB1 hs hz
        by_cases h60 : m = 60
        · subst h60
          have hr : Hid (ofR l 60 0 t = ([], 0, 2)) := hlast.out rfl
          go_wp2_with fail
          go_ret3
          rw [hr.out]
          exact ⟨_, rfl, .nil _ _, hBw.out⟩
        · have hne : ((m : Int) == 60) = false := by rw [beq_eq_false_iff_ne]; omega
          go_wp2_with fail
          go_roundw
          case rel => exact ⟨m + 1, s.2.2, by omega, by go_num, hu'.out, hsc.out, hst.out (by omega), hBw.out⟩
          case measure => simp [intOf]; omega
    · have hr : Hid (ofR l 60 0 t = ([], 0, stE l tc)) := by rw [Hid, ← hR.out.2.2.1]; exact ofR_err hz _ _
      have h' : (stE l tc != 0) = true := by simpa using hz
      obtain ⟨ya, yc, rfl⟩ := hy.isSlice
      clear hy hB1 hz
      go_wp2_with fail
      go_ret3
      rw [hr.out]
      exact ⟨_, rfl, .nil _ _, hBw.out⟩

set_option maxHeartbeats 1000000 in
set_option maxRecDepth 100000 in
theorem form_calls (l : Rus) (t : List Int) (hl : Rul l) (ht : chk t = 0) (v x : Value) (w : World) (hv : IsRules Any w v l) (hx : IsInts Any w x t) :
    Calls Try.prog 153 #[v, x] w fun e w' => ∃ y, e = .returned (.tuple #[y, .int .i64 (ofR l 60 0 t).2.1, .int .i64 (ofR l 60 0 t).2.2]) ∧ IsInts (Fr w.heap.size) w' y (ofR l 60 0 t).1 ∧ Below w.heap.size w w' := by
  obtain ⟨i3, hi, hzz, hsz, hby⟩ := info_parts Try.inf3
  have HV := Lib.hid hv
  have HX := Lib.hid hx
  have HL := Lib.hid hl
  have HT := Lib.hid ht
  clear hv hx hl ht
  go_enter Try.func153, Try.ntmps153
  go_wp2_with fail
  go_loopw [1, 7] (fun tv i wr => ∃ (m : Nat) (tc : List Int), m ≤ 60 ∧ i = .int .i64 m ∧ Hid (IsInts Any wr tv tc ∧ chk tc = 0 ∧ ofR l (60 - m) m tc = ofR l 60 0 t ∧ Below w.heap.size w wr)) (fun _ i _ => 61 - (intOf i).toNat)
  case atStart => exact ⟨0, t, by omega, rfl, HX.out, HT.out, rfl, .refl _ _⟩
  case round =>
    obtain ⟨m, tc, hm, rfl, hR⟩ := hrel
    have hA := Lib.hid (steps_calls l tc HL.out hR.out.2.1 v _ wr (HV.out.below RuleR.ok hR.out.2.2.2) hR.out.1)
    obtain ⟨ta, tb, rfl⟩ := hR.out.1.isSlice
    go_wp2_with fail
    refine hA.out.mono ?_
    rintro e w1 ⟨y, rfl, hy, hB1⟩
    have hBw := Lib.hid (ext_trans hR.out.2.2.2 hB1)
    clear hA
    by_cases hz : stE l tc = 0
    · have hz2 := Lib.hid hz
      rw [hz]
      cases hs : stL l tc with
      | nil =>
        have hr : Hid (ofR l 60 0 t = (tc, m, 0)) := by rw [Hid, ← hR.out.2.2.1]; exact ofR_end hz hs _ _
        rw [hs] at hy
        obtain ⟨ya, yc, rfl⟩ := hy.isSlice
        have hO := Lib.hid (empty_own w1)
        have htc := Lib.hid (hR.out.1.below (ext_trans hB1 (below_alloc w1 (.cells #[] 3))))
        have htl := len_of_chk hR.out.2.1
        have hw1 := hBw.out.size
        clear hy hB1 hs hz
        have hal := Lib.hid (below_alloc w1 (.cells #[] 3))
        go_wp2_with (at_builtin; refine app_ints _ _ 24 rfl rfl w1.heap.size i3 Try.underlying24 hi hzz hsz hby hO.out htc.out ?c1 ?c2 ?c3; rotate_left 2; intro v' w2 hown2 hb2 hg2 _; rw [List.nil_append] at hown2)
        case c1 => simp; omega
        case c2 => simp
        go_ret3
        rw [hr.out]
        exact ⟨_, rfl, (ints_of_own hown2 (by omega)).mono (.weak fun b hb => Nat.le_trans hw1 hb), ext_trans hBw.out (hal.out.trans hb2)⟩
      | cons s r =>
        rw [hs] at hy
        obtain ⟨b, o, c, u, rfl, hbl, -, -, hcu, hu⟩ := steps_cell hy (j := 0) (by simp)
        simp only [Nat.zero_mul, Nat.add_zero] at hcu
        have hu' : Hid (IsInts Any w1 u s.2.2) := hu.any
        obtain ⟨ua, ub, rfl⟩ := hu.isSlice
        have hlen : (0 : Int) < (s :: r).length := by simp
        have hst : Hid (m < 60 → ofR l (60 - (m + 1)) (m + 1) s.2.2 = ofR l 60 0 t) := fun h => by
          rw [← hR.out.2.2.1, show 60 - m = (60 - (m + 1)) + 1 by omega, ofR_step hz hs]
        have hlast : Hid (m = 60 → ofR l 60 0 t = ([], 0, 2)) := fun h => by
          rw [← hR.out.2.2.1, h]; exact ofR_many hz hs _
        have hsc := Lib.hid (ofR_chk_step HL.out hR.out.2.1 hz hs)
        generalize (s :: r) = sr at *
        clear hy hu hB1 hs hz
        by_cases h60 : m = 60
        · subst h60
          have hr : Hid (ofR l 60 0 t = ([], 0, 2)) := hlast.out rfl
          go_wp2_with fail
          go_ret3
          rw [hr.out]
          exact ⟨_, rfl, .nil _ _, hBw.out⟩
        · have hne : ((m : Int) == 60) = false := by rw [beq_eq_false_iff_ne]; omega
          go_wp2_with fail
          go_roundw
          case rel => exact ⟨m + 1, s.2.2, by omega, by go_num, hu'.out, hsc.out, hst.out (by omega), hBw.out⟩
          case measure => simp [intOf]; omega
    · have hr : Hid (ofR l 60 0 t = ([], 0, stE l tc)) := by rw [Hid, ← hR.out.2.2.1]; exact ofR_err hz _ _
      have h' : (stE l tc != 0) = true := by simpa using hz
      obtain ⟨ya, yc, rfl⟩ := hy.isSlice
      clear hy hB1 hz
      go_wp2_with fail
      go_ret3
      rw [hr.out]
      exact ⟨_, rfl, .nil _ _, hBw.out⟩

theorem Form_calls (l : Rus) (t : List Int) (v x : Value) (w : World) (hv : IsRules Any w v l) (hx : IsInts Any w x t) :
    Calls Try.prog 83 #[v, x] w fun e w' => ∃ y, e = .returned (.tuple #[y, .int .i64 (formN l t), .int .i64 (formE l t)]) ∧ IsInts (Fr w.heap.size) w' y (formT l t) ∧ Below w.heap.size w w' := by
  have h1 := Lib.hid (Asked_calls l t v x w hv hx)
  by_cases h : askE l t = 0
  · have h2 := Lib.hid fun W (hb : Below w.heap.size w W) => Of_calls l t (askE_zero h).1 (askE_zero h).2 v x W (hv.below RuleR.ok hb) (hx.below hb)
    have hr : Hid (formN l t = (ofR l 60 0 t).2.1 ∧ formE l t = (ofR l 60 0 t).2.2 ∧ formT l t = (ofR l 60 0 t).1) := by rw [Hid, formN, formE, formT, if_pos h, if_pos h, if_pos h]; exact ⟨rfl, rfl, rfl⟩
    have hh := Lib.hid h
    clear hv hx h
    go_enter Try.func83, Try.ntmps83
    go_wp2_with fail
    refine h1.out.mono ?_
    rintro e w1 ⟨rfl, hB⟩
    have hC := Lib.hid (h2.out w1 hB)
    have hB' := Lib.hid hB
    rw [hh.out]
    clear h1 hB
    go_wp2_with fail
    refine hC.out.mono ?_
    rintro e w' ⟨y, rfl, hy, hB2⟩
    go_wp2_with fail
    go_ret3
    rw [hr.out.1, hr.out.2.1, hr.out.2.2]
    exact ⟨_, rfl, hy.mono (.weak fun b hb => Nat.le_trans hB'.out.size hb), ext_trans hB'.out hB2⟩
  · have hr : Hid (formN l t = 0 ∧ formE l t = askE l t ∧ formT l t = []) := by rw [Hid, formN, formE, formT, if_neg h, if_neg h, if_neg h]; exact ⟨rfl, rfl, rfl⟩
    have h' : (askE l t != 0) = true := by simpa using h
    clear hv hx h
    go_enter Try.func83, Try.ntmps83
    go_wp2_with fail
    refine h1.out.mono ?_
    rintro e w1 ⟨rfl, hB⟩
    have hB' := Lib.hid hB
    clear h1 hB
    go_wp2_with fail
    go_ret3
    rw [hr.out.1, hr.out.2.1, hr.out.2.2]
    exact ⟨_, rfl, .nil _ _, hB'.out⟩

theorem Steps_calls (l : Rus) (t : List Int) (v x : Value) (w : World) (hv : IsRules Any w v l) (hx : IsInts Any w x t) :
    Calls Try.prog 88 #[v, x] w fun e w' => ∃ y, e = .returned (.tuple #[y, .int .i64 (stepsE l t)]) ∧ IsSteps (Fr w.heap.size) w' y (stepsL l t) ∧ Below w.heap.size w w' := by
  have h1 := Lib.hid (Asked_calls l t v x w hv hx)
  by_cases h : askE l t = 0
  · have h2 := Lib.hid fun W (hb : Below w.heap.size w W) => All_calls l t (askE_zero h).1 (askE_zero h).2 v x W (hv.below RuleR.ok hb) (hx.below hb)
    have hr : Hid (stepsE l t = stE l t ∧ stepsL l t = stL l t) := by rw [Hid, stepsE, stepsL, if_pos h, if_pos h]; exact ⟨rfl, rfl⟩
    have hh := Lib.hid h
    clear hv hx h
    go_enter Try.func88, Try.ntmps88
    go_wp2_with fail
    refine h1.out.mono ?_
    rintro e w1 ⟨rfl, hB⟩
    have hC := Lib.hid (h2.out w1 hB)
    have hB' := Lib.hid hB
    rw [hh.out]
    clear h1 hB
    go_wp2_with fail
    refine hC.out.mono ?_
    rintro e w' ⟨y, rfl, hy, hB2⟩
    go_wp2_with fail
    go_ret2
    rw [hr.out.1, hr.out.2]
    exact ⟨_, rfl, hy.mono StepR.ok (.weak fun b hb => Nat.le_trans hB'.out.size hb), ext_trans hB'.out hB2⟩
  · have hr : Hid (stepsE l t = askE l t ∧ stepsL l t = []) := by rw [Hid, stepsE, stepsL, if_neg h, if_neg h]; exact ⟨rfl, rfl⟩
    have h' : (askE l t != 0) = true := by simpa using h
    clear hv hx h
    go_enter Try.func88, Try.ntmps88
    go_wp2_with fail
    refine h1.out.mono ?_
    rintro e w1 ⟨rfl, hB⟩
    have hB' := Lib.hid hB
    clear h1 hB
    go_wp2_with fail
    go_ret2
    rw [hr.out.1, hr.out.2]
    exact ⟨_, rfl, .nil _ _, hB'.out⟩

theorem StepsOf_calls (l : Rus) (t : List Int) (v x : Value) (w : World) (hv : IsRules Any w v l) (hx : IsInts Any w x t) :
    Calls Try.prog 92 #[v, x] w fun e w' => ∃ y, e = .returned (.tuple #[y, .int .i64 (stepsE l t)]) ∧ IsSteps (Fr w.heap.size) w' y (stepsL l t) ∧ Below w.heap.size w w' := by
  have h1 := Lib.hid (RulesError_calls l v w hv)
  have h3 := Lib.hid fun W (hb : Below w.heap.size w W) => TermError_calls t x W (hx.below hb)
  by_cases h : askE l t = 0
  · have h2 := Lib.hid fun W (hb : Below w.heap.size w W) => steps_calls l t (askE_zero h).1 (askE_zero h).2 v x W (hv.below RuleR.ok hb) (hx.below hb)
    have hr : Hid (stepsE l t = stE l t ∧ stepsL l t = stL l t) := by rw [Hid, stepsE, stepsL, if_pos h, if_pos h]; exact ⟨rfl, rfl⟩
    have hh : Hid (rulesE l = 0 ∧ chk t = 0) := ⟨rulesE_zero.2 (askE_zero h).1, (askE_zero h).2⟩
    clear hv hx h
    go_enter Try.func92, Try.ntmps92
    go_wp2_with fail
    refine h1.out.mono ?_
    rintro e w1 ⟨rfl, hB⟩
    have hC := Lib.hid (h2.out w1 hB)
    have hT := Lib.hid (h3.out w1 hB)
    have hB' := Lib.hid hB
    rw [hh.out.1]
    clear h1 hB
    go_wp2_with fail
    refine hT.out.mono ?_
    rintro e w' ⟨rfl, rfl⟩
    rw [hh.out.2]
    clear hT
    go_wp2_with fail
    refine hC.out.mono ?_
    rintro e w' ⟨y, rfl, hy, hB2⟩
    go_wp2_with fail
    go_ret2
    rw [hr.out.1, hr.out.2]
    exact ⟨_, rfl, hy.mono StepR.ok (.weak fun b hb => Nat.le_trans hB'.out.size hb), ext_trans hB'.out hB2⟩
  · have hr : Hid (stepsE l t = askE l t ∧ stepsL l t = []) := by rw [Hid, stepsE, stepsL, if_neg h, if_neg h]; exact ⟨rfl, rfl⟩
    by_cases hk : rulesE l = 0
    · have ha : Hid (askE l t = chk t ∧ rulesE l = 0) := ⟨by rw [askE, if_pos hk], hk⟩
      have h' : (chk t != 0) = true := by rw [← ha.out.1]; simpa using h
      clear hv hx h hk
      go_enter Try.func92, Try.ntmps92
      go_wp2_with fail
      refine h1.out.mono ?_
      rintro e w1 ⟨rfl, hB⟩
      have hT := Lib.hid (h3.out w1 hB)
      have hB' := Lib.hid hB
      rw [ha.out.2]
      clear h1 hB
      go_wp2_with fail
      refine hT.out.mono ?_
      rintro e w' ⟨rfl, rfl⟩
      clear hT
      go_wp2_with fail
      go_ret2
      rw [hr.out.1, hr.out.2, ha.out.1]
      exact ⟨_, rfl, .nil _ _, hB'.out⟩
    · have ha : Hid (askE l t = rulesE l) := by rw [Hid, askE, if_neg hk]
      have h' : (rulesE l != 0) = true := by simpa using hk
      clear hv hx h hk
      go_enter Try.func92, Try.ntmps92
      go_wp2_with fail
      refine h1.out.mono ?_
      rintro e w1 ⟨rfl, hB⟩
      have hB' := Lib.hid hB
      clear h1 hB h3
      go_wp2_with fail
      go_ret2
      rw [hr.out.1, hr.out.2, ha.out]
      exact ⟨_, rfl, .nil _ _, hB'.out⟩

theorem isB_of {l : Rus} {t : List Int} (h : stepsE l t = 0) : isB l t = (((stepsL l t).length : Int) == 0) := by
  rw [isB, h]
  cases stepsL l t with
  | nil => rfl
  | cons s r =>
    have : (((s :: r).length : Int) == 0) = false := by rw [beq_eq_false_iff_ne]; simp; omega
    rw [this]; rfl

theorem Is_calls (l : Rus) (t : List Int) (v x : Value) (w : World) (hv : IsRules Any w v l) (hx : IsInts Any w x t) :
    Calls Try.prog 84 #[v, x] w fun e w' => e = .returned (.tuple #[.bool (isB l t), .int .i64 (stepsE l t)]) ∧ Below w.heap.size w w' := by
  have h1 := Lib.hid (Steps_calls l t v x w hv hx)
  by_cases h : stepsE l t = 0
  · have hr := Lib.hid (isB_of h)
    have hh := Lib.hid h
    clear hv hx h
    go_enter Try.func84, Try.ntmps84
    go_wp2_with fail
    refine h1.out.mono ?_
    rintro e w1 ⟨y, rfl, hy, hB⟩
    obtain ⟨ya, yc, rfl⟩ := hy.isSlice
    have hB' := Lib.hid hB
    rw [hh.out]
    clear h1 hB hy
    go_wp2_with fail
    go_ret2
    rw [hr.out, hh.out]
    exact ⟨rfl, hB'.out⟩
  · have hr : Hid (isB l t = false) := by rw [Hid, isB, decide_eq_false h]; rfl
    have h' : (stepsE l t != 0) = true := by simpa using h
    clear hv hx h
    go_enter Try.func84, Try.ntmps84
    go_wp2_with fail
    refine h1.out.mono ?_
    rintro e w1 ⟨y, rfl, hy, hB⟩
    obtain ⟨ya, yc, rfl⟩ := hy.isSlice
    have hB' := Lib.hid hB
    clear h1 hB hy
    go_wp2_with fail
    go_ret2
    rw [hr.out]
    exact ⟨rfl, hB'.out⟩

theorem IsOf_calls (l : Rus) (t : List Int) (v x : Value) (w : World) (hv : IsRules Any w v l) (hx : IsInts Any w x t) :
    Calls Try.prog 86 #[v, x] w fun e w' => e = .returned (.tuple #[.bool (isB l t), .int .i64 (stepsE l t)]) ∧ Below w.heap.size w w' := by
  have h1 := Lib.hid (StepsOf_calls l t v x w hv hx)
  by_cases h : stepsE l t = 0
  · have hr := Lib.hid (isB_of h)
    have hh := Lib.hid h
    clear hv hx h
    go_enter Try.func86, Try.ntmps86
    go_wp2_with fail
    refine h1.out.mono ?_
    rintro e w1 ⟨y, rfl, hy, hB⟩
    obtain ⟨ya, yc, rfl⟩ := hy.isSlice
    have hB' := Lib.hid hB
    rw [hh.out]
    clear h1 hB hy
    go_wp2_with fail
    go_ret2
    rw [hr.out, hh.out]
    exact ⟨rfl, hB'.out⟩
  · have hr : Hid (isB l t = false) := by rw [Hid, isB, decide_eq_false h]; rfl
    have h' : (stepsE l t == 0) = false := by simpa using h
    clear hv hx h
    go_enter Try.func86, Try.ntmps86
    go_wp2_with fail
    refine h1.out.mono ?_
    rintro e w1 ⟨y, rfl, hy, hB⟩
    obtain ⟨ya, yc, rfl⟩ := hy.isSlice
    have hB' := Lib.hid hB
    clear h1 hB hy
    go_wp2_with fail
    go_ret2
    rw [hr.out]
    exact ⟨rfl, hB'.out⟩

theorem FormOf_calls (l : Rus) (t : List Int) (v x : Value) (w : World) (hv : IsRules Any w v l) (hx : IsInts Any w x t) :
    Calls Try.prog 85 #[v, x] w fun e w' => ∃ y, e = .returned (.tuple #[y, .int .i64 (formN l t), .int .i64 (formE l t)]) ∧ IsInts (Fr w.heap.size) w' y (formT l t) ∧ Below w.heap.size w w' := by
  have h1 := Lib.hid (StepsOf_calls l t v x w hv hx)
  by_cases h : stepsE l t = 0
  · have ha : askE l t = 0 := by
      by_cases ha : askE l t = 0
      · exact ha
      · rw [stepsE, if_neg ha] at h; exact h
    have h2 := Lib.hid fun W (hb : Below w.heap.size w W) => form_calls l t (askE_zero ha).1 (askE_zero ha).2 v x W (hv.below RuleR.ok hb) (hx.below hb)
    have hr : Hid (formN l t = (ofR l 60 0 t).2.1 ∧ formE l t = (ofR l 60 0 t).2.2 ∧ formT l t = (ofR l 60 0 t).1) := by rw [Hid, formN, formE, formT, if_pos ha, if_pos ha, if_pos ha]; exact ⟨rfl, rfl, rfl⟩
    have hh := Lib.hid h
    clear hv hx h ha
    go_enter Try.func85, Try.ntmps85
    go_wp2_with fail
    refine h1.out.mono ?_
    rintro e w1 ⟨y0, rfl, hy0, hB⟩
    obtain ⟨ya, yc, rfl⟩ := hy0.isSlice
    have hC := Lib.hid (h2.out w1 hB)
    have hB' := Lib.hid hB
    rw [hh.out]
    clear h1 hB hy0
    go_wp2_with fail
    refine hC.out.mono ?_
    rintro e w' ⟨y, rfl, hy, hB2⟩
    go_wp2_with fail
    go_ret3
    rw [hr.out.1, hr.out.2.1, hr.out.2.2]
    exact ⟨_, rfl, hy.mono (.weak fun b hb => Nat.le_trans hB'.out.size hb), ext_trans hB'.out hB2⟩
  · have hr : Hid (formN l t = 0 ∧ formE l t = stepsE l t ∧ formT l t = []) := by
      by_cases ha : askE l t = 0
      · rw [stepsE, if_pos ha] at h
        have h3 := ofR_err h 60 0
        rw [Hid, formN, formE, formT, stepsE, if_pos ha, if_pos ha, if_pos ha, if_pos ha, h3]; exact ⟨rfl, rfl, rfl⟩
      · rw [Hid, formN, formE, formT, stepsE, if_neg ha, if_neg ha, if_neg ha, if_neg ha]; exact ⟨rfl, rfl, rfl⟩
    have h' : (stepsE l t != 0) = true := by simpa using h
    clear hv hx h
    go_enter Try.func85, Try.ntmps85
    go_wp2_with fail
    refine h1.out.mono ?_
    rintro e w1 ⟨y0, rfl, hy0, hB⟩
    obtain ⟨ya, yc, rfl⟩ := hy0.isSlice
    have hB' := Lib.hid hB
    clear h1 hB hy0
    go_wp2_with fail
    go_ret3
    rw [hr.out.1, hr.out.2.1, hr.out.2.2]
    exact ⟨_, rfl, .nil _ _, hB'.out⟩

end Go.Proofs.Ytepddehodmljeaa
