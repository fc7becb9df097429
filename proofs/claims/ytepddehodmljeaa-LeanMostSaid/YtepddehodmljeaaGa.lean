/- Walks: pairs: Other, Laps, Two, Of, Every, All; append as a step; meets, Pair of join. -/
import Derived.Deep.RegionHeld3
import Derived.Test.YtepddehodmljeaaG6
import Derived.Test.YtepddehodmljeaaG9
import Derived.Test.YtepddehodmljeaaG8
namespace Go.Proofs.Ytepddehodmljeaa
open Go.RowKit Go.Maps

theorem wp_app {P : Program} {w : World} {o : Oper} {a : Act} {K : Act → World → Prop} {Q : Exit → Act → World → Prop} (s x : Operand) (t : TypeId)
    (ho : o.op = .call { callee := .builtin .append, args := #[s, x], argTypes := #[t, t] })
    (base : Nat) (e : TypeId) (i : TypeInfo) (z : Value) (size bytes : Nat) (ht : P.underlying t = some (.slice e)) (hi : P.info? e = some i) (hz : i.zero = some z)
    (hsize : i.size = size) (hby : i.bytes = bytes) (hzs : z.cells.size = size) (hsz : 0 < size)
    (v : Value) (n : Nat) (xs : List Value) (hs : a.eval s = v) (hown : w.ownsRow base e size v n xs)
    (ao : Option Addr) (m c : Nat) (news : List Value) (hx : a.eval x = .slice ao m c) (hnone : ao = none → m = 0 ∧ c = 0) (hl : news.length = m * size) (hnews : ∀ a, ao = some a → ∀ j u, news[j]? = some u → w.cell? (a.add j) = some u) (h1 : Ones news)
    (h63 : n + m ≤ maxLen) (hbytes : (n + m) * bytes ≤ 140737488355328) (hbase : base ≤ w.heap.size)
    (h : ∀ v' w', w'.ownsRow base e size v' (n + m) (xs ++ news) → w.grownBy w' v.ownBlock → (∀ b, v'.ownBlock = some b → v.ownBlock = some b ∨ w.heap.size ≤ b) → K (a.put o.dst v') w') : o.wp P a w K Q := by
  obtain ⟨v', w', hr, h2, h3, h4⟩ := run_app (P := P) w base t o.type e i z size bytes ht hi hz hsize hby hzs hsz v n xs hown ao m c news hnone hl hnews h1 h63 hbytes hbase
  unfold Oper.wp execOp
  simp only [ho, resolve, invoke, builtin, Sem.run_bind, Sem.run_pure, Result.andThen_ok, List.map_toArray, List.map_cons, List.map_nil, hs, hx, hr]
  exact h v' w' h2 h3 h4

/-- 'append(v, x)', x a new literal, where the region draws its order. -/
theorem step_app_one {α : Type} {R : Rep α} (hR : R.Ok) {sz : Nat} {P : Program} {W W' : World} {ops : Array Oper} {o : Oper} {a : Act} {K : Act → World → Prop} {Q : Exit → Act → World → Prop} {E : Prop} (s x : Operand) (t : TypeId) (hgd : o.guard = none)
    (ho : o.op = .call { callee := .builtin .append, args := #[s, x], argTypes := #[t, t] })
    (base : Nat) (e : TypeId) (i : TypeInfo) (z : Value) (bytes : Nat) (ht : P.underlying t = some (.slice e)) (hi : P.info? e = some i) (hz : i.zero = some z) (hsize : i.size = sz) (hby : i.bytes = bytes) (hzs : z.cells.size = sz) (hsz : 0 < sz)
    {S : Blk} {xs : List α} {v : Value} (hs : a.eval s = v) (hown : OwnRow base e sz R S W v xs)
    {us : List Value} {y : α} {n : Nat} (hx : a.eval x = .slice (some ⟨n, 0, none⟩) 1 1) (hnn : n = W.heap.size) (hus : us.length = sz) (h1 : Ones us)
    (hel : R (Both' S (Off v)) W us y)
    (hlen : (xs.length + 1) * bytes ≤ 100000000) (hb0 : 0 < bytes) (hbase : base ≤ W.heap.size) (hW : W' = W.alloc (.cells us.toArray e))
    (h : ∀ v' w', OwnRow base e sz R S w' v' (xs ++ [y]) → Below base W w' → Keeps (fun b => v.ownBlock = some b) W w' →
      (∀ b, v'.ownBlock = some b → v.ownBlock = some b ∨ W.heap.size ≤ b) → K (a.put o.dst v') w') :
    if Region.wanted o (yielded ops a.tmps) = true then Oper.wp P o a W' K Q else E := by
  subst hnn hW
  rw [if_pos (by simp [Region.wanted, hgd])]
  have hlen' : xs.length + 1 ≤ 100000000 := Nat.le_trans (Nat.le_mul_of_pos_right _ hb0) hlen
  obtain ⟨cs, he, hr⟩ := hown.below hR (below_alloc W (.cells us.toArray e))
  have hel' : Elems sz R (Both' S (Off v)) (W.alloc (.cells us.toArray e)) us [y] := Elems.one hus (hR _ _ _ _ _ _ hel (.of_below (below_alloc W _)))
  refine wp_app s x t ho base e i z sz bytes ht hi hz hsize hby hzs hsz v xs.length cs hs hr (some ⟨W.heap.size, 0, none⟩) 1 1 us hx (fun h => by cases h) (by rw [hus, Nat.one_mul]) (fun ad hd j u hj => ?_) h1 (by simp only [maxLen]; omega) (by omega) (by simp; omega) fun v' w' h2 h3 h4 => ?_
  · cases hd
    rw [show (⟨W.heap.size, 0, none⟩ : Addr).add j = ⟨W.heap.size, j, none⟩ by simp [Addr.add_lit], World.cell?_alloc_at _ _ _ _ rfl]
    simpa using hj
  · have hO : OwnRow base e sz R S w' v' (xs ++ [y]) := by
      refine ⟨cs ++ us, (he.append hel').mono hR ⟨h3.size, fun b hb hl => ⟨⟨hb.1, fun hv => ?_⟩, h3.block b hl (fun hk => hb.2 hk.symm)⟩⟩, by simpa using h2⟩
      rcases h4 b hv with h5 | h5
      · exact hb.2 h5
      · omega
    refine h v' w' hO (((Below.refl base W).alloc hbase _).trans (below_of_grown h3 (by simp; omega) fun k hk => (hr.lt k hk).1)) ⟨h3.os, h3.tape, h3.output, ?_, fun k hk hm => ?_⟩ fun b hb => ?_
    · have := h3.size; simp at this; omega
    · rw [h3.block k (by simp; omega) (fun e => hm e.symm), Below.heap_alloc _ _ _ hk]
    · rcases h4 b hb with h6 | h6
      · exact .inl h6
      · exact .inr (by simp at h6; omega)

end Go.Proofs.Ytepddehodmljeaa

namespace Go.Proofs.Ytepddehodmljeaa
open Go.RowKit Go.Maps

theorem Other1_calls (n : Int) (h1 : -8 ≤ n) (h2 : n < 6) (W : World) : Calls Try.prog 208 #[.int .i64 n] W fun e W' => ∃ u, e = .returned u ∧ IsInts (Fr W.heap.size) W' u [othN n] ∧ Below W.heap.size W W' := by
  by_cases h0 : n < 0
  · have hr : Hid (othN n = n - 4) := if_pos h0
    go_enter Try.func208, Try.ntmps208
    go_wp2_with fail
    go_ret
    exact ⟨_, rfl, by rw [hr.out]; exact ints_lit W W.heap.size [n - 4] 3 (Nat.le_refl _) (by simp), below_alloc _ _⟩
  · have hr : Hid (othN n = n) := if_neg h0
    go_enter Try.func208, Try.ntmps208
    go_wp2_with fail
    go_ret
    exact ⟨_, rfl, by rw [hr.out]; exact ints_lit W W.heap.size [n] 3 (Nat.le_refl _) (by simp), below_alloc _ _⟩

theorem flatMap_one (f : Int → Int) : ∀ l : List Int, l.flatMap (fun n => [f n]) = l.map f
  | [] => rfl
  | a :: l => by rw [List.flatMap_cons, List.map_cons, flatMap_one f l]; rfl

theorem Other_calls (t : List Int) (ht : Signs t) (htl : t.length ≤ 1000) (v : Value) (w : World) (hv : IsInts Any w v t) :
    Calls Try.prog 194 #[v] w fun e w' => ∃ x, e = .returned x ∧ IsInts (Fr w.heap.size) w' x (othT t) ∧ Below w.heap.size w w' := by
  have hfin : Hid (joinF (fun k => [othN (nth t k)]) t.length = othT t) := by
    have := joinF_all (fun n => [othN n]) t
    rw [Hid, this, flatMap_one]
    rfl
  have hE := Lib.hid (Each_calls t v 208 #[] (fun k => [othN (nth t k)]) (fun _ => False) (fun _ _ => True) w (enters_fn Try.func208 (by kernel_rfl) rfl) (hv.mono (.weak fun _ _ => id)) trivial (fun _ h => h.elim) (fun _ _ _ _ _ _ => trivial)
    (fun k W hk _ _ => by
      have hx := ht _ (nth_mem hk)
      refine (Other1_calls _ hx.1 hx.2 W).mono ?_
      rintro e W' ⟨u, rfl, hu, hb⟩
      exact ⟨u, rfl, hu.any, trivial, .of_below hb⟩)
    (fun k hk => by
      rw [joinF_flatMap (fun n => [othN n]) _ _ hk]
      rw [flatMap_one, List.length_map, List.length_take]
      omega))
  clear ht htl hv
  go_enter Try.func194, Try.ntmps194
  go_wp2_with fail
  refine hE.out.mono ?_
  rintro e w' ⟨u, rfl, hu, -, hk⟩
  rw [hfin.out] at hu
  go_wp2_with fail
  go_ret
  exact ⟨u, rfl, hu, ⟨hk.os, hk.tape, hk.output, hk.size, fun k hk' => hk.block k hk' id⟩⟩

/-! ### Laps -/
def LapR : Rep Lp := fun S w us x => ∃ u v, us = [.int .i64 x.1, u, v] ∧ IsTerms S w u x.2.1 ∧ IsInts S w v x.2.2
theorem LapR.ok : Rep.Ok LapR := fun _ _ _ _ _ _ ⟨u, v, h, k1, k2⟩ hk => ⟨u, v, h, IsRow.mono TermR.ok k1 hk, k2.mono hk⟩
abbrev IsLaps (S : Blk) (w : World) (v : Value) (l : List Lp) : Prop := IsRow 3 LapR S w v l
theorem Try.inf173 : (Try.prog.info? 173).map (fun i => (i.zero, i.size, i.bytes)) = some (some (.agg #[.int .i64 0, .slice none 0 0, .slice none 0 0]), 3, 56) := by kernel_rfl

theorem lapP_zero (fb : Fb) (r : Ru) (t : List Int) (ps : Nat → Bool) : lapP fb r t ps 0 = [] := rfl
theorem lapP_succ (fb : Fb) (r : Ru) (t : List Int) (ps : Nat → Bool) (k : Nat) : lapP fb r t ps (k + 1) = lapP fb r t ps k ++ (lapO fb r t ps k).toList := by
  unfold lapP
  rw [List.range_succ, List.filterMap_append]
  cases h : lapO fb r t ps k <;> simp [h]
theorem lapP_le (fb : Fb) (r : Ru) (t : List Int) (ps : Nat → Bool) : ∀ k, (lapP fb r t ps k).length ≤ k
  | 0 => by simp [lapP]
  | k + 1 => by
    have := lapP_le fb r t ps k
    rw [lapP_succ, List.length_append]
    cases lapO fb r t ps k <;> simp <;> omega
theorem laps_hit {fb : Fb} {r : Ru} {t : List Int} {ps : Nat → Bool} {k : Nat} (hk : k < t.length) (h : lapB fb r t ps k = true) : lapsE fb r t ps = 2 ∧ lapsL fb r t ps = [] := by
  have : lapsB fb r t ps = true := List.any_eq_true.2 ⟨k, List.mem_range.2 hk, h⟩
  unfold lapsE lapsL
  rw [if_pos this, if_pos this]
  exact ⟨rfl, rfl⟩
theorem laps_none {fb : Fb} {r : Ru} {t : List Int} {ps : Nat → Bool} (h : ∀ k, k < t.length → lapB fb r t ps k = false) : lapsE fb r t ps = 0 ∧ lapsL fb r t ps = lapP fb r t ps t.length := by
  have : ¬ lapsB fb r t ps = true := by
    rw [Bool.not_eq_true]
    exact List.any_eq_false.2 fun k hk => by rw [h k (List.mem_range.1 hk)]; decide
  unfold lapsE lapsL
  rw [if_neg this, if_neg this]
  exact ⟨rfl, rfl⟩
theorem lap_pass {fb : Fb} {r : Ru} {t : List Int} {ps : Nat → Bool} {k : Nat} (h : nth t k < 0 ∨ ps k = true) : lapO fb r t ps k = none ∧ lapB fb r t ps k = false := by
  have hb : (decide (nth t k < 0) || ps k) = true := by
    rcases h with h | h
    · rw [decide_eq_true h]; rfl
    · rw [h, Bool.or_true]
  unfold lapO lapB
  rw [if_pos hb, hb]
  exact ⟨rfl, rfl⟩
theorem lap_on {fb : Fb} {r : Ru} {t : List Int} {ps : Nat → Bool} {k : Nat} (h0 : 0 ≤ nth t k) (hp : ps k = false) :
    lapO fb r t ps k = (if (lapX fb r t k).2.1 = true then some (k, (lapX fb r t k).1, lapTo fb r t k) else none) ∧ lapB fb r t ps k = (decide ((lapX fb r t k).2.2 ≠ 0) || ((lapX fb r t k).2.1 && decide (30 < (lapTo fb r t k).length))) := by
  have hb : (decide (nth t k < 0) || ps k) = false := by rw [decide_eq_false (by omega), hp]; rfl
  unfold lapO lapB
  rw [if_neg (by rw [hb]; decide), hb]
  exact ⟨rfl, rfl⟩

end Go.Proofs.Ytepddehodmljeaa

namespace Go.Proofs.Ytepddehodmljeaa
open Go.RowKit Go.Maps

/-- What is asked of the function that passes places over. -/
def PassC (g : Nat) (cap : Array Value) (ps : Nat → Bool) (t : List Int) (w : World) : Prop :=
  ∀ k W, k < t.length → Below w.heap.size w W → Calls Try.prog g (#[.int .i64 (k : Int)] ++ cap) W fun e W' => e = .returned (.bool (ps k)) ∧ W = W'

set_option maxHeartbeats 4000000 in
set_option maxRecDepth 100000 in
theorem Laps_calls {fb : Fb} (hfb : FbOk fb) (r : Ru) (t : List Int) (hr : ruleE r = 0) (ht : chk t = 0) (u v x : Value) (w : World) (hu : IsInts Any w u r.1) (hv : IsInts Any w v r.2) (hx : IsInts Any w x t)
    (g : Nat) (cap : Array Value) (ps : Nat → Bool) (hg : Enters g) (hps : PassC g cap ps t w) :
    Calls Try.prog 161 #[.agg #[u, v], x, .func (.func g) #[] cap] w fun e w' => ∃ y, e = .returned (.tuple #[y, .int .i64 (lapsE fb r t ps)]) ∧ IsLaps (Fr w.heap.size) w' y (lapsL fb r t ps) ∧ Below w.heap.size w w' := by
  obtain ⟨i173, hi, hz, hsz, hby⟩ := info_parts Try.inf173
  obtain ⟨g1, g2, g3, g4, g5, g6⟩ := ruleE_all hr
  have he' : ∀ args w, (callFunc g args).run Try.prog w = .ok (.enter g args) w := hg
  have htl := len_of_chk ht
  have HX := Lib.hid hx
  have HT := Lib.hid ht
  have HR := Lib.hid hr
  have HP := Lib.hid hps
  have HFB := Lib.hid hfb
  obtain ⟨u1, u2, rfl⟩ := hu.isSlice
  obtain ⟨v1, v2, rfl⟩ := hv.isSlice
  obtain ⟨xa, xc, rfl⟩ := hx.isSlice
  obtain ⟨W0, hW0⟩ : ∃ W0, W0 = w.alloc (.cells #[.slice u1 r.1.length u2, .slice v1 r.2.length v2] 102) := ⟨_, rfl⟩
  have hB0 : Below w.heap.size w W0 := by rw [hW0]; exact below_alloc _ _
  have c0 : W0.cell? ⟨w.heap.size, 0, none⟩ = some (.slice u1 r.1.length u2) := by rw [hW0]; simp [go_sem]
  have c1 : W0.cell? ⟨w.heap.size, 1, none⟩ = some (.slice v1 r.2.length v2) := by rw [hW0]; simp [go_sem]
  have hzW : w.heap.size < W0.heap.size := by rw [hW0]; simp
  have hA : Hid (∀ W, Below W0.heap.size W0 W → Calls Try.prog 194 #[.slice u1 r.1.length u2] W fun e W' => ∃ x, e = .returned x ∧ IsInts (Fr W.heap.size) W' x (othT r.1) ∧ Below W.heap.size W W') := fun W hb =>
    Other_calls r.1 (signs_of_chk g1) (by have := len_of_chk g1; omega) _ W (hu.below (ext_trans hB0 (hb.mono (Nat.le_refl _))))
  have hBB : Hid (∀ W, Below W0.heap.size W0 W → Calls Try.prog 194 #[.slice v1 r.2.length v2] W fun e W' => ∃ x, e = .returned x ∧ IsInts (Fr W.heap.size) W' x (othT r.2) ∧ Below W.heap.size W W') := fun W hb =>
    Other_calls r.2 (signs_of_chk g2) (by have := len_of_chk g2; omega) _ W (hv.below (ext_trans hB0 (hb.mono (Nat.le_refl _))))
  have hS : Hid (∀ W, Below W0.heap.size W0 W → W.cell? ⟨w.heap.size, 0, none⟩ = some (.slice u1 r.1.length u2) ∧ W.cell? ⟨w.heap.size, 1, none⟩ = some (.slice v1 r.2.length v2)) := fun W hb =>
    ⟨(hb.cell (p := ⟨w.heap.size, 0, none⟩) hzW).trans c0, (hb.cell (p := ⟨w.heap.size, 1, none⟩) hzW).trans c1⟩
  have hBW := Lib.hid hB0
  have hol1 : (othT r.1).length = r.1.length := by rw [othT, List.length_map]
  have hol2 : (othT r.2).length = r.2.length := by rw [othT, List.length_map]
  have hsig2 := Lib.hid (signs_of_chk (othT_chk g2 g4))
  have hl2 := len_of_chk g2
  have hc1 := Lib.hid (othT_chk g1 g3)
  have HL1 := Lib.hid hol1
  have HL2 := Lib.hid hol2
  clear hu hv hx hg hps hr ht hfb g1 g2 g3 g4 g5 g6 hB0 c0 c1 hol1 hol2
  go_enter Try.func161, Try.ntmps161
  go_wp2_with fail
  rw [← hW0]
  clear hW0
  go_region_held3 (fun W => W.cell? ⟨w.heap.size, 0, none⟩ = some (.slice u1 r.1.length u2) ∧ W.cell? ⟨w.heap.size, 1, none⟩ = some (.slice v1 r.2.length v2))
    (first | exact hS.out _ (below_drew _ W0) | exact hS.out _ HA1.out.2 | exact hS.out _ HB1.out.2)
    (first
    | (go_at_call 194; (with_reducible refine (hA.out W0.drew (below_drew _ W0)).mono ?_); rintro e wa ⟨ya, rfl, hya, hb⟩; have HA1 := Lib.hid (And.intro hya (ext_trans (below_drew _ W0) hb)); clear hya hb)
    | (go_at_call 194; (with_reducible refine (hBB.out wa HA1.out.2).mono ?_); rintro e wb ⟨yb, rfl, hyb, hb⟩; have HB1 := Lib.hid (And.intro hyb (ext_trans HA1.out.2 hb)); have HA2 := Lib.hid (HA1.out.1.any.below hb); clear hyb hb))
  have HO1 := Lib.hid HA2.out
  have HO2 := Lib.hid HB1.out.1.any
  have hBb := Lib.hid (ext_trans hBW.out HB1.out.2)
  obtain ⟨a1, a2, rfl⟩ := HO1.out.isSlice
  obtain ⟨b1, b2, rfl⟩ := HO2.out.isSlice
  clear HA1 HB1 HA2 hA hBB hS
  go_wp2_with fail
  go_loopw [10, 25] (fun out i wr => ∃ k : Nat, k ≤ t.length ∧ i = .int .i64 k ∧ Hid (OwnRow wb.heap.size 173 3 LapR (Fr w.heap.size) wr out (lapP fb r t ps k)) ∧ Hid (Below wb.heap.size wb wr) ∧ Hid (∀ j, j < k → lapB fb r t ps j = false)) (fun _ i _ => t.length - (intOf i).toNat)
  case atStart => exact ⟨0, Nat.zero_le _, rfl, OwnRow.nil _ _ _ _, .refl _ _, fun j hj => by omega⟩
  case round =>
    rename World => wr
    obtain ⟨k, hk, rfl, hO, hB, hN⟩ := hrel
    have hBr := Lib.hid (ext_trans hBb.out hB.out)
    by_cases hlt : k < t.length
    · have hkk : (k : Int) < t.length := by omega
      have hXr := Lib.hid (HX.out.below hBr.out)
      obtain ⟨xb, xo, xd, ex⟩ := hXr.out.cells (by intro h; rw [h] at hlt; simp at hlt)
      cases ex
      have hcx := hXr.out.cell hlt
      by_cases h0 : nth t k < 0
      · obtain ⟨e1, e2⟩ := lap_pass (fb := fb) (r := r) (t := t) (ps := ps) (.inl h0)
        have hs := Lib.hid (lapP_succ fb r t ps k)
        rw [e1, Option.toList_none, List.append_nil] at hs
        have hN' : Hid (∀ j, j < k + 1 → lapB fb r t ps j = false) := fun j hj => by
          by_cases e : j = k
          · subst e; exact e2
          · exact hN.out j (by omega)
        clear e1 e2
        generalize nth t k = z at *
        go_wp2_with fail
        go_roundw
        case rel => exact ⟨k + 1, by omega, by go_num, by rw [hs.out]; exact hO.out, hB.out, hN'.out⟩
        case measure => simp [intOf]; omega
      · have hpk := Lib.hid (HP.out k wr hlt hBr.out)
        cases hp : ps k with
        | true =>
          rw [hp] at hpk
          obtain ⟨e1, e2⟩ := lap_pass (fb := fb) (r := r) (t := t) (ps := ps) (.inr hp)
          have hs := Lib.hid (lapP_succ fb r t ps k)
          rw [e1, Option.toList_none, List.append_nil] at hs
          have hN' : Hid (∀ j, j < k + 1 → lapB fb r t ps j = false) := fun j hj => by
            by_cases e : j = k
            · subst e; exact e2
            · exact hN.out j (by omega)
          clear e1 e2 hp
          generalize nth t k = z at *
          go_wp2_with fail
          refine hpk.out.mono ?_
          rintro e w' ⟨rfl, rfl⟩
          go_wp2_with fail
          go_roundw
          case rel => exact ⟨k + 1, by omega, by go_num, by rw [hs.out]; exact hO.out, hB.out, hN'.out⟩
          case measure => simp [intOf]; omega
        | false =>
          rw [hp] at hpk
          obtain ⟨e1, e2⟩ := lap_on (fb := fb) (r := r) (t := t) (ps := ps) (k := k) (by omega) hp
          have hk0 : 0 ≤ nth t k := by omega
          have hpt := part_at HT.out hlt
          have hA := Lib.hid (At_calls Any t (small_of_signs (signs_of_chk HT.out)) _ k (enT t k) wr hXr.out hpt.1 hpt.2.1 hpt.2.2.1)
          have hcp := Lib.hid (chk_paT HT.out hlt)
          have hXS := Lib.hid hXr.out.isSlice
          have E1 := Lib.hid e1
          have E2 := Lib.hid e2
          have Hk0 := Lib.hid hk0
          have hgx : (decide (nth t k < 0)) = false := decide_eq_false h0
          clear hp e1 e2 hpt hk0
          generalize nth t k = z at *
          go_wp2_with fail
          refine hpk.out.mono ?_
          rintro e w' ⟨rfl, rfl⟩
          go_wp2_with fail
          refine hA.out.mono ?_
          rintro e w' ⟨pv, rfl, hpv, rfl⟩
          have hpv : IsInts Any wr pv (paT t k) := hpv
          obtain ⟨pa, pc, rfl⟩ := hpv.isSlice
          have hSol := Lib.hid (Solve_calls [(paT t k, othT r.1)] _ _ (lit_prs1 (n := wr.heap.size) rfl (r := (paT t k, othT r.1)) 65 hpv (HO1.out.below hB.out)) (fun p hp => by simp at hp; subst hp; exact ⟨hcp.out, hc1.out⟩) (by simp))
          clear hA hpv
          go_wp2_with fail
          refine hSol.out.mono ?_
          rintro e w2 ⟨s, is, er, sv, rfl, hs, hsv, hb2⟩
          obtain ⟨q1, q2, q3⟩ := solX_eq HFB.out (l := [(tmOf (paT t k), tmOf (othT r.1))]) (fun p hp => by simp at hp; subst hp; exact rtP_of hcp.out hc1.out) hs
          have Q1 : Hid (s = (lapX fb r t k).1) := q1
          have Q2 : Hid (is = (lapX fb r t k).2.1) := q2
          have Q3 : Hid (er = (lapX fb r t k).2.2) := q3
          have hse := (solveR_e hs).1
          have hb2' := Lib.hid (ext_trans (below_alloc wr _) hb2)
          have hSV := Lib.hid (IsRow.mono TermR.ok hsv (S' := Fr wr.heap.size) (.weak fun b hb => by have h1 : (wr.alloc (.cells _ 65)).heap.size ≤ b := hb; simp at h1; show wr.heap.size ≤ b; omega))
          have hO2 := Lib.hid (hO.out.below LapR.ok hb2'.out)
          have hB2 := Lib.hid (ext_trans hB.out hb2'.out)
          obtain ⟨sa, sc, rfl⟩ := hsv.isSlice
          clear q1 q2 q3 hs hsv hb2 hSol hpk
          rcases hse with rfl | rfl
          · cases is with
            | false =>
              have hs := Lib.hid (lapP_succ fb r t ps k)
              rw [E1.out, ← Q2.out, if_neg (by decide), Option.toList_none, List.append_nil] at hs
              have hN' : Hid (∀ j, j < k + 1 → lapB fb r t ps j = false) := fun j hj => by
                by_cases e : j = k
                · subst e; rw [E2.out, ← Q2.out, ← Q3.out]; rfl
                · exact hN.out j (by omega)
              go_wp2_with fail
              go_roundw
              case rel => exact ⟨k + 1, by omega, by go_num, by rw [hs.out]; exact hO2.out, hB2.out, hN'.out⟩
              case measure => simp [intOf]; omega
            | true =>
              obtain ⟨θ, hθ⟩ := lap_yes HFB.out HR.out HT.out hlt Q2.out.symm
              have hRt : Hid (RightS s) := by rw [Hid, Q1.out]; exact hθ.right
              have hpl : (puT t k (othT r.2)).length ≤ 100 := by
                have h2 := len_of_chk HT.out
                have h3 := HL2.out
                unfold puT
                simp only [List.length_append, List.length_take, List.length_drop]
                omega
              have hps2 := Lib.hid (signs_puT (signs_of_chk HT.out) hsig2.out k)
              have hLa := Lib.hid (Laid_calls t (othT r.2) _ _ k w2 HT.out (by rw [HL2.out]; omega) hlt (hXr.out.below hb2'.out) (HO2.out.below hB2.out))
              clear hθ
              go_wp2_with fail
              refine hLa.out.mono ?_
              rintro e w3 ⟨z3, rfl, hz3, hb3⟩
              have hBy := Lib.hid (By_calls s (puT t k (othT r.2)) _ _ w3 hRt.out hps2.out (by omega) (IsRow.any TermR.ok (hSV.out.below TermR.ok hb3)) hz3.any)
              have hto : Hid (lapTo fb r t k = app s (puT t k (othT r.2))) := by rw [Q1.out]; rfl
              have hb3' := Lib.hid hb3
              obtain ⟨za, zc, rfl⟩ := hz3.isSlice
              clear hz3 hb3 hLa
              go_wp2_with fail
              refine hBy.out.mono ?_
              rintro e w4 ⟨z4, rfl, hz4, hb4⟩
              rw [← hto.out] at hz4
              have hb24 := Lib.hid (ext_trans hb3'.out hb4)
              have hO4 := Lib.hid (hO2.out.below LapR.ok hb24.out)
              have hS4 := Lib.hid (hSV.out.below TermR.ok hb24.out)
              have hB4 := Lib.hid (ext_trans hB2.out hb24.out)
              have hBw := Lib.hid (ext_trans hBb.out hB4.out)
              have hZ4 := Lib.hid hz4
              have hown : ∀ b, u10.ownBlock = some b → b < wr.heap.size := fun b hb => (hO.out.block b hb).2
              have hw3 : wr.heap.size ≤ w3.heap.size := Nat.le_trans hb2'.out.size hb3'.out.size
              have hwr : w.heap.size ≤ wr.heap.size := hBr.out.size
              obtain ⟨qa, qc, rfl⟩ := hz4.isSlice
              clear hz4 hb4 hBy
              by_cases hbig : 30 < (lapTo fb r t k).length
              · have hF := Lib.hid (Fits_big _ _ w4 hZ4.out.any hbig)
                have hE := Lib.hid (laps_hit hlt (E2.out.trans (by rw [← Q2.out, ← Q3.out, decide_eq_true hbig]; rfl)))
                clear hbig
                go_wp2_with fail
                refine hF.out.mono ?_
                rintro e w' ⟨rfl, rfl⟩
                go_wp2_with fail
                go_ret2
                rw [hE.out.1, hE.out.2]
                exact ⟨_, rfl, .nil _ _, hBw.out⟩
              · have hF := Lib.hid (Fits_ok _ _ w4 hZ4.out.any (by omega))
                have hs := Lib.hid (lapP_succ fb r t ps k)
                rw [E1.out, ← Q2.out, if_pos rfl, Option.toList_some, ← Q1.out] at hs
                have hN' : Hid (∀ j, j < k + 1 → lapB fb r t ps j = false) := fun j hj => by
                  by_cases e : j = k
                  · subst e; rw [E2.out, ← Q2.out, ← Q3.out, decide_eq_false hbig]; rfl
                  · exact hN.out j (by omega)
                clear hbig
                go_wp2_with fail
                refine hF.out.mono ?_
                rintro e w' ⟨rfl, rfl⟩
                have hel : Hid (LapR (Both' (Fr w.heap.size) (Off u10)) w4 [.int .i64 k, .slice sa s.length sc, .slice qa (lapTo fb r t k).length qc] (k, s, lapTo fb r t k)) :=
                  ⟨_, _, rfl, IsRow.mono TermR.ok hS4.out (.weak fun b hb => by
                    have h1 : wr.heap.size ≤ b := hb
                    exact ⟨by show w.heap.size ≤ b; omega, fun e => by have := hown b e; omega⟩), hZ4.out.mono (.weak fun b hb => by
                    have h1 : w3.heap.size ≤ b := hb
                    exact ⟨by show w.heap.size ≤ b; omega, fun e => by have := hown b e; omega⟩)⟩
                have hl1 : Hid (((lapP fb r t ps k).length + 1) * 56 ≤ 100000000) := by
                  have := lapP_le fb r t ps k
                  rw [Hid]; omega
                have hw4 : Hid (wb.heap.size ≤ w4.heap.size) := hB4.out.size
                go_wp2_with (at_builtin; refine app_one LapR.ok _ _ 169 rfl rfl wb.heap.size 173 i173 (.agg #[.int .i64 0, .slice none 0 0, .slice none 0 0]) 56 Try.underlying169 hi hz hsz hby rfl (by decide) hO4.out (us := [.int .i64 k, .slice sa s.length sc, .slice qa (lapTo fb r t k).length qc]) (y := (k, s, lapTo fb r t k)) rfl rfl rfl ?c1 hel.out hl1.out (by decide) hw4.out ?c4; rotate_left 1; intro v' w5 hown5 hb5 hk5 _)
                case c1 => intro u hu; simp at hu; rcases hu with rfl | rfl | rfl <;> rfl
                go_roundw
                case rel =>
                  refine ⟨k + 1, by omega, by go_num, ?_, ?_, hN'.out⟩
                  · rw [hs.out]; exact hown5
                  · exact hB4.out.trans hb5
                case measure => simp [intOf]; omega
          · have hE := Lib.hid (laps_hit hlt (E2.out.trans (by rw [← Q3.out]; rfl)))
            go_wp2_with fail
            go_ret2
            rw [hE.out.1, hE.out.2]
            exact ⟨_, rfl, .nil _ _, ext_trans hBr.out hb2'.out⟩
    · obtain rfl : k = t.length := by omega
      have hE := Lib.hid (laps_none hN.out)
      go_wp2_with fail
      go_ret2
      rw [hE.out.1, hE.out.2]
      refine ⟨_, rfl, hO.out.isRow LapR.ok (fun b h => h) (fun b h => Nat.le_trans hBb.out.size h) ?_, hBr.out⟩
      have := lapP_le fb r t ps t.length
      omega

end Go.Proofs.Ytepddehodmljeaa

namespace Go.Proofs.Ytepddehodmljeaa
open Go.RowKit Go.Maps

theorem Two1_calls (k i j : Nat) (p q : Addr) (w : World) (h1 : w.cell? p = some (.int .i64 (i : Int))) (h2 : w.cell? q = some (.int .i64 (j : Int))) :
    Calls Try.prog 192 #[.int .i64 (k : Int), .pointer (some p), .pointer (some q)] w fun e w' => e = .returned (.bool (psX i j k)) ∧ w = w' := by
  by_cases hij : i = j
  · subst hij
    have hr : Hid (psX i i k = decide ((k : Int) = 0)) := by
      unfold psX
      rw [Hid, decide_eq_true rfl, Bool.true_and]
      exact decide_eq_decide.2 (by omega)
    go_enter Try.func192, Try.ntmps192
    go_wp2_with fail
    go_ret
    exact ⟨by rw [hr.out]; rfl, rfl⟩
  · have hr : Hid (psX i j k = false) := by
      unfold psX
      rw [Hid, decide_eq_false hij, Bool.false_and]
    have hne : ((i : Int) == j) = false := by simp; omega
    have hne2 : ¬ (i : Int) = j := by omega
    clear hij
    go_enter Try.func192, Try.ntmps192
    go_wp2_with fail
    go_ret
    exact ⟨ret_bool hr.out.symm, rfl⟩

def nthL (l : List Lp) (j : Nat) : Lp := l.getD j (0, [], [])
theorem nthL_eq {l : List Lp} {j : Nat} (h : j < l.length) : nthL l j = l[j] := by simp [nthL, h]
theorem nthL_mem {l : List Lp} {j : Nat} (h : j < l.length) : nthL l j ∈ l := by rw [nthL_eq h]; exact List.getElem_mem h
theorem laps_cell {S : Blk} {w : World} {v : Value} {l : List Lp} (h : IsLaps S w v l) {j : Nat} (hj : j < l.length) :
    ∃ b o c u x, v = .slice (some ⟨b, o, none⟩) l.length c ∧ b < w.heap.size ∧ w.cell? ⟨b, o + j * 3, none⟩ = some (.int .i64 (nthL l j).1) ∧ w.cell? ⟨b, o + j * 3 + 1, none⟩ = some u ∧
      w.cell? ⟨b, o + j * 3 + 2, none⟩ = some x ∧ IsTerms S w u (nthL l j).2.1 ∧ IsInts S w x (nthL l j).2.2 := by
  obtain ⟨hl, ⟨rfl, -⟩ | ⟨hne, b, o, c, rfl, -, hS, hlt, cs, he, hc⟩⟩ := h
  · simp at hj
  obtain ⟨us, hul, hget, u, x, rfl, hu, hx⟩ := he.get j hj
  refine ⟨b, o, c, u, x, rfl, hlt, ?_, ?_, ?_, by rw [nthL_eq hj]; exact hu, by rw [nthL_eq hj]; exact hx⟩
  · have := hget 0 (by omega)
    rw [nthL_eq hj, hc (j * 3) _ (by simpa using this)]
  · have := hget 1 (by omega)
    rw [Nat.add_assoc, hc (j * 3 + 1) _ (by simpa using this)]
  · have := hget 2 (by omega)
    rw [Nat.add_assoc, hc (j * 3 + 2) _ (by simpa using this)]

theorem Try.inf65 : (Try.prog.info? 65).map (fun i => (i.zero, i.size, i.bytes)) = some (some (.agg #[.slice none 0 0, .slice none 0 0]), 2, 48) := by kernel_rfl

/-- Behind k laps. -/
def twoK (ri : Ru) (ls : List Lp) (k : Nat) : List Ru := (ls.take k).map (twoPr ri)
theorem twoK_succ {ri : Ru} {ls : List Lp} {k : Nat} (h : k < ls.length) : twoK ri ls (k + 1) = twoK ri ls k ++ [twoPr ri (nthL ls k)] := by
  rw [twoK, List.take_succ_eq_append_getElem h, List.map_append, ← nthL_eq h]; rfl
theorem twoK_len (ri : Ru) (ls : List Lp) (k : Nat) : (twoK ri ls k).length ≤ k := by
  rw [twoK, List.length_map, List.length_take]; omega

set_option maxHeartbeats 4000000 in
set_option maxRecDepth 100000 in
theorem Two_calls {fb : Fb} (hfb : FbOk fb) (l : Rus) (hl : Rul l) (i j : Nat) (hli : i < l.length) (hlj : j < l.length) (v : Value) (w : World) (hv : IsRules Any w v l) :
    Calls Try.prog 159 #[v, .int .i64 (i : Int), .int .i64 (j : Int)] w fun e w' => ∃ y, e = .returned (.tuple #[y, .int .i64 (twoE fb l i j)]) ∧ IsRules (Fr w.heap.size) w' y (twoL fb l i j) ∧ Below w.heap.size w w' := by
  obtain ⟨i65, hi, hz, hsz, hby⟩ := info_parts Try.inf65
  obtain ⟨hlen, ⟨rfl, -⟩ | ⟨b, o, c, rfl, hlt, -, hc⟩⟩ := hv.cells
  · simp at hli
  have HV := Lib.hid hv
  have HFB := Lib.hid hfb
  have HL := Lib.hid hl
  have hll := hl.1
  obtain ⟨ui, xi, cui, cxi, hui, hxi⟩ := hc i hli
  obtain ⟨uj, xj, cuj, cxj, huj, hxj⟩ := hc j hlj
  have hri := hl.2 _ (nthR_mem hli)
  have hrj := hl.2 _ (nthR_mem hlj)
  obtain ⟨g1, g2, -⟩ := ruleE_all hri
  obtain ⟨W0, hW0⟩ : ∃ W0, W0 = (w.alloc (.cells #[.int .i64 (i : Int)] 3)).alloc (.cells #[.int .i64 (j : Int)] 3) := ⟨_, rfl⟩
  have hB0 : Below w.heap.size w W0 := by rw [hW0]; exact ext_alloc (below_alloc _ _) _
  have e0 : W0.cell? ⟨w.heap.size, 0, none⟩ = some (.int .i64 (i : Int)) := by rw [hW0]; simp [go_sem]
  have e1 : W0.cell? ⟨w.heap.size + 1, 0, none⟩ = some (.int .i64 (j : Int)) := by rw [hW0]; simp [go_sem]
  have hzW : w.heap.size + 1 < W0.heap.size := by rw [hW0]; simp
  have hcells : Hid (∀ W, Below W0.heap.size W0 W → W.cell? ⟨w.heap.size, 0, none⟩ = some (.int .i64 (i : Int)) ∧ W.cell? ⟨w.heap.size + 1, 0, none⟩ = some (.int .i64 (j : Int)) ∧
      W.cell? ⟨b, o + i * 2, none⟩ = some ui ∧ W.cell? ⟨b, o + i * 2 + 1, none⟩ = some xi ∧ W.cell? ⟨b, o + j * 2, none⟩ = some uj ∧ W.cell? ⟨b, o + j * 2 + 1, none⟩ = some xj) := fun W hb => by
    have hB := ext_trans hB0 hb
    exact ⟨(hb.cell (p := ⟨w.heap.size, 0, none⟩) (by simp; omega)).trans e0, (hb.cell (p := ⟨w.heap.size + 1, 0, none⟩) (by simp; omega)).trans e1, (hB.cell (p := ⟨b, o + i * 2, none⟩) hlt).trans cui, (hB.cell (p := ⟨b, o + i * 2 + 1, none⟩) hlt).trans cxi, (hB.cell (p := ⟨b, o + j * 2, none⟩) hlt).trans cuj, (hB.cell (p := ⟨b, o + j * 2 + 1, none⟩) hlt).trans cxj⟩
  have hla : Hid (Calls Try.prog 161 #[.agg #[uj, xj], ui, .func (.func 192) #[] #[.pointer (some ⟨w.heap.size, 0, none⟩), .pointer (some ⟨w.heap.size + 1, 0, none⟩)]] W0.drew fun e w' => ∃ y, e = .returned (.tuple #[y, .int .i64 (lapsE fb (nthR l j) (nthR l i).1 (psX i j))]) ∧
      IsLaps (Fr W0.drew.heap.size) w' y (lapsL fb (nthR l j) (nthR l i).1 (psX i j)) ∧ Below W0.drew.heap.size W0.drew w') := by
    have hd := below_drew W0.heap.size W0
    refine Laps_calls hfb (nthR l j) (nthR l i).1 hrj g1 uj xj ui W0.drew (huj.below (ext_trans hB0 hd)) (hxj.below (ext_trans hB0 hd)) (hui.below (ext_trans hB0 hd)) 192 _ (psX i j) (enters_fn Try.func192 (by kernel_rfl) rfl) fun k W _ hb => ?_
    obtain ⟨c1, c2, -⟩ := hcells.out W (ext_trans hd hb)
    exact Two1_calls k i j _ _ W c1 c2
  have hmf : ∀ (fn : Fn) (first cap : Array Value) (w : World), (Instr.makeFunc fn first cap).run Try.prog w = .ok (.func fn first cap) w := fun _ _ _ _ => rfl
  have hBW := Lib.hid hB0
  obtain ⟨f0, f1, f2, f3, f4, f5⟩ := hcells.out W0.drew (below_drew _ W0)
  have hii : (i : Int) < l.length := by omega
  have hjj : (j : Int) < l.length := by omega
  have HXI := Lib.hid hxi
  have HG2 := Lib.hid g2
  clear hv hc hl hfb hri hrj g1 g2 hui hxi huj hxj cui cxi cuj cxj e0 e1 hB0
  go_enter Try.func159, Try.ntmps159
  go_wp2_with fail
  rw [← hW0]
  clear hW0
  go_region_held3 (fun W => W.cell? ⟨w.heap.size, 0, none⟩ = some (.int .i64 (i : Int)) ∧ W.cell? ⟨w.heap.size + 1, 0, none⟩ = some (.int .i64 (j : Int)) ∧
      W.cell? ⟨b, o + i * 2, none⟩ = some ui ∧ W.cell? ⟨b, o + i * 2 + 1, none⟩ = some xi ∧ W.cell? ⟨b, o + j * 2, none⟩ = some uj ∧ W.cell? ⟨b, o + j * 2 + 1, none⟩ = some xj)
    (first | exact hcells.out _ (below_drew _ W0) | exact hcells.out _ HA1.out.2)
    (first | (go_at_call 161; (with_reducible refine hla.out.mono ?_); rintro e wa ⟨ya, rfl, hya, hb⟩; have HA1 := Lib.hid (And.intro hya (ext_trans (below_drew _ W0) hb)); clear hya hb))
  have hBa := Lib.hid (ext_trans hBW.out HA1.out.2)
  have hH0 := Lib.hid HA1.out.1
  have HAB := Lib.hid HA1.out.2
  clear HA1 hla f0 f1 f2 f3 f4 f5
  have hri := HL.out.2 _ (nthR_mem hli)
  have hrj := HL.out.2 _ (nthR_mem hlj)
  have a1 := (ruleE_all hri).1
  by_cases hLB : lapsB fb (nthR l j) (nthR l i).1 (psX i j) = true
  · have hE : Hid (lapsE fb (nthR l j) (nthR l i).1 (psX i j) = 2) := by unfold lapsE; rw [Hid, if_pos hLB]
    have hT : Hid (twoE fb l i j = 2) := by unfold twoE; rw [Hid, if_pos hLB]
    have hT2 : Hid (twoL fb l i j = []) := by unfold twoL; rw [Hid, if_neg (by rw [hT.out]; decide)]
    clear hLB hri hrj a1
    rw [hE.out]
    go_wp2_with fail
    go_ret2
    rw [hT.out, hT2.out]
    exact ⟨_, rfl, .nil _ _, hBa.out⟩
  have hLB' : lapsB fb (nthR l j) (nthR l i).1 (psX i j) = false := by simpa using hLB
  have hE : Hid (lapsE fb (nthR l j) (nthR l i).1 (psX i j) = 0) := by unfold lapsE; rw [Hid, if_neg hLB]
  have hEL : lapsL fb (nthR l j) (nthR l i).1 (psX i j) = lapsIJ fb l i j := by unfold lapsL; rw [if_neg hLB]; rfl
  have hT : Hid (twoE fb l i j = if twoB (nthR l i) (lapsIJ fb l i j) = true then 2 else 0) := by unfold twoE; rw [Hid, if_neg hLB]
  have hright : Hid (∀ x ∈ lapsIJ fb l i j, RightS x.2.1 ∧ chk x.2.2 = 0) := fun x hx => by
    obtain ⟨θ, hθ, hcx, -⟩ := lap_right HFB.out hrj a1 hLB' hx
    exact ⟨hθ.right, hcx⟩
  have hlen30 : (lapsIJ fb l i j).length ≤ 30 := Nat.le_trans (lapP_le ..) (len_of_chk a1)
  rw [hE.out]
  rw [hEL] at hH0
  clear hLB hLB' hEL hri hrj a1
  have HM : Hid (lapsIJ fb l i j = lapsIJ fb l i j) := rfl
  generalize hls : lapsIJ fb l i j = ls at *
  obtain ⟨ya1, ya2, rfl⟩ := hH0.out.isSlice
  have Hls := Lib.hid hls
  clear hls HM
  have hl30 : (ls.length : Int) ≤ 30 := by omega
  go_wp2_with fail
  go_loopw [10, 35] (fun out s35 wr => ∃ k : Nat, k ≤ ls.length ∧ s35 = .int .i64 k ∧ Hid (OwnRow wa.heap.size 65 2 RuleR (Fr w.heap.size) wr out (twoK (nthR l i) ls k)) ∧ Hid (Below wa.heap.size wa wr) ∧ Hid (∀ m, m < k → (twoTo (nthR l i) (nthL ls m)).length ≤ 30)) (fun _ s35 _ => ls.length - (intOf s35).toNat)
  case atStart => exact ⟨0, Nat.zero_le _, rfl, OwnRow.nil _ _ _ _, .refl _ _, fun m hm => by omega⟩
  case round =>
    rename World => wr
    obtain ⟨k, hk, rfl, hO, hB, hN⟩ := hrel
    have hBr := Lib.hid (ext_trans hBa.out hB.out)
    by_cases hlk : k < ls.length
    · have hkk : (k : Int) < ls.length := by omega
      obtain ⟨lb, lo, lc, sv, xv, e, hlb, d0, d1, d2, hsv, hxv⟩ := laps_cell (hH0.out.below LapR.ok hB.out) hlk
      cases e
      obtain ⟨sv1, sv2, rfl⟩ := hsv.isSlice
      obtain ⟨xv1, xv2, rfl⟩ := hxv.isSlice
      obtain ⟨hRt, hcx⟩ := hright.out _ (nthL_mem hlk)
      obtain ⟨W1, hW1⟩ : ∃ W1, W1 = wr.alloc (.cells #[.int .i64 ((nthL ls k).1 : Int), .slice sv1 (nthL ls k).2.1.length sv2, .slice xv1 (nthL ls k).2.2.length xv2] 173) := ⟨_, rfl⟩
      have hb1 : Below wr.heap.size wr W1 := by rw [hW1]; exact below_alloc _ _
      have f1 : W1.cell? ⟨wr.heap.size, 1, none⟩ = some (.slice sv1 (nthL ls k).2.1.length sv2) := by rw [hW1]; simp [go_sem]
      have f2 : W1.cell? ⟨wr.heap.size, 2, none⟩ = some (.slice xv1 (nthL ls k).2.2.length xv2) := by rw [hW1]; simp [go_sem]
      have hz1 : wr.heap.size < W1.heap.size := by rw [hW1]; simp
      have hcW : Hid (∀ W, Below W1.heap.size W1 W → W.cell? ⟨wr.heap.size, 1, none⟩ = some (.slice sv1 (nthL ls k).2.1.length sv2) ∧ W.cell? ⟨w.heap.size, 0, none⟩ = some (.int .i64 (i : Int)) ∧ W.cell? ⟨b, o + i * 2 + 1, none⟩ = some xi) := fun W hb => by
        obtain ⟨q0, -, -, q3, -⟩ := hcells.out W (ext_trans HAB.out (ext_trans hB.out (ext_trans hb1 hb)))
        exact ⟨(hb.cell (p := ⟨wr.heap.size, 1, none⟩) hz1).trans f1, q0, q3⟩
      have hBy := Lib.hid (By_calls (nthL ls k).2.1 (nthR l i).2 _ xi W1.drew hRt (signs_of_chk HG2.out) (by have := len_of_chk HG2.out; omega) (IsRow.any TermR.ok (hsv.below TermR.ok (ext_trans hb1 (below_drew _ W1)))) (HXI.out.below (ext_trans hBr.out (ext_trans hb1 (below_drew _ W1)))))
      have hXV := Lib.hid (hxv.any.below hb1)
      have HB1 := Lib.hid hb1
      have Hcx := Lib.hid hcx
      have hO1 := Lib.hid (hO.out.below RuleR.ok hb1)
      have hsg := Lib.hid (signs_app hRt (signs_of_chk HG2.out))
      clear hRt hcx hb1 hsv hxv f1
      by_cases hbig : 30 < (app (nthL ls k).2.1 (nthR l i).2).length
      · have hTB : Hid (twoB (nthR l i) ls = true) := List.any_eq_true.2 ⟨_, nthL_mem hlk, decide_eq_true hbig⟩
        have hFt : Hid (∀ v w, IsInts Any w v (app (nthL ls k).2.1 (nthR l i).2) → Calls Try.prog 99 #[v] w fun e w' => e = .returned (.tuple #[.slice none 0 0, .int .i64 2]) ∧ w = w') := fun v w hv => Fits_big _ v w hv hbig
        clear hbig
        go_wp2_with fail
        rw [← hW1]
        clear hW1
        go_region_held3 (fun W => W.cell? ⟨wr.heap.size, 1, none⟩ = some (.slice sv1 (nthL ls k).2.1.length sv2) ∧ W.cell? ⟨w.heap.size, 0, none⟩ = some (.int .i64 (i : Int)) ∧ W.cell? ⟨b, o + i * 2 + 1, none⟩ = some xi)
          (first | exact hcW.out _ (below_drew _ W1) | exact hcW.out _ HZ.out.2)
          (first
            | (go_at_call 100; (with_reducible refine hBy.out.mono ?_); rintro e w3 ⟨z3, rfl, hz3, hb3⟩; have HZ := Lib.hid (And.intro hz3 (ext_trans (below_drew _ W1) hb3)); have hF2 := Lib.hid (hFt.out z3 w3 hz3.any); clear hz3 hb3)
            | (go_at_call 99; (with_reducible refine hF2.out.mono ?_); rintro e w' ⟨rfl, rfl⟩))
        go_wp2_with fail
        go_ret2
        have hT2 : twoE fb l i j = 2 := by rw [hT.out, if_pos hTB.out]
        rw [hT2, twoL, if_neg (by rw [hT2]; decide)]
        exact ⟨_, rfl, .nil _ _, ext_trans hBr.out (ext_trans HB1.out HZ.out.2)⟩
      · have hFt : Hid (∀ v w, IsInts Any w v (app (nthL ls k).2.1 (nthR l i).2) → Calls Try.prog 99 #[v] w fun e w' => e = .returned (.tuple #[v, .int .i64 0]) ∧ w = w') := fun v w hv => Fits_ok _ v w hv (by omega)
        have hsm : Hid ((app (nthL ls k).2.1 (nthR l i).2).length ≤ 30) := by rw [Hid]; omega
        clear hbig
        go_wp2_with fail
        rw [← hW1]
        clear hW1
        go_region_held3 (fun W => W.cell? ⟨wr.heap.size, 1, none⟩ = some (.slice sv1 (nthL ls k).2.1.length sv2) ∧ W.cell? ⟨w.heap.size, 0, none⟩ = some (.int .i64 (i : Int)) ∧ W.cell? ⟨b, o + i * 2 + 1, none⟩ = some xi)
          (first | exact hcW.out _ (below_drew _ W1) | exact hcW.out _ HZ.out.2)
          (first
            | (go_at_call 100; (with_reducible refine hBy.out.mono ?_); rintro e w3 ⟨z3, rfl, hz3, hb3⟩; have HZ := Lib.hid (And.intro hz3 (ext_trans (below_drew _ W1) hb3)); have hF2 := Lib.hid (hFt.out z3 w3 hz3.any); clear hz3 hb3)
            | (go_at_call 99; (with_reducible refine hF2.out.mono ?_); rintro e w' ⟨rfl, rfl⟩))
        obtain ⟨za, zc, rfl⟩ := HZ.out.1.isSlice
        have f3 : w3.cell? ⟨wr.heap.size, 2, none⟩ = some (.slice xv1 (nthL ls k).2.2.length xv2) := (HZ.out.2.cell (p := ⟨wr.heap.size, 2, none⟩) hz1).trans f2
        have hSm := Lib.hid (Smooth_calls [(nthL ls k).2.2, app (nthL ls k).2.1 (nthR l i).2] _ _ (by simp) (by simp) (fun t ht => by
          simp at ht
          rcases ht with rfl | rfl
          · exact ⟨signs_of_chk Hcx.out, by have := len_of_chk Hcx.out; omega⟩
          · exact ⟨hsg.out, by have := hsm.out; omega⟩) (two_terms (hXV.out.below HZ.out.2) HZ.out.1.any 24))
        go_wp2_with fail
        refine hSm.out.mono ?_
        rintro e w5 ⟨bv, rfl, hbv, hb5⟩
        have hbv2 : OwnRow _ 24 1 TermR (Fr _) w5 bv [smo [] (nthL ls k).2.2, smo (seenA [] (nthL ls k).2.2) (app (nthL ls k).2.1 (nthR l i).2)] := hbv
        obtain ⟨gb, gc, cur, rfl, hgb, -, hgc⟩ := hbv2.at (by simp)
        obtain ⟨⟨t0, ct0, t0', et0, ht0⟩, -⟩ := hbv2.cell (k := 0) (by simp)
        obtain ⟨⟨t1, ct1, t1', et1, ht1⟩, -⟩ := hbv2.cell (k := 1) (by simp)
        cases et0
        cases et1
        obtain ⟨p1, p2, rfl⟩ := ht0.isSlice
        obtain ⟨p3, p4, rfl⟩ := ht1.isSlice
        have hB5 := Lib.hid (ext_trans (ext_trans HB1.out HZ.out.2) (ext_trans (below_alloc w3 _) hb5))
        have hB6 := Lib.hid (ext_trans hB5.out (below_drewN _ w5 1))
        have hO6 := Lib.hid (hO.out.below RuleR.ok hB6.out)
        have hz3 : Hid (wr.heap.size ≤ w3.heap.size) := (ext_trans HB1.out HZ.out.2).size
        have hown : ∀ b, u10.ownBlock = some b → b < wr.heap.size := fun b hb => (hO.out.block b hb).2
        have hwr : w.heap.size ≤ wr.heap.size := hBr.out.size
        have hmn : ∀ q : Nat, (w3.alloc (.cells #[.slice xv1 (nthL ls k).2.2.length xv2, .slice za (app (nthL ls k).2.1 (nthR l i).2).length zc] 24)).heap.size ≤ q → w.heap.size ≤ q ∧ u10.ownBlock ≠ some q := fun q hq => by
          have h0 := hz3.out
          simp at hq
          exact ⟨by omega, fun e => by have := hown q e; omega⟩
        have hel : Hid (RuleR (Both' (Fr w.heap.size) (Off u10)) (w5.drewN 1) [.slice p1 (smo [] (nthL ls k).2.2).length p2, .slice p3 (smo (seenA [] (nthL ls k).2.2) (app (nthL ls k).2.1 (nthR l i).2)).length p4] (twoPr (nthR l i) (nthL ls k))) :=
          ⟨_, _, rfl, (ht0.mono (.weak fun q hq => hmn q hq.1)).below (below_drewN _ w5 1), (ht1.mono (.weak fun q hq => hmn q hq.1)).below (below_drewN _ w5 1)⟩
        have hs := Lib.hid (twoK_succ (ri := nthR l i) hlk)
        have hl1 : Hid (((twoK (nthR l i) ls k).length + 1) * 48 ≤ 100000000) := by
          have := twoK_len (nthR l i) ls k
          rw [Hid]; omega
        have hw6 : Hid (wa.heap.size ≤ (w5.drewN 1).heap.size) := (ext_trans hB.out hB6.out).size
        have hBB6 := Lib.hid (ext_trans hB.out hB6.out)
        have hN' : Hid (∀ m, m < k + 1 → (twoTo (nthR l i) (nthL ls m)).length ≤ 30) := fun m hm => by
          by_cases e : m = k
          · subst e; exact hsm.out
          · exact hN.out m (by omega)
        have hS12 : Hid (∀ W, Keeps (fun q => u10.ownBlock = some q) w5 W → W.cell? ⟨gb, 0, none⟩ = some (.slice p1 (smo [] (nthL ls k).2.2).length p2) ∧ W.cell? ⟨gb, 1, none⟩ = some (.slice p3 (smo (seenA [] (nthL ls k).2.2) (app (nthL ls k).2.1 (nthR l i).2)).length p4)) := fun W hk => by
          have hgl : gb < w5.heap.size := World.block_lt_of_cell? _ _ ct0
          have hgn := (hmn gb hgb).2
          exact ⟨(World.cell?_of_block (w := w5) (a := ⟨gb, 0, none⟩) (hk.block gb hgl hgn)).trans ct0, (World.cell?_of_block (w := w5) (a := ⟨gb, 1, none⟩) (hk.block gb hgl hgn)).trans ct1⟩
        have hones : Hid (Ones [.slice p1 (smo [] (nthL ls k).2.2).length p2, .slice p3 (smo (seenA [] (nthL ls k).2.2) (app (nthL ls k).2.1 (nthR l i).2)).length p4]) := fun u hu => by
          simp at hu; rcases hu with rfl | rfl <;> rfl
        clear hbv hbv2 hb5 hSm ht0 ht1 hmn hown
        go_wp2_with fail
        go_region_held3 (fun W => W.cell? ⟨gb, 0, none⟩ = some (.slice p1 (smo [] (nthL ls k).2.2).length p2) ∧ W.cell? ⟨gb, 1, none⟩ = some (.slice p3 (smo (seenA [] (nthL ls k).2.2) (app (nthL ls k).2.1 (nthR l i).2)).length p4))
          (first | exact hS12.out _ (.of_below (below_drew _ w5)) | exact hS12.out _ (.of_below (ext_trans (below_alloc w5 _) (below_drew _ _))) | exact hS12.out _ (Keeps.trans (.of_below (below_drew _ w5)) hk7))
          ((refine step_app_one RuleR.ok _ _ 50 (by rfl) (by rfl) wa.heap.size 65 i65 (.agg #[.slice none 0 0, .slice none 0 0]) 48 Try.underlying50 hi hz hsz hby rfl (by decide) (by rfl) hO6.out (us := [.slice p1 (smo [] (nthL ls k).2.2).length p2, .slice p3 (smo (seenA [] (nthL ls k).2.2) (app (nthL ls k).2.1 (nthR l i).2)).length p4]) (y := twoPr (nthR l i) (nthL ls k)) (by rfl) (by rfl) rfl hones.out hel.out hl1.out (by decide) hw6.out (by rfl) ?_; intro v' w7 hown7 hb7 hk7 _))
        go_wp2_with fail
        go_roundw
        case rel =>
          refine ⟨k + 1, by omega, by go_num, ?_, ?_, hN'.out⟩
          · rw [hs.out]; exact hown7
          · exact hBB6.out.trans hb7
        case measure => simp [intOf]; omega
    · obtain rfl : k = ls.length := by omega
      have hTB : twoB (nthR l i) ls = false := List.any_eq_false.2 fun x hx => by
        obtain ⟨m, hm, rfl⟩ := List.getElem_of_mem hx
        have := hN.out m hm
        rw [nthL_eq hm] at this
        simpa using this
      have hT2 : Hid (twoE fb l i j = 0) := by rw [Hid, hT.out, hTB]; rfl
      have hT3 : Hid (twoL fb l i j = twoK (nthR l i) ls ls.length) := by rw [Hid, twoL, if_pos hT2.out, Hls.out, twoK, List.take_length]
      clear hTB
      go_wp2_with fail
      go_ret2
      rw [hT2.out, hT3.out]
      refine ⟨_, rfl, hO.out.isRow RuleR.ok (fun b h => h) (fun b h => Nat.le_trans hBa.out.size h) ?_, hBr.out⟩
      have := twoK_len (nthR l i) ls ls.length
      omega

end Go.Proofs.Ytepddehodmljeaa

namespace Go.Proofs.Ytepddehodmljeaa
open Go.RowKit Go.Maps

def pofE (fb : Fb) (l : Rus) (i j : Int) : Int := if rulesE l = 0 then (if 0 ≤ i ∧ i < l.length ∧ 0 ≤ j ∧ j < l.length then twoE fb l i.toNat j.toNat else 5) else rulesE l
def pofL (fb : Fb) (l : Rus) (i j : Int) : List Ru := if pofE fb l i j = 0 then twoL fb l i.toNat j.toNat else []

set_option maxRecDepth 100000 in
theorem POf_calls {fb : Fb} (hfb : FbOk fb) (l : Rus) (i j : Int) (v : Value) (w : World) (hv : IsRules Any w v l) :
    Calls Try.prog 94 #[v, .int .i64 i, .int .i64 j] w fun e w' => ∃ y, e = .returned (.tuple #[y, .int .i64 (pofE fb l i j)]) ∧ IsRules (Fr w.heap.size) w' y (pofL fb l i j) ∧ Below w.heap.size w w' := by
  have hR := Lib.hid (RCheck_calls l v w hv)
  obtain ⟨va, vc, rfl⟩ := hv.isSlice
  by_cases he : rulesE l = 0
  · have HE := Lib.hid he
    have hl := rulesE_zero.1 he
    by_cases hin : 0 ≤ i ∧ i < l.length ∧ 0 ≤ j ∧ j < l.length
    · have hP : Hid (pofE fb l i j = twoE fb l i.toNat j.toNat) := by rw [Hid, pofE, if_pos he, if_pos hin]
      have hPL : Hid (pofL fb l i j = twoL fb l i.toNat j.toNat) := by
        rw [Hid, pofL, hP.out]
        split
        · rfl
        · rename_i h; rw [twoL, if_neg h]
      obtain ⟨h1, h2, h3, h4⟩ := hin
      obtain ⟨m, rfl⟩ : ∃ m : Nat, i = m := ⟨i.toNat, by omega⟩
      obtain ⟨n, rfl⟩ : ∃ n : Nat, j = n := ⟨j.toNat, by omega⟩
      simp only [Int.toNat_natCast] at hP hPL
      have hT := Lib.hid fun W (hb : Below w.heap.size w W) => Two_calls hfb l hl m n (by omega) (by omega) _ W (hv.below RuleR.ok hb)
      clear hv he hl hfb
      go_enter Try.func94, Try.ntmps94
      go_wp2_with fail
      refine hR.out.mono ?_
      rintro e w1 ⟨rfl, hB1⟩
      rw [HE.out]
      go_wp2_with fail
      refine (hT.out w1 hB1).mono ?_
      rintro e w2 ⟨y, rfl, hy, hB2⟩
      have HY := Lib.hid hy
      clear hy
      go_wp2_with fail
      go_ret2
      rw [hP.out, hPL.out]
      exact ⟨y, rfl, IsRow.mono RuleR.ok HY.out (.weak fun b hb => Nat.le_trans hB1.size hb), ext_trans hB1 hB2⟩
    · have hP : Hid (pofE fb l i j = 5) := by rw [Hid, pofE, if_pos he, if_neg hin]
      have hPL : Hid (pofL fb l i j = []) := by rw [Hid, pofL, hP.out]; rfl
      clear hv he hl hfb
      rcases (by omega : i < 0 ∨ (0 ≤ i ∧ (l.length : Int) ≤ i) ∨ (0 ≤ i ∧ i < l.length ∧ j < 0) ∨ (0 ≤ i ∧ i < l.length ∧ 0 ≤ j ∧ (l.length : Int) ≤ j)) with h | ⟨h, h2⟩ | ⟨h, h2, h3⟩ | ⟨h, h2, h3, h4⟩
      all_goals
        clear hin
        go_enter Try.func94, Try.ntmps94
        go_wp2_with fail
        refine hR.out.mono ?_
        rintro e w1 ⟨rfl, hB1⟩
        rw [HE.out]
        go_wp2_with fail
        go_ret2
        rw [hP.out, hPL.out]
        exact ⟨_, rfl, .nil _ _, hB1⟩
  · have h' : (rulesE l != 0) = true := by simpa using he
    have hP : Hid (pofE fb l i j = rulesE l) := by rw [Hid, pofE, if_neg he]
    have hPL : Hid (pofL fb l i j = []) := by rw [Hid, pofL, hP.out, if_neg he]
    clear hv he hfb
    go_enter Try.func94, Try.ntmps94
    go_wp2_with fail
    refine hR.out.mono ?_
    rintro e w1 ⟨rfl, hB1⟩
    go_wp2_with fail
    go_ret2
    rw [hP.out, hPL.out]
    exact ⟨_, rfl, .nil _ _, hB1⟩

/-! ### append of pairs -/
theorem ones_rules {S : Blk} {w : World} : ∀ {cs : List Value} {ys : Rus}, Elems 2 RuleR S w cs ys → Ones cs
  | cs, [], h => by have : cs = [] := h; subst this; exact fun u hu => by cases hu
  | cs, y :: ys, ⟨us, rest, _, e, ⟨u, v, e2, h1, h2⟩, h⟩ => by
    subst e e2
    intro x hx
    rcases List.mem_append.1 hx with hx | hx
    · simp at hx
      rcases hx with rfl | rfl
      · exact h1.oneCell
      · exact h2.oneCell
    · exact ones_rules h x hx
theorem app_rules {P : Program} {w : World} {ops : Array Oper} {rest : List Oper} {o : Oper} {a : Act} {Q : Exit → Act → World → Prop} (s x : Operand) (t : TypeId) (hgd : o.guard = none)
    (ho : o.op = .call { callee := .builtin .append, args := #[s, x], argTypes := #[t, t] })
    (base : Nat) (e : TypeId) (i : TypeInfo) (ht : P.underlying t = some (.slice e)) (hi : P.info? e = some i) (hz : i.zero = some (.agg #[.slice none 0 0, .slice none 0 0])) (hsize : i.size = 2) (hby : i.bytes = 48)
    {S T : Blk} {xs ys : Rus} (hown : OwnRow base e 2 RuleR S w (a.eval s) xs) (hx : IsRules T w (a.eval x) ys) (hTS : ∀ b, T b → S b ∧ (a.eval s).ownBlock ≠ some b)
    (hlen : (xs.length + ys.length) * 48 ≤ 100000000) (hbase : base ≤ w.heap.size)
    (h : ∀ v' w', OwnRow base e 2 RuleR S w' v' (xs ++ ys) → Below base w w' → w.grownBy w' (a.eval s).ownBlock →
      (∀ b, v'.ownBlock = some b → (a.eval s).ownBlock = some b ∨ w.heap.size ≤ b) → wpList P ops Q rest (a.put o.dst v') w') : wpList P ops Q (o :: rest) a w := by
  obtain ⟨-, ⟨rfl, ao, c, hv, hnone⟩ | ⟨hne, b, off, c, hv, hcap, hT, hlt, cs, he, hc⟩⟩ := hx
  · exact app_row RuleR.ok s x t hgd ho base e i _ 48 ht hi hz hsize hby rfl (by decide) hown (news := []) (ys := []) hv rfl (fun h => ⟨rfl, hnone h⟩) (fun _ _ _ _ hj => by simp at hj) (fun _ hu => by simp at hu) rfl hlen (by decide) hbase h
  · refine app_row RuleR.ok s x t hgd ho base e i _ 48 ht hi hz hsize hby rfl (by decide) hown (news := cs) (ys := ys) hv rfl (fun h => by cases h) (fun ad hd j u hj => ?_) (ones_rules he) (he.mono RuleR.ok (.weak hTS)) hlen (by decide) hbase h
    cases hd
    rw [show (⟨b, off, none⟩ : Addr).add j = ⟨b, off + j, none⟩ by simp [Addr.add_lit]]
    exact hc j u hj

/-! ### Every pair -/
def evP (fb : Fb) (l : Rus) (i j : Nat) : List Ru := evL fb l i ++ (List.range j).flatMap fun j => twoL fb l i j
theorem evP_zero (fb : Fb) (l : Rus) (i : Nat) : evP fb l i 0 = evL fb l i := by simp [evP]
theorem evP_succ (fb : Fb) (l : Rus) (i j : Nat) : evP fb l i (j + 1) = evP fb l i j ++ twoL fb l i j := by
  rw [evP, evP, List.range_succ, List.flatMap_append, List.append_assoc]; simp
theorem evL_succ (fb : Fb) (l : Rus) (i : Nat) : evL fb l (i + 1) = evP fb l i l.length := by
  rw [evP, evL, evL, List.range_succ, List.flatMap_append]; simp
theorem evL_le {fb : Fb} {l : Rus} {i j : Nat} (h : i ≤ j) : (evL fb l i).length ≤ (evL fb l j).length := by
  obtain ⟨d, rfl⟩ : ∃ d, j = i + d := ⟨j - i, by omega⟩
  rw [evL, evL, List.range_add, List.flatMap_append, List.length_append]; omega
theorem evP_le {fb : Fb} {l : Rus} {i j : Nat} (hi : i < l.length) (hj : j ≤ l.length) : (evP fb l i j).length ≤ (evL fb l l.length).length := by
  refine Nat.le_trans ?_ (evL_le (i := i + 1) (by omega))
  rw [evL_succ]
  obtain ⟨d, e⟩ : ∃ d, l.length = j + d := ⟨l.length - j, by omega⟩
  rw [evP, evP, e, List.range_add, List.flatMap_append]
  simp only [List.length_append]
  omega
def evR (fb : Fb) (l : Rus) : List Ru := if evE fb l = 0 then evL fb l l.length else []
theorem ev_err {fb : Fb} {l : Rus} {i j : Nat} (hi : i < l.length) (hj : j < l.length) (h : twoE fb l i j ≠ 0) : evE fb l = 2 ∧ evR fb l = [] := by
  have hb : evB fb l = true := List.any_eq_true.2 ⟨i, List.mem_range.2 hi, List.any_eq_true.2 ⟨j, List.mem_range.2 hj, decide_eq_true h⟩⟩
  have he : evE fb l = 2 := by rw [evE, if_pos hb]
  exact ⟨he, by rw [evR, if_neg (by rw [he]; decide)]⟩
theorem ev_many {fb : Fb} {l : Rus} {i j : Nat} (hi : i < l.length) (hj : j ≤ l.length) (h : 40 < (evP fb l i j).length) : evE fb l = 2 ∧ evR fb l = [] := by
  have h2 := evP_le (fb := fb) hi hj
  have he : evE fb l = 2 := by
    rw [evE]
    split
    · rfl
    · rw [if_pos (by omega)]
  exact ⟨he, by rw [evR, if_neg (by rw [he]; decide)]⟩
theorem ev_ok {fb : Fb} {l : Rus} (h : ∀ i j, i < l.length → j < l.length → twoE fb l i j = 0) (hl : (evL fb l l.length).length ≤ 40) : evE fb l = 0 ∧ evR fb l = evL fb l l.length := by
  have hb : ¬ evB fb l = true := by
    rw [Bool.not_eq_true]
    refine List.any_eq_false.2 fun i hi => ?_
    rw [Bool.not_eq_true]
    exact List.any_eq_false.2 fun j hj => by simp [h i j (List.mem_range.1 hi) (List.mem_range.1 hj)]
  have he : evE fb l = 0 := by rw [evE, if_neg hb, if_neg (by omega)]
  exact ⟨he, by rw [evR, if_pos he]⟩
theorem twoE_two (fb : Fb) (l : Rus) (i j : Nat) : twoE fb l i j = 0 ∨ twoE fb l i j = 2 := by
  unfold twoE
  split
  · exact .inr rfl
  · split
    · exact .inr rfl
    · exact .inl rfl
theorem twoL_le {fb : Fb} (hfb : FbOk fb) {l : Rus} (hl : Rul l) {i j : Nat} (hi : i < l.length) (hj : j < l.length) : (twoL fb l i j).length ≤ 30 := by
  by_cases h : twoE fb l i j = 0
  · refine Nat.le_trans (pairs_model hfb hl hi hj h).1 (Nat.le_trans List.countP_le_length (len_of_chk (hl.chk hi).1))
  · rw [twoL, if_neg h]; simp

set_option maxHeartbeats 4000000 in
set_option maxRecDepth 100000 in
theorem Every_calls {fb : Fb} (hfb : FbOk fb) (l : Rus) (hl : Rul l) (v : Value) (w : World) (hv : IsRules Any w v l) :
    Calls Try.prog 182 #[v] w fun e w' => ∃ y, e = .returned (.tuple #[y, .int .i64 (evE fb l)]) ∧ IsRules (Fr w.heap.size) w' y (evR fb l) ∧ Below w.heap.size w w' := by
  obtain ⟨i65, hi, hz, hsz, hby⟩ := info_parts Try.inf65
  obtain ⟨va, vc, rfl⟩ := hv.isSlice
  have HV := Lib.hid hv
  have HFB := Lib.hid hfb
  have HL := Lib.hid hl
  have hll := hl.1
  have hll' : (l.length : Int) ≤ 8 := by omega
  clear hv hfb hl
  go_enter Try.func182, Try.ntmps182
  go_wp2_with fail
  go_loopw [4, 11] (fun out s11 wr => ∃ k : Nat, k ≤ l.length ∧ s11 = .int .i64 k ∧ Hid (OwnRow w.heap.size 65 2 RuleR (Fr w.heap.size) wr out (evL fb l k)) ∧ Hid (Below w.heap.size w wr) ∧ Hid ((evL fb l k).length ≤ 40 ∧ ∀ i j, i < k → j < l.length → twoE fb l i j = 0)) (fun _ s11 _ => l.length - (intOf s11).toNat)
  case atStart => exact ⟨0, Nat.zero_le _, rfl, OwnRow.nil _ _ _ _, .refl _ _, by simp [evL], fun i j h => by omega⟩
  case round =>
    rename World => wr
    obtain ⟨k, hk, rfl, hO, hB, hN⟩ := hrel
    by_cases hlk : k < l.length
    · have hkk : (k : Int) < l.length := by omega
      go_wp2_with fail
      obtain ⟨wo, hwo⟩ : ∃ wo, wo = wr := ⟨_, rfl⟩
      subst hwo
      go_loopw [4, 16] (fun out s16 wi => ∃ n : Nat, n ≤ l.length ∧ s16 = .int .i64 n ∧ Hid (OwnRow w.heap.size 65 2 RuleR (Fr w.heap.size) wi out (evP fb l k n)) ∧ Hid (Below w.heap.size w wi) ∧ Hid ((evP fb l k n).length ≤ 40 ∧ ∀ j, j < n → twoE fb l k j = 0)) (fun _ s16 _ => l.length - (intOf s16).toNat)
      case atStart => exact ⟨0, Nat.zero_le _, rfl, by rw [evP_zero]; exact hO.out, hB.out, by rw [evP_zero]; exact hN.out.1, fun j h => by omega⟩
      case round =>
        rename World => wi
        obtain ⟨n, hn, rfl, hO2, hB2, hN2⟩ := hrel
        by_cases hln : n < l.length
        · have hnn : (n : Int) < l.length := by omega
          have hTw := Lib.hid (Two_calls HFB.out l HL.out k n hlk hln _ wi (HV.out.below RuleR.ok hB2.out))
          have hle := Lib.hid (twoL_le HFB.out HL.out hlk hln)
          have hown : ∀ q, (show Value from ‹Value›) = ‹Value› → True := fun _ _ => trivial
          clear hown
          rcases twoE_two fb l k n with h0 | h2
          · have H0 := Lib.hid h0
            rw [h0] at hTw
            clear h0
            go_wp2_with fail
            refine hTw.out.mono ?_
            rintro e w2 ⟨y, rfl, hy, hb2⟩
            have hO3 := Lib.hid (hO2.out.below RuleR.ok hb2)
            have hB3 := Lib.hid (ext_trans hB2.out hb2)
            have hblk := hO2.out.block
            have HY := Lib.hid hy
            have hwi : w.heap.size ≤ wi.heap.size := hB2.out.size
            have hw2 : Hid (w.heap.size ≤ w2.heap.size) := hB3.out.size
            have hs := Lib.hid (evP_succ fb l k n)
            have hlen : Hid (((evP fb l k n).length + (twoL fb l k n).length) * 48 ≤ 100000000) := by have := hN2.out.1; have := hle.out; rw [Hid]; omega
            obtain ⟨ya, yc, rfl⟩ := HY.out.isSlice
            clear hy hb2
            by_cases hbig : 40 < (evP fb l k (n + 1)).length
            · have hE := Lib.hid (ev_many hlk (by omega) hbig)
              have hbigi : (40 : Int) < ((evP fb l k (n + 1)).length : Nat) := by omega
              go_wp2_with (at_builtin; refine app_rules _ _ 50 rfl rfl w.heap.size 65 i65 Try.underlying50 hi hz hsz hby hO3.out HY.out (fun q hq => ⟨Nat.le_trans hwi hq, fun e => by have h1 := (hblk q e).2; have h2 : wi.heap.size ≤ q := hq; omega⟩) hlen.out hw2.out ?dp1; intro v' w4 hown4 hb4 hg4 hbk4; rw [← hs.out] at hown4; obtain ⟨so, sc, hsv⟩ := (OwnRow.isRow RuleR.ok hown4 (T := Any) (fun _ _ => trivial) (fun _ _ => trivial) (by have := hlen.out; rw [hs.out, List.length_append]; omega)).isSlice; subst hsv; have hB5 := Lib.hid (hB3.out.trans hb4); clear hown4 hb4)
              go_ret2
              rw [hE.out.1, hE.out.2]
              exact ⟨_, rfl, .nil _ _, hB5.out⟩
            · have hbigi : ¬ (40 : Int) < ((evP fb l k (n + 1)).length : Nat) := by omega
              have hbigd : decide ((((evP fb l k (n + 1)).length : Nat) : Int) > 40) = false := decide_eq_false (by omega)
              have hsm : Hid ((evP fb l k (n + 1)).length ≤ 40 ∧ ∀ j, j < n + 1 → twoE fb l k j = 0) := ⟨by omega, fun j hj => by
                by_cases e : j = n
                · subst e; exact H0.out
                · exact hN2.out.2 j (by omega)⟩
              clear hbig
              go_wp2_with (at_builtin; refine app_rules _ _ 50 rfl rfl w.heap.size 65 i65 Try.underlying50 hi hz hsz hby hO3.out HY.out (fun q hq => ⟨Nat.le_trans hwi hq, fun e => by have h1 := (hblk q e).2; have h2 : wi.heap.size ≤ q := hq; omega⟩) hlen.out hw2.out ?dp2; intro v' w4 hown4 hb4 hg4 hbk4; rw [← hs.out] at hown4; obtain ⟨so, sc, hsv⟩ := (OwnRow.isRow RuleR.ok hown4 (T := Any) (fun _ _ => trivial) (fun _ _ => trivial) (by have := hlen.out; rw [hs.out, List.length_append]; omega)).isSlice; subst hsv; have hB5 := Lib.hid (hB3.out.trans hb4); have H4 := Lib.hid hown4; clear hown4 hb4)
              go_roundw
              case rel => exact ⟨n + 1, by omega, by go_num, H4.out, hB5.out, hsm.out⟩
              case measure => simp [intOf]; omega
          · have hE := Lib.hid (ev_err (fb := fb) hlk hln (by rw [h2]; decide))
            rw [h2] at hTw
            clear h2
            go_wp2_with fail
            refine hTw.out.mono ?_
            rintro e w2 ⟨y, rfl, -, hb2⟩
            go_wp2_with fail
            go_ret2
            rw [hE.out.1, hE.out.2]
            exact ⟨_, rfl, .nil _ _, ext_trans hB2.out hb2⟩
        · obtain rfl : n = l.length := by omega
          have hs := Lib.hid (evL_succ fb l k)
          go_wp2_with fail
          go_roundw
          case rel =>
            refine ⟨k + 1, by omega, by go_num, by rw [hs.out]; exact hO2.out, hB2.out, by rw [hs.out]; exact hN2.out.1, fun i j hi hj => ?_⟩
            by_cases e : i = k
            · subst e; exact hN2.out.2 j hj
            · exact hN.out.2 i j (by omega) hj
          case measure => simp [intOf]; omega
    · obtain rfl : k = l.length := by omega
      have hE := Lib.hid (ev_ok hN.out.2 hN.out.1)
      go_wp2_with fail
      go_ret2
      rw [hE.out.1, hE.out.2]
      refine ⟨_, rfl, hO.out.isRow RuleR.ok (fun b h => h) (fun b h => h) ?_, hB.out⟩
      have := hN.out.1
      omega

end Go.Proofs.Ytepddehodmljeaa

namespace Go.Proofs.Ytepddehodmljeaa
open Go.RowKit Go.Maps

def pevE (fb : Fb) (l : Rus) : Int := if rulesE l = 0 then evE fb l else rulesE l
def pevL (fb : Fb) (l : Rus) : List Ru := if rulesE l = 0 then evR fb l else []
theorem PAll_calls {fb : Fb} (hfb : FbOk fb) (l : Rus) (v : Value) (w : World) (hv : IsRules Any w v l) :
    Calls Try.prog 140 #[v] w fun e w' => ∃ y, e = .returned (.tuple #[y, .int .i64 (pevE fb l)]) ∧ IsRules (Fr w.heap.size) w' y (pevL fb l) ∧ Below w.heap.size w w' := by
  have hR := Lib.hid (RCheck_calls l v w hv)
  obtain ⟨va, vc, rfl⟩ := hv.isSlice
  by_cases he : rulesE l = 0
  · have HE := Lib.hid he
    have hP : Hid (pevE fb l = evE fb l) := by rw [Hid, pevE, if_pos he]
    have hPL : Hid (pevL fb l = evR fb l) := by rw [Hid, pevL, if_pos he]
    have hT := Lib.hid fun W (hb : Below w.heap.size w W) => Every_calls hfb l (rulesE_zero.1 he) _ W (hv.below RuleR.ok hb)
    clear hv he hfb
    go_enter Try.func140, Try.ntmps140
    go_wp2_with fail
    refine hR.out.mono ?_
    rintro e w1 ⟨rfl, hB1⟩
    rw [HE.out]
    go_wp2_with fail
    refine (hT.out w1 hB1).mono ?_
    rintro e w2 ⟨y, rfl, hy, hB2⟩
    have HY := Lib.hid hy
    clear hy
    go_wp2_with fail
    go_ret2
    rw [hP.out, hPL.out]
    exact ⟨y, rfl, IsRow.mono RuleR.ok HY.out (.weak fun b hb => Nat.le_trans hB1.size hb), ext_trans hB1 hB2⟩
  · have h' : (rulesE l != 0) = true := by simpa using he
    have hP : Hid (pevE fb l = rulesE l) := by rw [Hid, pevE, if_neg he]
    have hPL : Hid (pevL fb l = []) := by rw [Hid, pevL, if_neg he]
    clear hv he hfb
    go_enter Try.func140, Try.ntmps140
    go_wp2_with fail
    refine hR.out.mono ?_
    rintro e w1 ⟨rfl, hB1⟩
    go_wp2_with fail
    go_ret2
    rw [hP.out, hPL.out]
    exact ⟨_, rfl, .nil _ _, hB1⟩

theorem Equal_below {s t : List Int} {u v : Value} {w : World} (hu : IsInts Any w u s) (hv : IsInts Any w v t) :
    Calls Try.prog 144 #[u, v] w fun e w' => e = .returned (.bool (decide (s = t))) ∧ Below w.heap.size w w' :=
  (Equal_calls s t u v w hu hv).mono fun e w' ⟨h, n, hn⟩ => ⟨h, by rw [hn]; exact below_drewN _ _ _⟩

set_option maxRecDepth 100000 in
theorem meets_calls (l : Rus) (hl : Rul l) (p : Ru) (h1 : chk p.1 = 0) (h2 : chk p.2 = 0) (v u x : Value) (w : World) (hv : IsRules Any w v l) (hu : IsInts Any w u p.1) (hx : IsInts Any w x p.2) :
    Calls Try.prog 141 #[v, .agg #[u, x]] w fun e w' => e = .returned (.tuple #[.bool (mtR l p), .int .i64 (mtE l p)]) ∧ Below w.heap.size w w' := by
  have hb0 := Lib.hid (below_alloc w (.cells #[u, x] 65))
  have hA := Lib.hid (Of_calls l p.1 hl h1 v u (w.alloc (.cells #[u, x] 65)) (hv.below RuleR.ok hb0.out) (hu.below hb0.out))
  have hB := Lib.hid fun W (hb : Below w.heap.size w W) => Of_calls l p.2 hl h2 v x W (hv.below RuleR.ok hb) (hx.below hb)
  obtain ⟨va, vc, rfl⟩ := hv.isSlice
  obtain ⟨ua, uc, rfl⟩ := hu.isSlice
  obtain ⟨xa, xc, rfl⟩ := hx.isSlice
  have c1 : Hid (∀ W, Below (w.alloc (.cells #[.slice ua p.1.length uc, .slice xa p.2.length xc] 65)).heap.size (w.alloc (.cells #[.slice ua p.1.length uc, .slice xa p.2.length xc] 65)) W → W.cell? ⟨w.heap.size, 1, none⟩ = some (.slice xa p.2.length xc)) := fun W hb =>
    (hb.cell (p := ⟨w.heap.size, 1, none⟩) (by simp)).trans (by simp [go_sem])
  clear hv hu hx hl h1 h2
  by_cases e1 : (ofR l 60 0 p.1).2.2 = 0
  · have E1 := Lib.hid e1
    by_cases e2 : (ofR l 60 0 p.2).2.2 = 0
    · have hE : Hid (mtE l p = 0) := by rw [Hid, mtE, if_neg (by rw [e1]; decide), e2]
      have hR : Hid (mtR l p = decide ((ofR l 60 0 p.1).1 = (ofR l 60 0 p.2).1)) := by rw [Hid, mtR, hE.out]; rfl
      have E2 := Lib.hid e2
      clear e1 e2
      go_enter Try.func141, Try.ntmps141
      go_wp2_with fail
      refine hA.out.mono ?_
      rintro e w1 ⟨y, rfl, hy, hB1⟩
      have d1 := c1.out w1 hB1
      obtain ⟨ya, yc, rfl⟩ := hy.isSlice
      have HY := Lib.hid hy
      rw [E1.out]
      clear hy
      go_wp2_with fail
      refine (hB.out w1 (ext_trans hb0.out hB1)).mono ?_
      rintro e w2 ⟨z, rfl, hz, hB2⟩
      obtain ⟨za, zc, rfl⟩ := hz.isSlice
      have hEq := Lib.hid (Equal_below (HY.out.any.below hB2) hz.any)
      have hBB := Lib.hid (ext_trans hb0.out (ext_trans hB1 hB2))
      rw [E2.out]
      clear hz d1 hB1 hB2
      go_wp2_with fail
      refine hEq.out.mono ?_
      rintro e w3 ⟨rfl, hB3⟩
      rw [← hR.out]
      go_wp2_with fail
      go_ret2
      exact ⟨by rw [hE.out]; rfl, ext_trans hBB.out hB3⟩
    · have hE : Hid (mtE l p = (ofR l 60 0 p.2).2.2) := by rw [Hid, mtE, if_neg (by rw [e1]; decide)]
      have hR : Hid (mtR l p = false) := by rw [Hid, mtR, hE.out, decide_eq_false e2]; rfl
      have h' : ((ofR l 60 0 p.2).2.2 != 0) = true := by simpa using e2
      clear e1 e2
      go_enter Try.func141, Try.ntmps141
      go_wp2_with fail
      refine hA.out.mono ?_
      rintro e w1 ⟨y, rfl, hy, hB1⟩
      have d1 := c1.out w1 hB1
      obtain ⟨ya, yc, rfl⟩ := hy.isSlice
      rw [E1.out]
      clear hy
      go_wp2_with fail
      refine (hB.out w1 (ext_trans hb0.out hB1)).mono ?_
      rintro e w2 ⟨z, rfl, -, hB2⟩
      go_wp2_with fail
      go_ret2
      exact ⟨by rw [hE.out, hR.out]; rfl, ext_trans hb0.out (ext_trans hB1 hB2)⟩
  · have hE : Hid (mtE l p = (ofR l 60 0 p.1).2.2) := by rw [Hid, mtE, if_pos e1]
    have hR : Hid (mtR l p = false) := by rw [Hid, mtR, hE.out, decide_eq_false e1]; rfl
    have h' : ((ofR l 60 0 p.1).2.2 != 0) = true := by simpa using e1
    clear e1
    go_enter Try.func141, Try.ntmps141
    go_wp2_with fail
    refine hA.out.mono ?_
    rintro e w1 ⟨y, rfl, -, hB1⟩
    go_wp2_with fail
    go_ret2
    exact ⟨by rw [hE.out, hR.out]; rfl, ext_trans hb0.out hB1⟩

def jpE (l : Rus) (p : Ru) : Int := if askE l p.1 = 0 then (if (ofR l 60 0 p.1).2.2 = 0 then (if chk p.2 = 0 then (ofR l 60 0 p.2).2.2 else chk p.2) else (ofR l 60 0 p.1).2.2) else askE l p.1
def jpB (l : Rus) (p : Ru) : Bool := decide (jpE l p = 0) && mtB l p
theorem jpE_zero {l : Rus} {p : Ru} (h : jpE l p = 0) : Rul l ∧ chk p.1 = 0 ∧ chk p.2 = 0 ∧ mtE l p = 0 := by
  unfold jpE at h
  split at h
  · rename_i h1
    obtain ⟨g1, g2⟩ := askE_zero h1
    split at h
    · rename_i h2
      split at h
      · rename_i h3
        exact ⟨g1, g2, h3, by rw [mtE, if_neg (by rw [h2]; decide), h]⟩
      · rename_i h3; exact absurd h h3
    · rename_i h2; exact absurd h h2
  · rename_i h1; exact absurd h h1
theorem jpE_of {l : Rus} {p : Ru} (hl : Rul l) (h1 : chk p.1 = 0) (h2 : chk p.2 = 0) : jpE l p = mtE l p := by
  unfold jpE mtE
  rw [if_pos (askE_of hl h1), if_pos h2]
  by_cases h : (ofR l 60 0 p.1).2.2 = 0
  · rw [if_pos h, if_neg (by rw [h]; decide)]
  · rw [if_neg h, if_pos h]

set_option maxRecDepth 100000 in
theorem JPair_calls (l : Rus) (p : Ru) (v u x : Value) (w : World) (hv : IsRules Any w v l) (hu : IsInts Any w u p.1) (hx : IsInts Any w x p.2) :
    Calls Try.prog 75 #[v, .agg #[u, x]] w fun e w' => e = .returned (.tuple #[.bool (jpB l p), .int .i64 (jpE l p)]) ∧ Below w.heap.size w w' := by
  have hb0 := Lib.hid (below_alloc w (.cells #[u, x] 65))
  have hAsk := Lib.hid (Asked_calls l p.1 v u (w.alloc (.cells #[u, x] 65)) (hv.below RuleR.ok hb0.out) (hu.below hb0.out))
  have hA := Lib.hid fun (h : askE l p.1 = 0) W (hb : Below w.heap.size w W) => Of_calls l p.1 (askE_zero h).1 (askE_zero h).2 v u W (hv.below RuleR.ok hb) (hu.below hb)
  have hC := Lib.hid fun W (hb : Below w.heap.size w W) => Check_calls p.2 x W (hx.below hb)
  have hB := Lib.hid fun (h : askE l p.1 = 0) (h2 : chk p.2 = 0) W (hb : Below w.heap.size w W) => Of_calls l p.2 (askE_zero h).1 h2 v x W (hv.below RuleR.ok hb) (hx.below hb)
  obtain ⟨va, vc, rfl⟩ := hv.isSlice
  obtain ⟨ua, uc, rfl⟩ := hu.isSlice
  obtain ⟨xa, xc, rfl⟩ := hx.isSlice
  have c1 : Hid (∀ W, Below (w.alloc (.cells #[.slice ua p.1.length uc, .slice xa p.2.length xc] 65)).heap.size (w.alloc (.cells #[.slice ua p.1.length uc, .slice xa p.2.length xc] 65)) W → W.cell? ⟨w.heap.size, 0, none⟩ = some (.slice ua p.1.length uc) ∧ W.cell? ⟨w.heap.size, 1, none⟩ = some (.slice xa p.2.length xc)) := fun W hb =>
    ⟨(hb.cell (p := ⟨w.heap.size, 0, none⟩) (by simp)).trans (by simp [go_sem]), (hb.cell (p := ⟨w.heap.size, 1, none⟩) (by simp)).trans (by simp [go_sem])⟩
  clear hv hu hx
  by_cases e0 : askE l p.1 = 0
  · have E0 := Lib.hid e0
    by_cases e1 : (ofR l 60 0 p.1).2.2 = 0
    · have E1 := Lib.hid e1
      by_cases e2 : chk p.2 = 0
      · have E2 := Lib.hid e2
        have hE : Hid (jpE l p = (ofR l 60 0 p.2).2.2) := by rw [Hid, jpE, if_pos e0, if_pos e1, if_pos e2]
        by_cases e3 : (ofR l 60 0 p.2).2.2 = 0
        · have E3 := Lib.hid e3
          have hR : Hid (jpB l p = decide ((ofR l 60 0 p.1).1 = (ofR l 60 0 p.2).1)) := by rw [Hid, jpB, hE.out, e3]; rfl
          clear e0 e1 e2 e3
          go_enter Try.func75, Try.ntmps75
          go_wp2_with fail
          refine hAsk.out.mono ?_
          rintro e w1 ⟨rfl, hB1⟩
          obtain ⟨d0, -⟩ := c1.out w1 hB1
          rw [E0.out]
          go_wp2_with fail
          refine (hA.out E0.out w1 (ext_trans hb0.out hB1)).mono ?_
          rintro e w2 ⟨y, rfl, hy, hB2⟩
          obtain ⟨-, d1⟩ := c1.out w2 (ext_trans hB1 hB2)
          have hB12 := Lib.hid (ext_trans hb0.out (ext_trans hB1 hB2))
          obtain ⟨ya, yc, rfl⟩ := hy.isSlice
          have HY := Lib.hid hy
          rw [E1.out]
          clear hy d0
          go_wp2_with fail
          refine (hC.out w2 hB12.out).mono ?_
          rintro e w' ⟨rfl, rfl⟩
          rw [E2.out]
          go_wp2_with fail
          refine (hB.out E0.out E2.out w2 hB12.out).mono ?_
          rintro e w3 ⟨z, rfl, hz, hB3⟩
          obtain ⟨za, zc, rfl⟩ := hz.isSlice
          have hEq := Lib.hid (Equal_below (HY.out.any.below hB3) hz.any)
          have hBB := Lib.hid (ext_trans hB12.out hB3)
          rw [E3.out]
          clear hz d1 hB1 hB2 hB3
          go_wp2_with fail
          refine hEq.out.mono ?_
          rintro e w4 ⟨rfl, hB4⟩
          rw [← hR.out]
          go_wp2_with fail
          go_ret2
          exact ⟨by rw [hE.out, E3.out]; rfl, ext_trans hBB.out hB4⟩
        · have hR : Hid (jpB l p = false) := by rw [Hid, jpB, hE.out, decide_eq_false e3]; rfl
          have h' : ((ofR l 60 0 p.2).2.2 != 0) = true := by simpa using e3
          clear e0 e1 e2 e3
          go_enter Try.func75, Try.ntmps75
          go_wp2_with fail
          refine hAsk.out.mono ?_
          rintro e w1 ⟨rfl, hB1⟩
          obtain ⟨d0, -⟩ := c1.out w1 hB1
          rw [E0.out]
          go_wp2_with fail
          refine (hA.out E0.out w1 (ext_trans hb0.out hB1)).mono ?_
          rintro e w2 ⟨y, rfl, hy, hB2⟩
          obtain ⟨-, d1⟩ := c1.out w2 (ext_trans hB1 hB2)
          have hB12 := Lib.hid (ext_trans hb0.out (ext_trans hB1 hB2))
          obtain ⟨ya, yc, rfl⟩ := hy.isSlice
          rw [E1.out]
          clear hy d0
          go_wp2_with fail
          refine (hC.out w2 hB12.out).mono ?_
          rintro e w' ⟨rfl, rfl⟩
          rw [E2.out]
          go_wp2_with fail
          refine (hB.out E0.out E2.out w2 hB12.out).mono ?_
          rintro e w3 ⟨z, rfl, -, hB3⟩
          go_wp2_with fail
          go_ret2
          exact ⟨by rw [hE.out, hR.out]; rfl, ext_trans hB12.out hB3⟩
      · have hE : Hid (jpE l p = chk p.2) := by rw [Hid, jpE, if_pos e0, if_pos e1, if_neg e2]
        have hR : Hid (jpB l p = false) := by rw [Hid, jpB, hE.out, decide_eq_false e2]; rfl
        have h' : (chk p.2 != 0) = true := by simpa using e2
        clear e0 e1 e2
        go_enter Try.func75, Try.ntmps75
        go_wp2_with fail
        refine hAsk.out.mono ?_
        rintro e w1 ⟨rfl, hB1⟩
        obtain ⟨d0, -⟩ := c1.out w1 hB1
        rw [E0.out]
        go_wp2_with fail
        refine (hA.out E0.out w1 (ext_trans hb0.out hB1)).mono ?_
        rintro e w2 ⟨y, rfl, hy, hB2⟩
        obtain ⟨-, d1⟩ := c1.out w2 (ext_trans hB1 hB2)
        have hB12 := Lib.hid (ext_trans hb0.out (ext_trans hB1 hB2))
        obtain ⟨ya, yc, rfl⟩ := hy.isSlice
        rw [E1.out]
        clear hy d0
        go_wp2_with fail
        refine (hC.out w2 hB12.out).mono ?_
        rintro e w' ⟨rfl, rfl⟩
        go_wp2_with fail
        go_ret2
        exact ⟨by rw [hE.out, hR.out]; rfl, hB12.out⟩
    · have hE : Hid (jpE l p = (ofR l 60 0 p.1).2.2) := by rw [Hid, jpE, if_pos e0, if_neg e1]
      have hR : Hid (jpB l p = false) := by rw [Hid, jpB, hE.out, decide_eq_false e1]; rfl
      have h' : ((ofR l 60 0 p.1).2.2 != 0) = true := by simpa using e1
      clear e0 e1
      go_enter Try.func75, Try.ntmps75
      go_wp2_with fail
      refine hAsk.out.mono ?_
      rintro e w1 ⟨rfl, hB1⟩
      obtain ⟨d0, -⟩ := c1.out w1 hB1
      rw [E0.out]
      go_wp2_with fail
      refine (hA.out E0.out w1 (ext_trans hb0.out hB1)).mono ?_
      rintro e w2 ⟨y, rfl, -, hB2⟩
      go_wp2_with fail
      go_ret2
      exact ⟨by rw [hE.out, hR.out]; rfl, ext_trans hb0.out (ext_trans hB1 hB2)⟩
  · have hE : Hid (jpE l p = askE l p.1) := by rw [Hid, jpE, if_neg e0]
    have hR : Hid (jpB l p = false) := by rw [Hid, jpB, hE.out, decide_eq_false e0]; rfl
    have h' : (askE l p.1 != 0) = true := by simpa using e0
    clear e0
    go_enter Try.func75, Try.ntmps75
    go_wp2_with fail
    refine hAsk.out.mono ?_
    rintro e w1 ⟨rfl, hB1⟩
    go_wp2_with fail
    go_ret2
    exact ⟨by rw [hE.out, hR.out]; rfl, ext_trans hb0.out hB1⟩

end Go.Proofs.Ytepddehodmljeaa
