/- Walks: a new rule in the shop of close. -/
import Derived.Test.YtepddehodmljeaaH1
namespace Go.Proofs.Ytepddehodmljeaa
open Go.RowKit Go.Maps

/-- The shop, in memory: block B. -/
structure ShopIs (B : Nat) (w : World) (r : List Int) (l : Rus) (e : List Ru) (rv lv ev : Value) : Prop where
  c0 : w.cell? ⟨B, 0, none⟩ = some rv
  c1 : w.cell? ⟨B, 1, none⟩ = some lv
  c2 : w.cell? ⟨B, 2, none⟩ = some ev
  f : ∀ k, w.frozen? ⟨B, k, none⟩ = false
  rank : IsInts (fun b => b ≠ B) w rv r
  rules : IsRules (fun b => b ≠ B) w lv l
  rest : IsRules (fun b => b ≠ B) w ev e
theorem ShopIs.lt {B : Nat} {w : World} {r : List Int} {l : Rus} {e : List Ru} {rv lv ev : Value} (h : ShopIs B w r l e rv lv ev) : B < w.heap.size := World.block_lt_of_cell? _ _ h.c0
theorem ShopIs.below {B : Nat} {w w' : World} {r : List Int} {l : Rus} {e : List Ru} {rv lv ev : Value} (h : ShopIs B w r l e rv lv ev) (hb : Below w.heap.size w w') : ShopIs B w' r l e rv lv ev :=
  ⟨(hb.cell (p := ⟨B, 0, none⟩) h.lt).trans h.c0, (hb.cell (p := ⟨B, 1, none⟩) h.lt).trans h.c1, (hb.cell (p := ⟨B, 2, none⟩) h.lt).trans h.c2,
    fun k => (World.frozen?_of_block (w := w) (a := ⟨B, k, none⟩) (hb.block _ h.lt)).trans (h.f k), h.rank.below hb, h.rules.below RuleR.ok hb, h.rest.below RuleR.ok hb⟩

theorem own_aside {α : Type} {R : Rep α} (hR : R.Ok) {base : Nat} {e : TypeId} {sz : Nat} {S M : Blk} {W W' : World} {v : Value} {xs : List α} (h : OwnRow base e sz R S W v xs) (hk : Keeps M W W') (hS : ∀ b, S b → ¬ M b) (ho : ∀ q, v.ownBlock = some q → ¬ M q) : OwnRow base e sz R S W' v xs :=
  h.mono hR (hk.sok fun b _ hs => hS b hs) fun q hq => hk.block q (h.block q hq).2 (ho q hq)

/-- Memory that stood before n, other than B. -/
def Old (B n : Nat) : Blk := fun b => b < n ∧ b ≠ B

set_option maxRecDepth 100000 in
theorem clonePs_calls (B : Nat) (e : List Ru) (he : e.length ≤ 40) (v : Value) (w : World) (hv : IsRules (fun b => b ≠ B) w v e) :
    Calls Try.prog 198 #[v] w fun x w' => ∃ y, x = .returned y ∧ OwnRow w.heap.size 65 2 RuleR (Old B w.heap.size) w' y e ∧ Below w.heap.size w w' := by
  obtain ⟨i65, hi, hz, hsz, hby⟩ := info_parts Try.inf65
  have hvL : Hid (IsRules (Old B w.heap.size) w v e) := IsRow.mono RuleR.ok hv ⟨Nat.le_refl _, fun b hb hl => ⟨⟨hl, hb⟩, rfl⟩⟩
  obtain ⟨va, vc, rfl⟩ := hv.isSlice
  cases va with
  | none =>
    have hen : e = [] ∧ vc = 0 := by
      obtain ⟨-, ⟨h1, a, c, h2, h3⟩ | ⟨-, b, o, c, h2, -⟩⟩ := hv
      · subst h1; cases h2; exact ⟨rfl, h3 rfl⟩
      · cases h2
    obtain ⟨rfl, rfl⟩ := hen
    have hnil : ∀ W, (binOp .eql 50 (.slice none 0 0) (.slice none 0 0)).run Try.prog W = .ok (.bool true) W := fun W => by kernel_rfl
    clear hv
    go_enter Try.func198, Try.ntmps198
    go_wp2_with fail
    go_ret
    exact ⟨_, rfl, OwnRow.nil _ _ _ _, .refl _ _⟩
  | some a0 =>
    have hnil : ∀ W, (binOp .eql 50 (.slice (some a0) e.length vc) (.slice none 0 0)).run Try.prog W = .ok (.bool false) W := fun W => Lib.run_eql_slice_nil W _ _ _ _ _ _ _ Try.underlying50
    have hb0 := Lib.hid (below_alloc w (.cells #[] 65))
    have hO0 : Hid (OwnRow w.heap.size 65 2 RuleR (Old B w.heap.size) (w.alloc (.cells #[] 65)) (.slice (some ⟨w.heap.size, 0, none⟩) 0 0) []) := ⟨[], rfl, World.ownsRow_made w #[] 0 (Nat.le_refl _) (by simp [maxLen]) (by simp)⟩
    have hdis : Hid (∀ q, Old B w.heap.size q → (Value.slice (some ⟨w.heap.size, 0, none⟩) 0 0).ownBlock ≠ some q) := fun q hq h => by
      have h1 : w.heap.size = q := by simpa [Value.ownBlock] using h
      have h2 : q < w.heap.size := hq.1
      omega
    have hV0 : Hid (IsRules (Old B w.heap.size) (w.alloc (.cells #[] 65)) (.slice (some a0) e.length vc) e) := IsRow.below RuleR.ok hvL.out hb0.out
    clear hv
    go_enter Try.func198, Try.ntmps198
    go_wp2_with (at_builtin; refine app_rules _ _ 50 rfl rfl w.heap.size 65 i65 Try.underlying50 hi hz hsz hby hO0.out hV0.out (fun q hq => ⟨hq, hdis.out q hq⟩) (by simp; omega) (by simp) ?_; intro v' w1 hown1 hb1 _ _; rw [List.nil_append] at hown1)
    go_ret
    exact ⟨_, rfl, hown1, hb0.out.trans hb1⟩

/-- A way: two numbers. -/
def WayR : Rep (Nat × Nat) := fun _ _ us x => us = [.int .i64 (x.1 : Int), .int .i64 (x.2 : Int)]
theorem WayR.ok : Rep.Ok WayR := fun _ _ _ _ _ _ h _ => h
theorem Try.inf51 : (Try.prog.info? 51).map (fun i => (i.zero, i.size, i.bytes)) = some (some (.agg #[.int .i64 0, .int .i64 0]), 2, 16) := by kernel_rfl
theorem waysK_succ (n k : Nat) : waysK n (k + 1) = waysK n k ++ [(k, n), (n, k)] := by
  rw [waysK, waysK, List.range_succ, List.flatMap_append]; simp
theorem waysK_len (n : Nat) : ∀ k, (waysK n k).length = 2 * k
  | 0 => rfl
  | k + 1 => by rw [waysK_succ, List.length_append, waysK_len n k]; simp; omega

theorem stay_succ {l : Rus} {rr : Ru} {k : Nat} (hk : k < l.length) : stayL (l.take (k + 1)) rr = stayL (l.take k) rr ++ (if ovB (nthR l k) rr = true then [] else [nthR l k]) ∧ goneL (l.take (k + 1)) rr = goneL (l.take k) rr ++ (if ovB (nthR l k) rr = true then [nthR l k] else []) := by
  rw [takeR hk, stayL, goneL, List.filter_append, List.filter_append]
  cases h : ovB (nthR l k) rr <;> simp [stayL, goneL, h]
theorem stay_le (l : Rus) (rr : Ru) : (stayL l rr).length ≤ l.length := List.length_filter_le _ _
theorem gone_le (l : Rus) (rr : Ru) : (goneL l rr).length ≤ l.length := List.length_filter_le _ _
theorem add_two {fb : Fb} {l : Rus} {e : List Ru} {rr : Ru} (h : addE fb l e rr ≠ 0) : addE fb l e rr = 2 := by
  unfold addE at h ⊢
  split
  · rfl
  · split
    · rfl
    · split
      · rfl
      · rename_i h1 h2 h3; rw [if_neg h1, if_neg h2, if_neg h3] at h; exact absurd rfl h

end Go.Proofs.Ytepddehodmljeaa

namespace Go.Proofs.Ytepddehodmljeaa
open Go.RowKit Go.Maps

/-- 'append(v, x, y, ..)': elements that a literal lays. -/
theorem app_lit {α : Type} {R : Rep α} (hR : R.Ok) {sz : Nat} {P : Program} {W : World} {ops : Array Oper} {rest : List Oper} {o : Oper} {a : Act} {Q : Exit → Act → World → Prop} (s x : Operand) (t : TypeId) (hgd : o.guard = none)
    (ho : o.op = .call { callee := .builtin .append, args := #[s, x], argTypes := #[t, t] })
    (base : Nat) (e : TypeId) (i : TypeInfo) (z : Value) (bytes : Nat) (ht : P.underlying t = some (.slice e)) (hi : P.info? e = some i) (hz : i.zero = some z) (hsize : i.size = sz) (hby : i.bytes = bytes) (hzs : z.cells.size = sz) (hsz : 0 < sz)
    {S : Blk} {xs : List α} (hown : OwnRow base e sz R S W (a.eval s) xs)
    {us : List Value} {ys : List α} {n m : Nat} (hx : a.eval x = .slice (some ⟨n, 0, none⟩) m m) (hnn : n = W.heap.size) (hm : m = ys.length) (h1 : Ones us)
    (hel : Elems sz R (Both' S (Off (a.eval s))) W us ys)
    (hlen : (xs.length + ys.length) * bytes ≤ 100000000) (hb0 : 0 < bytes) (hbase : base ≤ W.heap.size)
    (h : ∀ v' w', OwnRow base e sz R S w' v' (xs ++ ys) → Below base W w' → Keeps (fun b => (a.eval s).ownBlock = some b) W w' →
      (∀ b, v'.ownBlock = some b → (a.eval s).ownBlock = some b ∨ W.heap.size ≤ b) → wpList P ops Q rest (a.put o.dst v') w') : wpList P ops Q (o :: rest) a (W.alloc (.cells us.toArray e)) := by
  subst hnn
  refine app_row hR s x t hgd ho base e i z bytes ht hi hz hsize hby hzs hsz (hown.below hR (below_alloc W _)) (ao := some ⟨W.heap.size, 0, none⟩) (m := m) (c := m) (news := us) (ys := ys) hx hm (fun h => by cases h) (fun ad hd j u hj => ?_) h1
    (hel.mono hR (.of_below (below_alloc W _))) hlen hb0 (by simp; omega) fun v' w' h2 h3 h4 h5 => ?_
  · cases hd
    rw [show (⟨W.heap.size, 0, none⟩ : Addr).add j = ⟨W.heap.size, j, none⟩ by simp [Addr.add_lit], World.cell?_alloc_at _ _ _ _ rfl]
    simpa using hj
  · refine h v' w' h2 (((Below.refl base W).alloc hbase _).trans h3) ⟨h3.os, h3.tape, h3.output, ?_, fun k hk hm => ?_⟩ fun b hb => ?_
    · have := h3.size; simp at this; omega
    · rw [h4.block k (by simp; omega) (fun e => hm e.symm), Below.heap_alloc _ _ _ hk]
    · rcases h5 b hb with h6 | h6
      · exact .inl h6
      · exact .inr (by simp at h6; omega)

def nthW (l : List (Nat × Nat)) (j : Nat) : Nat × Nat := l.getD j (0, 0)
theorem nthW_eq {l : List (Nat × Nat)} {j : Nat} (h : j < l.length) : nthW l j = l[j] := by simp [nthW, h]
theorem nthW_mem {l : List (Nat × Nat)} {j : Nat} (h : j < l.length) : nthW l j ∈ l := by rw [nthW_eq h]; exact List.getElem_mem h
theorem ways_at {S : Blk} {w : World} {v : Value} {ws : List (Nat × Nat)} (h : IsRow 2 WayR S w v ws) {j : Nat} (hj : j < ws.length) :
    ∃ b o c, v = .slice (some ⟨b, o, none⟩) ws.length c ∧ w.cell? ⟨b, o + j * 2, none⟩ = some (.int .i64 ((nthW ws j).1 : Int)) ∧ w.cell? ⟨b, o + j * 2 + 1, none⟩ = some (.int .i64 ((nthW ws j).2 : Int)) := by
  obtain ⟨hl, ⟨rfl, -⟩ | ⟨hne, b, o, c, rfl, -, hS, hlt, cs, he, hc⟩⟩ := h
  · simp at hj
  obtain ⟨us, hul, hget, hu⟩ := he.get j hj
  have hu' : us = [.int .i64 (ws[j].1 : Int), .int .i64 (ws[j].2 : Int)] := hu
  subst hu'
  refine ⟨b, o, c, rfl, ?_, ?_⟩
  · have := hget 0 (by omega)
    rw [nthW_eq hj, hc (j * 2) _ (by simpa using this)]
  · have := hget 1 (by omega)
    rw [nthW_eq hj, Nat.add_assoc, hc (j * 2 + 1) _ (by simpa using this)]
theorem takeW {ws : List (Nat × Nat)} {k : Nat} (hk : k < ws.length) : ws.take (k + 1) = ws.take k ++ [nthW ws k] := by
  rw [List.take_succ_eq_append_getElem hk, nthW_eq hk]
theorem wayP_snoc (fb : Fb) (l : Rus) (ws : List (Nat × Nat)) (x : Nat × Nat) : wayP fb l (ws ++ [x]) = wayP fb l ws ++ twoL fb l x.1 x.2 := by
  rw [wayP, wayP, List.flatMap_append]; simp
theorem wayP_le {fb : Fb} (hfb : FbOk fb) {l : Rus} (hl : Rul l) : ∀ {ws : List (Nat × Nat)}, (∀ w ∈ ws, w.1 < l.length ∧ w.2 < l.length) → (wayP fb l ws).length ≤ ws.length * 30
  | [], _ => by simp [wayP]
  | x :: ws, h => by
    have h1 := wayP_le hfb hl (ws := ws) fun w hw => h w (List.mem_cons_of_mem _ hw)
    have h2 := twoL_le hfb hl (h x (List.mem_cons_self ..)).1 (h x (List.mem_cons_self ..)).2
    have e : wayP fb l (x :: ws) = twoL fb l x.1 x.2 ++ wayP fb l ws := rfl
    rw [e, List.length_append, List.length_cons]; omega
theorem wayB_no {fb : Fb} {l : Rus} {ws : List (Nat × Nat)} (h : ∀ w ∈ ws, twoE fb l w.1 w.2 = 0) : ¬ wayB fb l ws = true := by
  rw [Bool.not_eq_true]
  exact List.any_eq_false.2 fun w hw => by simp [h w hw]

end Go.Proofs.Ytepddehodmljeaa
