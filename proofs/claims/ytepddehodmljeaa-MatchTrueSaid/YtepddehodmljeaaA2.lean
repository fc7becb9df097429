/- Laws: a slice of terms that the call makes and writes into. -/
import Derived.Test.YtepddehodmljeaaD3
namespace Go.Proofs.Ytepddehodmljeaa
open Go.RowKit

variable {α : Type} {R : Rep α}

theorem Elems.set {sz : Nat} {S : Blk} {w : World} : ∀ {cs : List Value} {xs : List α}, Elems sz R S w cs xs → sz = 1 → ∀ k (u : Value) (x : α), k < xs.length → R S w [u] x → Elems sz R S w (cs.set k u) (xs.set k x)
  | _, [], _, _, k, _, _, hk, _ => by simp at hk
  | _, y :: xs, ⟨us, cs', hl, he, hr, h⟩, h1, 0, u, x, _, hx => by
    subst h1
    obtain ⟨z, rfl⟩ : ∃ z, us = [z] := by match us, hl with | [z], _ => exact ⟨z, rfl⟩
    subst he
    exact ⟨[u], cs', rfl, rfl, hx, h⟩
  | _, y :: xs, ⟨us, cs', hl, he, hr, h⟩, h1, k + 1, u, x, hk, hx => by
    have ih := h.set h1 k u x (by simpa using hk) hx
    subst h1
    obtain ⟨z, rfl⟩ : ∃ z, us = [z] := by match us, hl with | [z], _ => exact ⟨z, rfl⟩
    subst he
    exact ⟨[z], cs'.set k u, rfl, rfl, hr, ih⟩

theorem elems_rep {S : Blk} {w : World} {u : Value} {x : α} (h : R S w [u] x) : ∀ n, Elems 1 R S w (List.replicate n u) (List.replicate n x)
  | 0 => rfl
  | n + 1 => ⟨[u], List.replicate n u, rfl, rfl, h, elems_rep h n⟩

/-- Where the row lies. -/
theorem OwnRow.at {base : Nat} {e : TypeId} {sz : Nat} {S : Blk} {w : World} {v : Value} {xs : List α} (h : OwnRow base e sz R S w v xs) (hne : xs ≠ []) :
    ∃ g c cur, v = .slice (some ⟨g, 0, none⟩) xs.length c ∧ base ≤ g ∧ w.heap[g]? = some (.cells cur e (0, 0)) ∧ xs.length ≤ c := by
  obtain ⟨cs, he, h1, ⟨_, h0⟩ | ⟨g, cap, cur, hv, hb, hg, hc, _⟩⟩ := h
  · exact absurd (List.eq_nil_of_length_eq_zero h0) hne
  · exact ⟨g, cap, cur, hv, hb, hg, hc⟩

theorem OwnRow.cell {base : Nat} {e : TypeId} {S : Blk} {w : World} {g c n : Nat} {xs : List α} (h : OwnRow base e 1 R S w (.slice (some ⟨g, 0, none⟩) n c) xs) {k : Nat} (hk : k < xs.length) :
    (∃ u, w.cell? ⟨g, k, none⟩ = some u ∧ R (Both' S fun b => b ≠ g) w [u] xs[k]) ∧ w.frozen? ⟨g, k, none⟩ = false := by
  obtain ⟨cs, he, ho⟩ := h
  have hn : n = xs.length := by
    rcases ho.2 with ⟨hx, _⟩ | ⟨_, _, _, hx, _⟩
    · simp at hx
    · simp at hx; exact hx.2.1
  subst hn
  obtain ⟨us, hl, hget, hr⟩ := he.get k hk
  obtain ⟨z, rfl⟩ : ∃ z, us = [z] := by match us, hl with | [z], _ => exact ⟨z, rfl⟩
  have h0 := hget 0 (by omega)
  simp at h0
  refine ⟨⟨z, ?_, ?_⟩, ho.frozenAt k⟩
  · rw [ho.cellAt k (by omega)]; exact h0
  · have e1 : (Both' S (Off (.slice (some ⟨g, 0, none⟩) xs.length c))) = Both' S fun b => b ≠ g := by
      funext b; simp only [Both', Off, Value.ownBlock]; apply propext; constructor
      · rintro ⟨a1, a2⟩; exact ⟨a1, fun e => a2 (by rw [e])⟩
      · rintro ⟨a1, a2⟩; exact ⟨a1, fun e => a2 (by cases e; rfl)⟩
    rw [← e1]; exact hr

theorem make_rows {P : Program} {w : World} {ops : Array Oper} {rest : List Oper} {o : Oper} {a : Act} {Q : Exit → Act → World → Prop} (l c : Operand) (t : TypeId) (hgd : o.guard = none) (ho : o.op = Op.makeSlice t l c)
    (base : Nat) (e : TypeId) (i : TypeInfo) (u : Value) (ht : P.underlying t = some (.slice e)) (hi : P.info? e = some i) (hz : i.zero = some u) (hu : u.cells = #[u]) (hsize : i.size = 1)
    (kl kc : IntKind) (n : Nat) (hl : a.eval l = .int kl n) (hc : a.eval c = .int kc n) (hby : i.bytes * n ≤ 281474976710656) (hn : n ≤ 1000000) (hbase : base ≤ w.heap.size)
    (S : Blk) (x : α) (hx : ∀ S w, R S w [u] x)
    (h : ∀ w', OwnRow base e 1 R S w' (.slice (some ⟨w.heap.size, 0, none⟩) n n) (List.replicate n x) → Below w.heap.size w w' → w.heap.size < w'.heap.size → wpList P ops Q rest (a.put o.dst (.slice (some ⟨w.heap.size, 0, none⟩) n n)) w') :
    wpList P ops Q (o :: rest) a w := by
  refine wpList_plain hgd fun K hK' => ?_
  obtain ⟨w', hrun, r1, r2⟩ := run_make_full (P := P) w base t e i u 1 ht hi hz hsize kl kc n hby (by simp only [maxLen]; omega) hbase
  unfold Oper.wp
  simp [execOp, ho, hl, hc, hrun, Result.andThen]
  refine hK' _ _ (h w' ⟨List.replicate n u, elems_rep (hx _ _) n, ?_⟩ ?_ ?_)
  · rw [Nat.mul_one, hu, toList_madeCells_one] at r1
    simpa using r1
  · exact ⟨r2.os, r2.tape, r2.output, r2.size, fun k hk => r2.block k hk (by simp)⟩
  · rcases r1.2 with ⟨hx, _⟩ | ⟨g, _, _, hx, _, hg, _⟩
    · simp at hx
    · simp at hx; rw [hx.1]; exact lt_of_block hg

theorem store_rows (hR : R.Ok) {P : Program} {w : World} {ops : Array Oper} {rest : List Oper} {o : Oper} {a : Act} {Q : Exit → Act → World → Prop} (p x : Operand) (t : TypeId) (hgd : o.guard = none) (hd : o.dst = none) (ho : o.op = Op.store t p x)
    (i : TypeInfo) (hi : P.info? t = some i) (hsize : i.size = 1)
    (base : Nat) (e : TypeId) (S : Blk) (g k n c : Nat) (xs : List α) (hp : a.eval p = .pointer (some ⟨g, k, none⟩)) (hown : OwnRow base e 1 R S w (.slice (some ⟨g, 0, none⟩) n c) xs) (hk : k < xs.length) (y : α)
    (hy : R (Both' S fun b => b ≠ g) w [a.eval x] y) (h1 : (a.eval x).oneCell' = true)
    (h : ∀ w', OwnRow base e 1 R S w' (.slice (some ⟨g, 0, none⟩) n c) (xs.set k y) → w.grownBy w' (some g) → w'.heap.size = w.heap.size → wpList P ops Q rest a w') :
    wpList P ops Q (o :: rest) a w := by
  refine wpList_plain hgd fun K hK' => ?_
  obtain ⟨⟨u, hcu, _⟩, hfr⟩ := hown.cell hk
  have hcells : (a.eval x).cells = #[a.eval x] := by cases hx : a.eval x <;> simp_all [Value.cells, Value.oneCell']
  have hrun : (Instr.storeAt t (a.eval p) (a.eval x)).run P w = .ok () (w.setCell ⟨g, k, none⟩ (a.eval x)) := by
    have ha : ({ block := g, off := k } : Addr).add 0 = ⟨g, k, none⟩ := rfl
    simp [Instr.storeAt, Instr.sureAddr, hp, storeVar, sizeOf, typeInfo, hi, hsize, hcells, storeCells, run_store, h1, ha, hcu, hfr]
  unfold Oper.wp
  simp only [execOp, ho, Sem.run_bind, Sem.run_pure, Result.andThen_ok, hrun, Oper.upon_skip, hd, Act.put]
  obtain ⟨cs, he, ho'⟩ := hown
  have hn : n = xs.length := by
    rcases ho'.2 with ⟨hx, _⟩ | ⟨_, _, _, hx, _⟩
    · simp at hx
    · simp at hx; exact hx.2.1
  subst hn
  have hst := ho'.stored k (a.eval x)
  have hsz : (w.setCell ⟨g, k, none⟩ (a.eval x)).heap.size = w.heap.size := by simp
  have e1 : (Both' S (Off (.slice (some ⟨g, 0, none⟩) xs.length c))) = Both' S fun b => b ≠ g := by
    funext b; simp only [Both', Off, Value.ownBlock]; apply propext; constructor
    · rintro ⟨a1, a2⟩; exact ⟨a1, fun e => a2 (by rw [e])⟩
    · rintro ⟨a1, a2⟩; exact ⟨a1, fun e => a2 (by cases e; rfl)⟩
  refine hK' _ _ (h _ ⟨cs.set k (a.eval x), ?_, by simpa using hst.1⟩ hst.2 hsz)
  rw [e1] at he ⊢
  refine (he.set rfl k (a.eval x) y hk hy).mono hR ⟨by rw [hsz]; exact Nat.le_refl _, fun b hb _ => ⟨hb, Below.heap_setCell _ _ _ _ hb.2⟩⟩

/-- A store into ints of the call's own. -/
theorem store_ints {P : Program} {w : World} {ops : Array Oper} {rest : List Oper} {o : Oper} {a : Act} {Q : Exit → Act → World → Prop} (p x : Operand) (hgd : o.guard = none) (hd : o.dst = none) (ho : o.op = Op.store 3 p x)
    (i : TypeInfo) (hi : P.info? 3 = some i) (hsize : i.size = 1)
    (base : Nat) (g k n c : Nat) (xs : List Int) (hn : n = xs.length) (hp : a.eval p = .pointer (some ⟨g, k, none⟩)) (hown : w.ownsRow base 3 1 (.slice (some ⟨g, 0, none⟩) n c) xs.length (xs.map (Value.int .i64))) (hk : k < xs.length) (y : Int)
    (hy : a.eval x = .int .i64 y)
    (h : ∀ w', w'.ownsRow base 3 1 (.slice (some ⟨g, 0, none⟩) n c) (xs.set k y).length ((xs.set k y).map (Value.int .i64)) → w.grownBy w' (some g) → w'.heap.size = w.heap.size → wpList P ops Q rest a w') :
    wpList P ops Q (o :: rest) a w := by
  subst hn
  refine wpList_plain hgd fun K hK' => ?_
  have hcu : w.cell? ⟨g, k, none⟩ = some (.int .i64 xs[k]) := by rw [hown.cellAt k (by omega), List.getElem?_map, List.getElem?_eq_getElem hk]; rfl
  have hfr := hown.frozenAt k
  have hrun : (Instr.storeAt 3 (a.eval p) (a.eval x)).run P w = .ok () (w.setCell ⟨g, k, none⟩ (a.eval x)) := by
    have ha : ({ block := g, off := k } : Addr).add 0 = ⟨g, k, none⟩ := rfl
    simp [Instr.storeAt, Instr.sureAddr, hp, hy, storeVar, sizeOf, typeInfo, hi, hsize, Value.cells, storeCells, run_store P w ⟨g, k, none⟩ (.int .i64 y) .plain rfl, ha, hcu, hfr]
  unfold Oper.wp
  simp only [execOp, ho, Sem.run_bind, Sem.run_pure, Result.andThen_ok, hrun, Oper.upon_skip, hd, Act.put]
  have hst := hown.stored k (a.eval x)
  refine hK' _ _ (h _ ?_ hst.2 (by simp))
  rw [List.length_set, List.map_set, ← hy]
  exact hst.1

/-- 'append(v, x)': ONE element, as the literal of one element laid it. -/
theorem app_one (hR : R.Ok) {sz : Nat} {P : Program} {W : World} {ops : Array Oper} {rest : List Oper} {o : Oper} {a : Act} {Q : Exit → Act → World → Prop} (s x : Operand) (t : TypeId) (hgd : o.guard = none)
    (ho : o.op = .call { callee := .builtin .append, args := #[s, x], argTypes := #[t, t] })
    (base : Nat) (e : TypeId) (i : TypeInfo) (z : Value) (bytes : Nat) (ht : P.underlying t = some (.slice e)) (hi : P.info? e = some i) (hz : i.zero = some z) (hsize : i.size = sz) (hby : i.bytes = bytes) (hzs : z.cells.size = sz) (hsz : 0 < sz)
    {S : Blk} {xs : List α} (hown : OwnRow base e sz R S W (a.eval s) xs)
    {us : List Value} {y : α} {n : Nat} (hx : a.eval x = .slice (some ⟨n, 0, none⟩) 1 1) (hnn : n = W.heap.size) (hus : us.length = sz) (h1 : Ones us)
    (hel : R (Both' S (Off (a.eval s))) W us y)
    (hlen : (xs.length + 1) * bytes ≤ 100000000) (hb0 : 0 < bytes) (hbase : base ≤ W.heap.size)
    (h : ∀ v' w', OwnRow base e sz R S w' v' (xs ++ [y]) → Below base W w' → Keeps (fun b => (a.eval s).ownBlock = some b) W w' →
      (∀ b, v'.ownBlock = some b → (a.eval s).ownBlock = some b ∨ W.heap.size ≤ b) → wpList P ops Q rest (a.put o.dst v') w') : wpList P ops Q (o :: rest) a (W.alloc (.cells us.toArray e)) := by
  subst hnn
  refine app_row hR s x t hgd ho base e i z bytes ht hi hz hsize hby hzs hsz (hown.below hR (below_alloc W _)) (ao := some ⟨W.heap.size, 0, none⟩) (m := 1) (c := 1) (news := us) (ys := [y]) hx rfl (fun h => by cases h) (fun ad hd j u hj => ?_) h1
    (Elems.one hus (hR _ _ _ _ _ _ hel (.of_below (below_alloc W _)))) hlen hb0 (by simp; omega) fun v' w' h2 h3 h4 h5 => ?_
  · cases hd
    rw [show (⟨W.heap.size, 0, none⟩ : Addr).add j = ⟨W.heap.size, j, none⟩ by simp [Addr.add_lit], World.cell?_alloc_at _ _ _ _ rfl]
    simpa using hj
  · refine h v' w' h2 (((Below.refl base W).alloc hbase _).trans h3) ⟨h3.os, h3.tape, h3.output, ?_, fun k hk hm => ?_⟩ fun b hb => ?_
    · have := h3.size; simp at this; omega
    · rw [h4.block k (by simp; omega) (fun e => hm e.symm), Below.heap_alloc _ _ _ hk]
    · rcases h5 b hb with h6 | h6
      · exact .inl h6
      · exact .inr (by simp at h6; omega)

end Go.Proofs.Ytepddehodmljeaa
