/- A map as the list of its keys and values, in the order in which they came; laws for the walk. -/
import Derived.Test.YtepddehodmljeaaA2
import Derived.Maps.OwnSet
namespace Go.Proofs.Ytepddehodmljeaa
open Go.RowKit Go.Maps

/-- Block b is a map that holds l, in the order in which its keys came. -/
def MapIs (P : Program) (k : TypeId) (w : World) (b : Nat) (l : List (Value × Value)) : Prop :=
  ∃ es clock, w.heap[b]? = some (.map es clock) ∧ es.toList.map (fun e => (e.key, e.val)) = l ∧ (∀ p ∈ l, ∃ q, keyOf P k p.1 = some q) ∧ (l.map (·.1)).Nodup ∧
    (es.toList.map (·.born)).Nodup ∧ (∀ e ∈ es.toList, e.born < clock)

variable {P : Program} {k e t : TypeId} {w : World} {b : Nat} {l : List (Value × Value)}

theorem MapIs.made (P : Program) (k : TypeId) (w : World) : MapIs P k (w.alloc (.map #[] 0)) w.heap.size [] :=
  ⟨#[], 0, (MapKept.heap_alloc w _).1, rfl, by simp, by simp, by simp, by simp⟩
theorem MapIs.lt (h : MapIs P k w b l) : b < w.heap.size := by
  obtain ⟨es, clock, hb, _⟩ := h
  exact (Array.getElem?_eq_some_iff.1 hb).1
theorem MapIs.keep {w' : World} (h : MapIs P k w b l) (hb : w'.heap[b]? = w.heap[b]?) : MapIs P k w' b l := by
  obtain ⟨es, clock, h1, h2⟩ := h
  exact ⟨es, clock, hb.trans h1, h2⟩

theorem nodup_ne {β : Type} {l : List β} (h : l.Nodup) : ∀ i j, i < j → j < l.length → l[i]? ≠ l[j]? := by
  intro i j hij hj
  have hi : i < l.length := by omega
  rw [List.getElem?_eq_getElem hi, List.getElem?_eq_getElem hj]
  intro e
  exact (List.pairwise_iff_getElem.1 h) i j hi hj hij (Option.some.inj e)

theorem find_abs (K : Keyed P k) (h : MapIs P k w b l) {key : Value} {q : Lit} (hkey : keyOf P k key = some q) (hn : ∀ p ∈ l, p.1 ≠ key) :
    ∃ es clock, w.heap[b]? = some (.map es clock) ∧ es.toList.map (fun e => (e.key, e.val)) = l ∧ (Instr.findKey k key es.toList).run P w = .ok none w := by
  obtain ⟨es, clock, hb, rfl, hk, hnd, _⟩ := h
  refine ⟨es, clock, hb, rfl, ?_⟩
  rcases K.find w hkey es.toList (fun e he => hk _ (List.mem_map.2 ⟨e, he, rfl⟩)) with ⟨h1, _⟩ | ⟨j, e0, h1, h2, h3⟩
  · exact h1
  · exact absurd h3 (hn _ (List.mem_map.2 ⟨e0, List.mem_of_getElem? h2, rfl⟩))

theorem find_pres (K : Keyed P k) (h : MapIs P k w b l) {key v : Value} {q : Lit} (hkey : keyOf P k key = some q) (hn : (key, v) ∈ l) :
    ∃ es clock j e0, w.heap[b]? = some (.map es clock) ∧ es.toList.map (fun e => (e.key, e.val)) = l ∧ (Instr.findKey k key es.toList).run P w = .ok (some (j, v)) w ∧ es[j]? = some e0 ∧ e0.key = key ∧ e0.val = v := by
  obtain ⟨es, clock, hb, rfl, hk, hnd, _⟩ := h
  rcases K.find w hkey es.toList (fun e he => hk _ (List.mem_map.2 ⟨e, he, rfl⟩)) with ⟨_, h1⟩ | ⟨j, e0, h1, h2, h3⟩
  · obtain ⟨e, he, hp⟩ := List.mem_map.1 hn
    simp only [Prod.mk.injEq] at hp
    exact absurd hp.1 (h1 e he)
  · have hv : e0.val = v := by
      obtain ⟨e, he, hp⟩ := List.mem_map.1 hn
      simp only [Prod.mk.injEq] at hp
      obtain ⟨i, hi, rfl⟩ := List.getElem_of_mem he
      obtain ⟨hj, rfl⟩ := List.getElem?_eq_some_iff.1 h2
      have hij : i = j := by
        rw [List.map_map] at hnd
        have hnd' := nodup_ne hnd
        have hi' : (es.toList.map ((fun p : Value × Value => p.1) ∘ fun e => (e.key, e.val)))[i]? = some key := by
          rw [List.getElem?_map, List.getElem?_eq_getElem hi]; exact congrArg some hp.1
        have hj' : (es.toList.map ((fun p : Value × Value => p.1) ∘ fun e => (e.key, e.val)))[j]? = some key := by
          rw [List.getElem?_map, List.getElem?_eq_getElem hj]; exact congrArg some h3
        rcases Nat.lt_trichotomy i j with hlt | rfl | hlt
        · exact absurd (hi'.trans hj'.symm) (hnd' i j hlt (by simpa using hj))
        · rfl
        · exact absurd (hj'.trans hi'.symm) (hnd' j i hlt (by simpa using hi))
      subst hij
      exact hp.2
    subst hv
    exact ⟨es, clock, j, e0, hb, rfl, h1, by simpa using h2, h3, rfl⟩

section laws
variable {ops : Array Oper} {rest : List Oper} {o : Oper} {a : Act} {Q : Exit → Act → World → Prop}

theorem lookup_abs (c : Bool) (m x : Operand) (t : TypeId) (hg : o.guard = none) (hop : o.op = Op.lookup t m x c) (k e : TypeId) (z : Value) (K : Keyed P k) (ht : P.underlying t = some (.map k e)) (hz : (zeroValue e).run P w = .ok z w)
    (b : Nat) (l : List (Value × Value)) (hm : a.eval m = .map (some b)) (h : MapIs P k w b l) (key : Value) (q : Lit) (hx : a.eval x = key) (hkey : keyOf P k key = some q) (hn : ∀ p ∈ l, p.1 ≠ key)
    (hK : wpList P ops Q rest (a.put o.dst (if c then .tuple #[z, .bool false] else z)) w) : wpList P ops Q (o :: rest) a w := by
  refine wpList_plain hg fun K' hK' => ?_
  obtain ⟨es, clock, hb, _, hf⟩ := find_abs K h hkey hn
  have hrun : (Instr.lookup t (.map (some b)) key c).run P w = .ok (if c then .tuple #[z, .bool false] else z) w := by
    simp [Instr.lookup, run_underlying ht, MapKept.run_getObj_map hb, K.check w _ hkey, hf, hz, Result.andThen]
  unfold Oper.wp
  simp [execOp, hop, hm, hx, hrun, Result.andThen]
  exact hK' _ _ hK

theorem lookup_pres (c : Bool) (m x : Operand) (t : TypeId) (hg : o.guard = none) (hop : o.op = Op.lookup t m x c) (k e : TypeId) (K : Keyed P k) (ht : P.underlying t = some (.map k e))
    (b : Nat) (l : List (Value × Value)) (hm : a.eval m = .map (some b)) (h : MapIs P k w b l) (key v : Value) (q : Lit) (hx : a.eval x = key) (hkey : keyOf P k key = some q) (hn : (key, v) ∈ l)
    (hK : wpList P ops Q rest (a.put o.dst (if c then .tuple #[v, .bool true] else v)) w) : wpList P ops Q (o :: rest) a w := by
  refine wpList_plain hg fun K' hK' => ?_
  obtain ⟨es, clock, j, e0, hb, _, hf, _⟩ := find_pres K h hkey hn
  have hrun : (Instr.lookup t (.map (some b)) key c).run P w = .ok (if c then .tuple #[v, .bool true] else v) w := by
    simp [Instr.lookup, run_underlying ht, MapKept.run_getObj_map hb, K.check w _ hkey, hf, Result.andThen]
  unfold Oper.wp
  simp [execOp, hop, hm, hx, hrun, Result.andThen]
  exact hK' _ _ hK

theorem maplen (m : Operand) (t : TypeId) (hg : o.guard = none) (hop : o.op = Op.call { callee := Callee.builtin Builtin.len, args := #[m], argTypes := #[t] })
    (k e : TypeId) (ht : P.underlying t = some (.map k e)) (b : Nat) (l : List (Value × Value)) (hm : a.eval m = .map (some b)) (h : MapIs P k w b l)
    (hK : wpList P ops Q rest (a.put o.dst (.int .i64 (l.length : Int))) w) : wpList P ops Q (o :: rest) a w := by
  refine wpList_plain hg fun K' hK' => ?_
  obtain ⟨es, clock, hb, rfl, _⟩ := h
  have hrun : (Builtin.len_ #[t] o.type #[.map (some b)]).run P w = .ok (.int .i64 (es.size : Int)) w := by
    simp [Builtin.len_, run_underlying ht, MapKept.run_getObj_map hb, Result.andThen, goInt]
  unfold Oper.wp
  simp [execOp, hop, resolve, invoke, builtin, hm, hrun, Result.andThen]
  refine hK' _ _ ?_
  simpa using hK

theorem setObj_keeps {es : Array MapEntry} {clock : Nat} (hb : w.heap[b]? = some (.map es clock)) (ob : Obj) :
    Keeps (fun i => i = b) w { w with heap := w.heap.setIfInBounds b ob } ∧ ({ w with heap := w.heap.setIfInBounds b ob } : World).heap[b]? = some ob := by
  have hlt := (Array.getElem?_eq_some_iff.1 hb).1
  refine ⟨⟨rfl, rfl, rfl, by simp, fun i _ hi => ?_⟩, ?_⟩
  · simp only [Array.getElem?_setIfInBounds]; rw [if_neg (fun e => hi e.symm)]
  · simp [hlt]

theorem mapset_abs (m x y : Operand) (t : TypeId) (hg : o.guard = none) (hd : o.dst = none) (hop : o.op = Op.mapUpdate t m x y) (k e : TypeId) (K : Keyed P k) (ht : P.underlying t = some (.map k e))
    (b : Nat) (l : List (Value × Value)) (hm : a.eval m = .map (some b)) (h : MapIs P k w b l) (key : Value) (q : Lit) (hx : a.eval x = key) (hkey : keyOf P k key = some q) (hn : ∀ p ∈ l, p.1 ≠ key)
    (hK : ∀ w', MapIs P k w' b (l ++ [(key, a.eval y)]) → Keeps (fun i => i = b) w w' → w'.heap.size = w.heap.size → wpList P ops Q rest a w') : wpList P ops Q (o :: rest) a w := by
  refine wpList_plain hg fun K' hK' => ?_
  obtain ⟨es, clock, hb, hl, hf⟩ := find_abs K h hkey hn
  obtain ⟨es2, clock2, hb2, hl2, hk, hnd, hbn, hbl⟩ := h
  rw [hb] at hb2
  simp only [Option.some.injEq, Obj.map.injEq] at hb2
  obtain ⟨rfl, rfl⟩ := hb2
  have hrun : (Instr.mapUpdate t (.map (some b)) key (a.eval y)).run P w = .ok () { w with heap := w.heap.setIfInBounds b (.map (es.push { key, val := a.eval y, born := clock }) (clock + 1)) } := by
    simp [Instr.mapUpdate, run_underlying ht, MapKept.run_getObj_map hb, K.check w _ hkey, hf, MapKept.run_setObj_map _ hb, Result.andThen]
  obtain ⟨hs1, hs2⟩ := setObj_keeps hb (.map (es.push { key, val := a.eval y, born := clock }) (clock + 1))
  unfold Oper.wp
  simp only [execOp, hop, hm, hx, hrun, Sem.run_bind, Sem.run_pure, Result.andThen_ok, Oper.upon_skip, hd, Act.put]
  refine hK' _ _ (hK _ ⟨_, _, hs2, by simp [← hl], ?_, ?_, ?_, ?_⟩ hs1 (by simp))
  · intro p hp
    rcases List.mem_append.1 hp with hp | hp
    · exact hk p hp
    · simp at hp; subst hp; exact ⟨q, hkey⟩
  · rw [List.map_append, List.nodup_append]
    refine ⟨hnd, by simp, ?_⟩
    intro u hu v hv huv
    obtain ⟨p, hp, rfl⟩ := List.mem_map.1 hu
    simp at hv
    exact hn p hp (huv.trans hv)
  · simp only [Array.toList_push, List.map_append, List.nodup_append]
    refine ⟨hbn, by simp, ?_⟩
    intro u hu v hv huv
    obtain ⟨p, hp, rfl⟩ := List.mem_map.1 hu
    simp at hv
    have := hbl p hp
    omega
  · intro p hp
    simp only [Array.toList_push, List.mem_append, List.mem_singleton] at hp
    rcases hp with hp | rfl
    · have := hbl p hp; omega
    · simp

theorem mapset_pres (m x y : Operand) (t : TypeId) (hg : o.guard = none) (hd : o.dst = none) (hop : o.op = Op.mapUpdate t m x y) (k e : TypeId) (K : Keyed P k) (ht : P.underlying t = some (.map k e))
    (b : Nat) (l1 l2 : List (Value × Value)) (key v : Value) (hm : a.eval m = .map (some b)) (h : MapIs P k w b (l1 ++ (key, v) :: l2)) (q : Lit) (hx : a.eval x = key) (hkey : keyOf P k key = some q)
    (hK : ∀ w', MapIs P k w' b (l1 ++ (key, a.eval y) :: l2) → Keeps (fun i => i = b) w w' → w'.heap.size = w.heap.size → wpList P ops Q rest a w') : wpList P ops Q (o :: rest) a w := by
  refine wpList_plain hg fun K' hK' => ?_
  obtain ⟨es, clock, j, e0, hb, hl, hf, he0, hek, hev⟩ := find_pres K h hkey (v := v) (by simp)
  obtain ⟨es2, clock2, hb2, hl2, hk, hnd, hbn, hbl⟩ := h
  rw [hb] at hb2
  simp only [Option.some.injEq, Obj.map.injEq] at hb2
  obtain ⟨rfl, rfl⟩ := hb2
  have hjl : j < es.size := (Array.getElem?_eq_some_iff.1 he0).1
  have hj : j = l1.length := by
    have hnd' := nodup_ne hnd
    have h1 : ((l1 ++ (key, v) :: l2).map (·.1))[j]? = some key := by
      rw [← hl, List.map_map, List.getElem?_map]
      have : es.toList[j]? = some e0 := by simpa using he0
      rw [this]; simp [hek]
    have h2 : ((l1 ++ (key, v) :: l2).map (·.1))[l1.length]? = some key := by simp
    have hlen : (l1 ++ (key, v) :: l2).length = es.size := by rw [← hl]; simp
    have hlen2 : l1.length < es.size := by rw [← hlen]; simp
    rcases Nat.lt_trichotomy j l1.length with hlt | h | hlt
    · exact absurd (h1.trans h2.symm) (hnd' j l1.length hlt (by rw [List.length_map, hlen]; exact hlen2))
    · exact h
    · exact absurd (h2.trans h1.symm) (hnd' l1.length j hlt (by rw [List.length_map, hlen]; exact hjl))
  have hst := K.stays w hkey
  have hrun : (Instr.mapUpdate t (.map (some b)) key (a.eval y)).run P w = .ok () { w with heap := w.heap.setIfInBounds b (.map (es.modify j fun e => { e with key, val := a.eval y }) clock) } := by
    simp [Instr.mapUpdate, run_underlying ht, MapKept.run_getObj_map hb, K.check w _ hkey, hf, MapKept.run_setObj_map _ hb, Result.andThen, he0, hek, hst]
  obtain ⟨hs1, hs2⟩ := setObj_keeps hb (.map (es.modify j fun e => { e with key, val := a.eval y }) clock)
  have hlist : (es.modify j fun e => { e with key := key, val := a.eval y }).toList.map (fun e => (e.key, e.val)) = l1 ++ (key, a.eval y) :: l2 := by
    apply List.ext_getElem?
    intro i
    have hi : (es.toList.map (fun e => (e.key, e.val)))[i]? = (l1 ++ (key, v) :: l2)[i]? := by rw [hl]
    rw [List.getElem?_map] at hi ⊢
    simp only [Array.getElem?_toList, Array.getElem?_modify] at hi ⊢
    by_cases hij : j = i
    · subst hij
      rw [if_pos rfl, he0]
      subst hj
      simp
    · rw [if_neg hij, hi]
      subst hj
      rcases Nat.lt_trichotomy i l1.length with h1 | h1 | h1
      · rw [List.getElem?_append_left h1, List.getElem?_append_left h1]
      · exact absurd h1.symm hij
      · rw [List.getElem?_append_right (by omega), List.getElem?_append_right (by omega)]
        obtain ⟨d, hd⟩ : ∃ d, i - l1.length = d + 1 := ⟨i - l1.length - 1, by omega⟩
        rw [hd]; rfl
  have hborn : (es.modify j fun e => { e with key := key, val := a.eval y }).toList.map (·.born) = es.toList.map (·.born) := by
    apply List.ext_getElem?
    intro i
    simp only [List.getElem?_map, Array.getElem?_toList, Array.getElem?_modify]
    split
    · cases es[i]? <;> rfl
    · rfl
  unfold Oper.wp
  simp only [execOp, hop, hm, hx, hrun, Sem.run_bind, Sem.run_pure, Result.andThen_ok, Oper.upon_skip, hd, Act.put]
  refine hK' _ _ (hK _ ⟨_, _, hs2, hlist, ?_, ?_, ?_, ?_⟩ hs1 (by simp))
  · intro p hp
    rcases List.mem_append.1 hp with hp | hp
    · exact hk p (List.mem_append.2 (.inl hp))
    · rcases List.mem_cons.1 hp with rfl | hp
      · exact ⟨q, hkey⟩
      · exact hk p (List.mem_append.2 (.inr (List.mem_cons_of_mem _ hp)))
  · simpa using hnd
  · rw [hborn]; exact hbn
  · intro p hp
    have : p.born ∈ es.toList.map (·.born) := by rw [← hborn]; exact List.mem_map.2 ⟨p, hp, rfl⟩
    obtain ⟨p', hp', e⟩ := List.mem_map.1 this
    rw [← e]; exact hbl p' hp'
end laws

end Go.Proofs.Ytepddehodmljeaa
