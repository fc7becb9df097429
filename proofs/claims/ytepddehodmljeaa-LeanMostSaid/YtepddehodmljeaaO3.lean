/- Walks: order: a scale; same; above, its two halves being given. -/
import Derived.Test.YtepddehodmljeaaO2
namespace Go.Proofs.Ytepddehodmljeaa
open Go.RowKit Go.Maps Go.Shelf Go.WideMaps

def GtP (r a b : List Int) (i j : Nat) : Bool := gt (rkF r) ((tmOf a).sub i) ((tmOf b).sub j)
/-- Whatever the map of a scale holds is so. -/
def MapOk (r a b : List Int) (Bm : Nat) (w : World) : Prop := ∃ l, MapIs Try.prog 51 w Bm l ∧ ∀ p ∈ l, ∃ i j : Nat, i < a.length ∧ j < b.length ∧ p = (.agg #[.int .i64 i, .int .i64 j], .bool (GtP r a b i j))
/-- How a scale stands in memory. -/
structure ScIs (S Bm : Nat) (r a b : List Int) (rv av bv : Value) (w : World) : Prop where
  c0 : w.cell? ⟨S, 0, none⟩ = some rv
  c1 : w.cell? ⟨S, 1, none⟩ = some av
  c2 : w.cell? ⟨S, 2, none⟩ = some bv
  c3 : w.cell? ⟨S, 3, none⟩ = some (.map (some Bm))
  sl : S < w.heap.size
  ne : S ≠ Bm
  hr : IsInts (fun k => k ≠ Bm) w rv r
  ha : IsInts (fun k => k ≠ Bm) w av a
  hb : IsInts (fun k => k ≠ Bm) w bv b
  mp : MapOk r a b Bm w

variable {S Bm : Nat} {r a b : List Int} {rv av bv : Value} {w w' : World}
theorem ScIs.keep (h : ScIs S Bm r a b rv av bv w) (hk : Keeps (fun k => k = Bm) w w') (hm : MapOk r a b Bm w') : ScIs S Bm r a b rv av bv w' where
  c0 := (World.cell?_of_block (w := w) (hk.block S h.sl h.ne)).trans h.c0
  c1 := (World.cell?_of_block (w := w) (hk.block S h.sl h.ne)).trans h.c1
  c2 := (World.cell?_of_block (w := w) (hk.block S h.sl h.ne)).trans h.c2
  c3 := (World.cell?_of_block (w := w) (hk.block S h.sl h.ne)).trans h.c3
  sl := Nat.lt_of_lt_of_le h.sl hk.size
  ne := h.ne
  hr := h.hr.mono ⟨hk.size, fun k hk' hl => ⟨hk', hk.block k hl hk'⟩⟩
  ha := h.ha.mono ⟨hk.size, fun k hk' hl => ⟨hk', hk.block k hl hk'⟩⟩
  hb := h.hb.mono ⟨hk.size, fun k hk' hl => ⟨hk', hk.block k hl hk'⟩⟩
  mp := hm
theorem ScIs.lt (h : ScIs S Bm r a b rv av bv w) : Bm < w.heap.size := by obtain ⟨l, hm, -⟩ := h.mp; exact hm.lt
theorem ScIs.below (h : ScIs S Bm r a b rv av bv w) (hb : Below w.heap.size w w') : ScIs S Bm r a b rv av bv w' :=
  h.keep (.of_below hb) (by obtain ⟨l, hm, hl⟩ := h.mp; exact ⟨l, hm.keep (hb.block _ hm.lt), hl⟩)

set_option maxRecDepth 100000 in
theorem same_calls (ha : chk a = 0) (hb : chk b = 0) (h : ScIs S Bm r a b rv av bv w) {i j : Nat} (hi : i < a.length) (hj : j < b.length) :
    Calls Try.prog 211 #[.pointer (some ⟨S, 0, none⟩), .int .i64 i, .int .i64 j] w fun e w' => e = .returned (.bool (decide ((tmOf a).sub i = (tmOf b).sub j))) ∧ ∃ n, w' = w.drewN n := by
  obtain ⟨ba, oa, ca, rfl⟩ := h.ha.cells (ne_of_chk ha)
  obtain ⟨bb, ob, cb, rfl⟩ := h.hb.cells (ne_of_chk hb)
  have h1 : Hid (∀ n, Calls Try.prog 117 #[.slice (some ⟨ba, oa, none⟩) a.length ca, .int .i64 i] (w.drewN n) fun e w' => e = .returned (.slice (some ⟨ba, oa + i, none⟩) (enT a i - i) (enT a i - i)) ∧ ∃ m, w' = (w.drewN n).drewN m) := fun n =>
    (At_eq a ha ba oa ca i (w.drewN n) (h.ha.any.below (below_drewN _ w n)) hi).mono fun e w' q => ⟨q.1, 0, q.2.symm⟩
  have h2 : Hid (∀ n, Calls Try.prog 117 #[.slice (some ⟨bb, ob, none⟩) b.length cb, .int .i64 j] (w.drewN n) fun e w' => e = .returned (.slice (some ⟨bb, ob + j, none⟩) (enT b j - j) (enT b j - j)) ∧ ∃ m, w' = (w.drewN n).drewN m) := fun n =>
    (At_eq b hb bb ob cb j (w.drewN n) (h.hb.any.below (below_drewN _ w n)) hj).mono fun e w' q => ⟨q.1, 0, q.2.symm⟩
  have h3 := Lib.hid fun n => Equal_calls (paT a i) (paT b j) _ _ (w.drewN n) ((ints_part ha hi h.ha.any).below (below_drewN _ w n)) ((ints_part hb hj h.hb.any).below (below_drewN _ w n))
  have hs := Lib.hid (sub_same ha hb hi hj)
  have c1 := h.c1
  have c2 := h.c2
  clear h ha hb hi hj
  go_enter Try.func211, Try.ntmps211
  go_wp2_with fail
  go_quiet (first
    | (go_at_call 117; (with_reducible exact Calls.quiet_of (h1.out _)))
    | (go_at_call 117; (with_reducible exact Calls.quiet_of (h2.out _)))
    | (go_at_call 144; (with_reducible exact Calls.quiet_of (h3.out _))))
  go_wp2_with fail
  go_ret
  exact ⟨ret_bool hs.out, _, rfl⟩

theorem Try.arr51 : ArrKey Try.prog 51 3 2 := ⟨by kernel_rfl, by kernel_rfl, by kernel_rfl, by kernel_rfl⟩
theorem Try.keyed51 : Keyed Try.prog 51 := Keyed.of_law (Try.arr51.law)
theorem Try.tsz : ∃ m, Try.prog.types.size = m + 1 := ⟨Try.prog.types.size - 1, by decide +kernel⟩
theorem key51 {i j : Nat} (hi : i ≤ 30) (hj : j ≤ 30) : ∃ q, keyOf Try.prog 51 (.agg #[.int .i64 i, .int .i64 j]) = some q := by
  have := keyOf_pair Try.arr51 Try.underlying3 Try.tsz (a := (i : Int)) (b := (j : Int)) (wf_i64 (by omega) (by omega)) (wf_i64 (by omega) (by omega))
  exact ⟨_, this⟩
theorem key51_inj {i j k l : Nat} (h : (Value.agg #[.int .i64 i, .int .i64 j]) = .agg #[.int .i64 k, .int .i64 l]) : i = k ∧ j = l := by
  simp at h; omega

theorem run_look_abs {P : Program} {k e t : TypeId} {w : World} {b : Nat} {l : List (Value × Value)} (K : Keyed P k) (ht : P.underlying t = some (.map k e)) {z : Value} (hz : (zeroValue e).run P w = .ok z w) (h : MapIs P k w b l) {key : Value} {q : Lit}
    (hkey : keyOf P k key = some q) (hn : ∀ p ∈ l, p.1 ≠ key) : (Instr.lookup t (.map (some b)) key true).run P w = .ok (.tuple #[z, .bool false]) w := by
  obtain ⟨es, clock, hb, _, hf⟩ := find_abs K h hkey hn
  simp [Instr.lookup, run_underlying ht, MapKept.run_getObj_map hb, K.check w _ hkey, hf, hz, Result.andThen]
theorem run_look_pres {P : Program} {k e t : TypeId} {w : World} {b : Nat} {l : List (Value × Value)} (K : Keyed P k) (ht : P.underlying t = some (.map k e)) (h : MapIs P k w b l) {key v : Value} {q : Lit}
    (hkey : keyOf P k key = some q) (hn : (key, v) ∈ l) : (Instr.lookup t (.map (some b)) key true).run P w = .ok (.tuple #[v, .bool true]) w := by
  obtain ⟨es, clock, j, e0, hb, _, hf, _⟩ := find_pres K h hkey hn
  simp [Instr.lookup, run_underlying ht, MapKept.run_getObj_map hb, K.check w _ hkey, hf, Result.andThen]
theorem run_set_abs {P : Program} {k e t : TypeId} {w : World} {b : Nat} {l : List (Value × Value)} (K : Keyed P k) (ht : P.underlying t = some (.map k e)) (h : MapIs P k w b l) {key y : Value} {q : Lit}
    (hkey : keyOf P k key = some q) (hn : ∀ p ∈ l, p.1 ≠ key) : ∃ w', (Instr.mapUpdate t (.map (some b)) key y).run P w = .ok () w' ∧ MapIs P k w' b (l ++ [(key, y)]) ∧ Keeps (fun i => i = b) w w' := by
  obtain ⟨es, clock, hb, hl, hf⟩ := find_abs K h hkey hn
  obtain ⟨es2, clock2, hb2, hl2, hk, hnd, hbn, hbl⟩ := h
  rw [hb] at hb2
  simp only [Option.some.injEq, Obj.map.injEq] at hb2
  obtain ⟨rfl, rfl⟩ := hb2
  have hrun : (Instr.mapUpdate t (.map (some b)) key y).run P w = .ok () { w with heap := w.heap.setIfInBounds b (.map (es.push { key, val := y, born := clock }) (clock + 1)) } := by
    simp [Instr.mapUpdate, run_underlying ht, MapKept.run_getObj_map hb, K.check w _ hkey, hf, MapKept.run_setObj_map _ hb, Result.andThen]
  obtain ⟨hs1, hs2⟩ := setObj_keeps hb (.map (es.push { key, val := y, born := clock }) (clock + 1))
  refine ⟨_, hrun, ⟨_, _, hs2, by simp [← hl], ?_, ?_, ?_, ?_⟩, hs1⟩
  · intro p hp
    rcases List.mem_append.1 hp with hp | hp
    · exact hk p hp
    · simp at hp; subst hp; exact ⟨q, hkey⟩
  · rw [List.map_append, List.nodup_append]
    refine ⟨hnd, by simp, ?_⟩
    intro u hu v hv huv
    obtain ⟨p, hp, rfl⟩ := List.mem_map.1 hu
    simp at hv
    exact hn p hp (huv.trans hv)
  · simp only [Array.toList_push, List.map_append, List.nodup_append]
    refine ⟨hbn, by simp, ?_⟩
    intro u hu v hv huv
    obtain ⟨p, hp, rfl⟩ := List.mem_map.1 hu
    simp at hv
    have := hbl p hp
    omega
  · intro p hp
    simp only [Array.toList_push, List.mem_append, List.mem_singleton] at hp
    rcases hp with hp | rfl
    · have := hbl p hp; omega
    · simp


theorem run_set_pres {P : Program} {k e t : TypeId} {w : World} {b : Nat} {l1 l2 : List (Value × Value)} (K : Keyed P k) (ht : P.underlying t = some (.map k e)) {key v y : Value} (h : MapIs P k w b (l1 ++ (key, v) :: l2)) {q : Lit}
    (hkey : keyOf P k key = some q) : ∃ w', (Instr.mapUpdate t (.map (some b)) key y).run P w = .ok () w' ∧ MapIs P k w' b (l1 ++ (key, y) :: l2) ∧ Keeps (fun i => i = b) w w' := by
  obtain ⟨es, clock, j, e0, hb, hl, hf, he0, hek, hev⟩ := find_pres K h hkey (v := v) (by simp)
  obtain ⟨es2, clock2, hb2, hl2, hk, hnd, hbn, hbl⟩ := h
  rw [hb] at hb2
  simp only [Option.some.injEq, Obj.map.injEq] at hb2
  obtain ⟨rfl, rfl⟩ := hb2
  have hjl : j < es.size := (Array.getElem?_eq_some_iff.1 he0).1
  have hj : j = l1.length := by
    have hnd' := nodup_ne hnd
    have h1 : ((l1 ++ (key, v) :: l2).map (·.1))[j]? = some key := by
      rw [← hl, List.map_map, List.getElem?_map]
      have : es.toList[j]? = some e0 := by simpa using he0
      rw [this]; simp [hek]
    have h2 : ((l1 ++ (key, v) :: l2).map (·.1))[l1.length]? = some key := by simp
    have hlen : (l1 ++ (key, v) :: l2).length = es.size := by rw [← hl]; simp
    have hlen2 : l1.length < es.size := by rw [← hlen]; simp
    rcases Nat.lt_trichotomy j l1.length with hlt | h | hlt
    · exact absurd (h1.trans h2.symm) (hnd' j l1.length hlt (by rw [List.length_map, hlen]; exact hlen2))
    · exact h
    · exact absurd (h2.trans h1.symm) (hnd' l1.length j hlt (by rw [List.length_map, hlen]; exact hjl))
  have hst := K.stays w hkey
  have hrun : (Instr.mapUpdate t (.map (some b)) key y).run P w = .ok () { w with heap := w.heap.setIfInBounds b (.map (es.modify j fun e => { e with key, val := y }) clock) } := by
    simp [Instr.mapUpdate, run_underlying ht, MapKept.run_getObj_map hb, K.check w _ hkey, hf, MapKept.run_setObj_map _ hb, Result.andThen, he0, hek, hst]
  obtain ⟨hs1, hs2⟩ := setObj_keeps hb (.map (es.modify j fun e => { e with key, val := y }) clock)
  have hlist : (es.modify j fun e => { e with key := key, val := y }).toList.map (fun e => (e.key, e.val)) = l1 ++ (key, y) :: l2 := by
    apply List.ext_getElem?
    intro i
    have hi : (es.toList.map (fun e => (e.key, e.val)))[i]? = (l1 ++ (key, v) :: l2)[i]? := by rw [hl]
    rw [List.getElem?_map] at hi ⊢
    simp only [Array.getElem?_toList, Array.getElem?_modify] at hi ⊢
    by_cases hij : j = i
    · subst hij
      rw [if_pos rfl, he0]
      subst hj
      simp
    · rw [if_neg hij, hi]
      subst hj
      rcases Nat.lt_trichotomy i l1.length with h1 | h1 | h1
      · rw [List.getElem?_append_left h1, List.getElem?_append_left h1]
      · exact absurd h1.symm hij
      · rw [List.getElem?_append_right (by omega), List.getElem?_append_right (by omega)]
        obtain ⟨d, hd⟩ : ∃ d, i - l1.length = d + 1 := ⟨i - l1.length - 1, by omega⟩
        rw [hd]; rfl
  have hborn : (es.modify j fun e => { e with key := key, val := y }).toList.map (·.born) = es.toList.map (·.born) := by
    apply List.ext_getElem?
    intro i
    simp only [List.getElem?_map, Array.getElem?_toList, Array.getElem?_modify]
    split
    · cases es[i]? <;> rfl
    · rfl
  refine ⟨_, hrun, ⟨_, _, hs2, hlist, ?_, ?_, ?_, ?_⟩, hs1⟩
  · intro p hp
    rcases List.mem_append.1 hp with hp | hp
    · exact hk p (List.mem_append.2 (.inl hp))
    · rcases List.mem_cons.1 hp with rfl | hp
      · exact ⟨q, hkey⟩
      · exact hk p (List.mem_append.2 (.inr (List.mem_cons_of_mem _ hp)))
  · simpa using hnd
  · rw [hborn]; exact hbn
  · intro p hp
    have : p.born ∈ es.toList.map (·.born) := by rw [← hborn]; exact List.mem_map.2 ⟨p, hp, rfl⟩
    obtain ⟨p', hp', e⟩ := List.mem_map.1 this
    rw [← e]; exact hbl p' hp'

theorem run_set (h : MapOk r a b Bm w) {i j : Nat} (hi : i < a.length) (hj : j < b.length) (hi3 : i ≤ 30) (hj3 : j ≤ 30) :
    ∃ w', (Instr.mapUpdate 190 (.map (some Bm)) (.agg #[.int .i64 i, .int .i64 j]) (.bool (GtP r a b i j))).run Try.prog w = .ok () w' ∧ MapOk r a b Bm w' ∧ Keeps (fun k => k = Bm) w w' := by
  obtain ⟨l, hm, hl⟩ := h
  obtain ⟨q, hq⟩ := key51 (i := i) (j := j) hi3 hj3
  by_cases hp : ∃ v, (Value.agg #[.int .i64 i, .int .i64 j], v) ∈ l
  · obtain ⟨v, hv⟩ := hp
    obtain ⟨i', j', -, -, e⟩ := hl _ hv
    simp only [Prod.mk.injEq] at e
    obtain ⟨e1, rfl⟩ := e
    obtain ⟨rfl, rfl⟩ := key51_inj e1
    obtain ⟨l1, l2, rfl⟩ := List.append_of_mem hv
    obtain ⟨w', h1, h2, h3⟩ := run_set_pres (y := .bool (GtP r a b i j)) Try.keyed51 Try.underlying190 hm hq
    exact ⟨w', h1, ⟨_, h2, hl⟩, h3⟩
  · obtain ⟨w', h1, h2, h3⟩ := run_set_abs (y := .bool (GtP r a b i j)) Try.keyed51 Try.underlying190 hm hq (fun p hp' e => hp ⟨p.2, by rw [← e]; exact hp'⟩)
    refine ⟨w', h1, ⟨_, h2, fun p hp' => ?_⟩, h3⟩
    rcases List.mem_append.1 hp' with h4 | h4
    · exact hl p h4
    · simp at h4; exact ⟨i, j, hi, hj, h4⟩

theorem zero4 (w : World) : (zeroValue 4).run Try.prog w = .ok (.bool false) w := by kernel_rfl

/-! ### Two halves -/
def lexM (rk : Int → Int) : List Tm → List Tm → Bool
  | x :: xs, y :: ys => if x ≠ y then gt rk x y else lexM rk xs ys
  | _, _ => false
def byPt (rk : Int → Int) (A B : Tm) : Bool := A.parts.any fun p => decide (p = B) || gt rk p B
def byHt (rk : Int → Int) (A B : Tm) : Bool := decide (0 ≤ A.sg) && decide (0 ≤ B.sg) && B.parts.all (fun q => gt rk A q) && (if A.sg ≠ B.sg then decide (rk B.sg < rk A.sg) else lexM rk A.parts B.parts)
theorem gt_two {rk : Int → Int} {A B : Tm} (hA : A.ok) (hB : B.ok) : gt rk A B = (byPt rk A B || byHt rk A B) := by
  rw [gt_code]
  unfold byPt byHt
  congr 2
  by_cases hs : A.sg = B.sg
  · rw [if_neg (by simpa using hs), if_neg (by simpa using hs)]
    cases A with
    | leaf s => cases B <;> rfl
    | un s x =>
      cases B with
      | leaf t => rfl
      | un t y =>
        show (decide (x ≠ y) && gt rk x y) = if x ≠ y then gt rk x y else false
        by_cases h : x = y <;> simp [h]
      | bin t y z => have h1 : s = t := hs; have h2 := hA.1; have h3 := hB.1; rw [h1] at h2; omega
    | bin s x x' =>
      cases B with
      | leaf t => rfl
      | un t y => have h1 : s = t := hs; have h2 := hA.1; have h3 := hB.1; rw [h1] at h2; omega
      | bin t y y' =>
        show (if x ≠ y then gt rk x y else (decide (x' ≠ y') && gt rk x' y')) = if x ≠ y then gt rk x y else if x' ≠ y' then gt rk x' y' else false
        by_cases h : x = y
        · by_cases h' : x' = y' <;> simp [h, h']
        · simp [h]
  · rw [if_pos hs, if_pos hs]

/-- What a method of the scale does. -/
def ScCalls (f : FuncId) (S Bm : Nat) (r a b : List Int) (rv av bv : Value) (i j : Nat) (w : World) (res : Bool) : Prop :=
  Calls Try.prog f #[.pointer (some ⟨S, 0, none⟩), .int .i64 i, .int .i64 j] w fun e w' => e = .returned (.bool res) ∧ ScIs S Bm r a b rv av bv w' ∧ Keeps (fun k => k = Bm) w w'

set_option maxRecDepth 100000 in
theorem above_of (ha : chk a = 0) (hb : chk b = 0) {i j : Nat} (hi : i < a.length) (hj : j < b.length)
    (h1 : ∀ w, ScIs S Bm r a b rv av bv w → ScCalls 199 S Bm r a b rv av bv i j w (byPt (rkF r) ((tmOf a).sub i) ((tmOf b).sub j)))
    (h2 : ∀ w, ScIs S Bm r a b rv av bv w → ScCalls 200 S Bm r a b rv av bv i j w (byHt (rkF r) ((tmOf a).sub i) ((tmOf b).sub j)))
    (h : ScIs S Bm r a b rv av bv w) : ScCalls 178 S Bm r a b rv av bv i j w (GtP r a b i j) := by
  unfold ScCalls at h1 h2 ⊢
  have hla := len_of_chk ha
  have hlb := len_of_chk hb
  obtain ⟨q, hq⟩ := key51 (i := i) (j := j) (by omega) (by omega)
  have hal := below_alloc w (.cells #[.int .i64 i, .int .i64 j] 51)
  have c3 := (hal.cell (p := ⟨S, 3, none⟩) h.sl).trans h.c3
  obtain ⟨l, hm, hl⟩ := h.mp
  have hG := Lib.hid (gt_two (rk := rkF r) (sub_flat ha hi).1 (sub_flat hb hj).1)
  by_cases hp : ∃ v, (Value.agg #[.int .i64 i, .int .i64 j], v) ∈ l
  · obtain ⟨v, hv⟩ := hp
    obtain ⟨i', j', -, -, e⟩ := hl _ hv
    simp only [Prod.mk.injEq] at e
    obtain ⟨e1, rfl⟩ := e
    obtain ⟨rfl, rfl⟩ := key51_inj e1
    have hL : ∀ n, (Instr.lookup 190 (.map (some Bm)) (.agg #[.int .i64 i, .int .i64 j]) true).run Try.prog ((w.alloc (.cells #[.int .i64 i, .int .i64 j] 51)).drewN n) = .ok (.tuple #[.bool (GtP r a b i j), .bool true]) ((w.alloc (.cells #[.int .i64 i, .int .i64 j] 51)).drewN n) := fun n =>
      run_look_pres (w := (w.alloc (.cells #[.int .i64 i, .int .i64 j] 51)).drewN n) Try.keyed51 Try.underlying190 (hm.keep (hal.block _ hm.lt)) hq hv
    have H := Lib.hid h
    clear h hm hl hv e1 hq h1 h2
    go_enter Try.func178, Try.ntmps178
    go_wp2_with fail
    go_quiet (fail)
    go_wp2_with fail
    go_ret
    have hB := ext_trans hal (below_drewN _ _ nq)
    exact ⟨rfl, H.out.below hB, .of_below hB⟩
  · have hL : ∀ n, (Instr.lookup 190 (.map (some Bm)) (.agg #[.int .i64 i, .int .i64 j]) true).run Try.prog ((w.alloc (.cells #[.int .i64 i, .int .i64 j] 51)).drewN n) = .ok (.tuple #[.bool false, .bool false]) ((w.alloc (.cells #[.int .i64 i, .int .i64 j] 51)).drewN n) := fun n =>
      run_look_abs (w := (w.alloc (.cells #[.int .i64 i, .int .i64 j] 51)).drewN n) Try.keyed51 Try.underlying190 (zero4 _) (hm.keep (hal.block _ hm.lt)) hq (fun p hp' e => hp ⟨p.2, by rw [← e]; exact hp'⟩)
    have H := Lib.hid h
    have HW := Lib.hid fun W (h : MapOk r a b Bm W) => run_set h hi hj (by omega) (by omega)
    have hne : Bm ≠ w.heap.size := by have := hm.lt; omega
    have H1 := Lib.hid h1
    have H2 := Lib.hid h2
    clear h hm hl hq hp h1 h2
    go_enter Try.func178, Try.ntmps178
    go_wp2_with fail
    go_quiet (fail)
    have hB := Lib.hid (ext_trans hal (below_drewN _ (w.alloc (.cells #[.int .i64 i, .int .i64 j] 51)) nq))
    have k0 : ((w.alloc (.cells #[.int .i64 i, .int .i64 j] 51)).drewN nq).cell? ⟨w.heap.size, 0, none⟩ = some (.int .i64 i) := World.cell?_alloc_at _ _ _ _ rfl
    have k1 : ((w.alloc (.cells #[.int .i64 i, .int .i64 j] 51)).drewN nq).cell? ⟨w.heap.size, 1, none⟩ = some (.int .i64 j) := World.cell?_alloc_at _ _ _ _ rfl
    have hzz : w.heap.size < ((w.alloc (.cells #[.int .i64 i, .int .i64 j] 51)).drewN nq).heap.size := by simp
    have C1 := Lib.hid (H1.out _ (H.out.below hB.out))
    clear c3 hL hal
    generalize hw1 : (w.alloc (.cells #[.int .i64 i, .int .i64 j] 51)).drewN nq = w1 at *
    go_wp2_with fail
    refine C1.out.mono ?_
    rintro e w2 ⟨rfl, hS2, hK2⟩
    have HS2 := Lib.hid hS2
    have HK2 := Lib.hid hK2
    clear hS2 hK2 C1
    cases hb1 : byPt (rkF r) ((tmOf a).sub i) ((tmOf b).sub j)
    · have C2 := Lib.hid (H2.out _ HS2.out)
      have hg1 : Hid (GtP r a b i j = byHt (rkF r) ((tmOf a).sub i) ((tmOf b).sub j)) := by rw [Hid, GtP, hG.out, hb1]; rfl
      clear hb1
      go_wp2_with fail
      refine C2.out.mono ?_
      rintro e w4 ⟨rfl, hS4, hK4⟩
      have e1 := (World.cell?_of_block (w := w1) ((HK2.out.trans hK4).block _ hzz (fun e => hne e.symm))).trans k0
      have e2 := (World.cell?_of_block (w := w1) ((HK2.out.trans hK4).block _ hzz (fun e => hne e.symm))).trans k1
      have e3 := hS4.c3
      obtain ⟨w3, hU, hm3, hk3⟩ := HW.out w4.drew hS4.mp
      rw [hg1.out] at hU
      have HE := Lib.hid (And.intro hS4 (And.intro hK4 (And.intro hm3 hk3)))
      clear hS4 hK4 hm3 hk3 k0 k1 C2
      go_wp2_with fail
      go_region
      all_goals
        go_wp2_with fail
        go_ret
        obtain ⟨hS4, hK4, hm3, hk3⟩ := HE.out
        have hk : Keeps (fun k => k = Bm) w w3 := (Keeps.of_below hB.out).trans (HK2.out.trans (hK4.trans ((Keeps.of_below (below_drew _ w4)).trans hk3)))
        exact ⟨ret_bool hg1.out.symm, H.out.keep hk hm3, hk⟩
    · have hg1 : Hid (GtP r a b i j = true) := by rw [Hid, GtP, hG.out, hb1]; rfl
      clear hb1
      have e1 := (World.cell?_of_block (w := w1) (HK2.out.block _ hzz (fun e => hne e.symm))).trans k0
      have e2 := (World.cell?_of_block (w := w1) (HK2.out.block _ hzz (fun e => hne e.symm))).trans k1
      have e3 := HS2.out.c3
      obtain ⟨w3, hU, hm3, hk3⟩ := HW.out w2.drew HS2.out.mp
      rw [hg1.out] at hU
      have HE := Lib.hid (And.intro hm3 hk3)
      clear hm3 hk3 k0 k1
      go_wp2_with fail
      go_region
      all_goals
        go_wp2_with fail
        go_ret
        obtain ⟨hm3, hk3⟩ := HE.out
        have hk : Keeps (fun k => k = Bm) w w3 := (Keeps.of_below hB.out).trans (HK2.out.trans ((Keeps.of_below (below_drew _ w2)).trans hk3))
        exact ⟨ret_bool hg1.out.symm, H.out.keep hk hm3, hk⟩

end Go.Proofs.Ytepddehodmljeaa
